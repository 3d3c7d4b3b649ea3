/-
  Texts of this family, one behind the other: Sh2.
-/
import Derived.Test.YtmecgoojoipilaaDoorA2
noncomputable section
set_option linter.unusedVariables false
set_option maxRecDepth 100000
namespace Sx
open Go Go.Proofs
def sh_intern_Table_Put (C : Ctx) (p_t : Option (Nat × Nat)) (p_v : T_api_Value) (K : Int → Int → Heap → Prop) (H : Heap) : Prop :=
  nw (T_api_Value.c p_v) (fun b1 H2 =>
 ift (Option.isNone p_t)
 (K 0 2 H2)
 (ldT H2 T_api_Value.c (b1, 0) fun x4 =>
 c_value_Check C x4 (fun r6 H7 =>
 ift ((r6 : Int) != 0)
 (K 0 r6 H7)
 (ldT H7 T_api_Value.c (b1, 0) fun x9 =>
 c_value_Show C x9 (fun r11 H12 =>
 nck p_t fun p13 =>
 ldM H12 (p13.1, p13.2 + 1) fun x15 =>
 lkM (fun x : Int => (.int .i64 x : Value)) 0 x15 r11 (fun x17 is18 =>
 jn (α := Int) (fun x21 H22 =>
 K x21 0 H22)
 (fun J20 => ift (!is18)
 (nck p_t fun p25 =>
 ldL H12 (p25.1, p25.2 + 0) fun x27 =>
 nck p_t fun p29 =>
 ldM H12 (p29.1, p29.2 + 1) fun x31 =>
 upM (fun x : Int => (.int .i64 x : Value)) x31 r11 (Sl.len x27 : Int) (fun H33 =>
 dr H33 fun Hs34 =>
 nck p_t fun p36 =>
 ldL Hs34 (p36.1, p36.2 + 0) fun x38 =>
 ldT Hs34 T_api_Value.c (b1, 0) fun x40 =>
 nw ((T_api_Value.c x40) ++ []) (fun b43 H44 =>
 Heap.le Hs34 H44 ∧
 c_intern_own C (Sl.of (some (b43, 0)) 1 1) (fun r46 H47 =>
 Heap.le Hs34 H47 ∧
 apS (T_api_Value.c T_api_Value.zero) 56 x38 r46 (fun r49 H50 =>
 Heap.le Hs34 H50 ∧
 nck p_t fun p51 =>
 st (p51.1, p51.2 + 0) (slv r49) (fun H53 =>
 J20 (Sl.len x27 : Int) H53) H50) H47) H44) H33) H12)
 (J20 x17 H12))) H12) H7)) H2)) H

theorem ad_intern_Table_Put (C : Ctx) (p_t : Option (Nat × Nat)) (p_v : T_api_Value) (K : Int → Int → Heap → Prop) (H : Heap) (h : sh_intern_Table_Put C p_t p_v K H) : c_intern_Table_Put C p_t p_v K H := by
  refine Spec.enter Tryd.func13 rfl Tryd.ntmps13 rfl ?_
  refine GC.sub [(0, pv p_t), (1, .agg (T_api_Value.c p_v).toArray)] ⟨rfl, rfl, trivial⟩ ?_
  refine GC.seq ?_
  refine GC.region ?_
  refine GL.box (v := .agg (T_api_Value.c p_v).toArray) (cs := T_api_Value.c p_v) h trivial rfl rfl rfl ?_
  intro b1 H2 h
  refine GL.val trivial rfl (OV.assign (v := .int .i64 0) rfl) ?_
  refine GL.val trivial rfl (OV.assign (v := .int .i64 0) rfl) ?_
  refine GL.nil ?_
  refine GC.seq ?_
  refine GC.seq ?_
  refine GC.region ?_
  refine GL.val trivial rfl (OV.move (v := pv p_t) rfl) ?_
  refine GL.val trivial rfl (OV.eqlNil (p := p_t) rfl rfl rfl) ?_
  refine GL.nil ?_
  refine GC.cond (b := Option.isNone p_t) rfl (fun hc3 => ?_) (fun hc3 => ?_)
  · replace h := And.left h hc3
    refine GC.seq ?_
    refine GC.region ?_
    refine GL.val trivial rfl (OV.assign (v := .int .i64 0) rfl) ?_
    refine GL.val trivial rfl (OV.assign (v := .int .i64 2) rfl) ?_
    refine GL.nil ?_
    exact GC.ret (fun _ _ hf hs => post_tmp2 rfl rfl rfl hf hs ⟨0, 2, rfl, h⟩)
  · replace h := And.right h hc3
    refine GC.skip ?_
    refine GC.seq ?_
    refine GC.seq ?_
    refine GC.region ?_
    obtain ⟨x4, hr5, h⟩ := h
    refine GL.val trivial rfl (OV.loadT (p := (b1, 0)) (cs := T_api_Value.c x4) rfl rfl rfl hr5) ?_
    refine GL.call h trivial rfl ok_value_Check (vs := [.agg (T_api_Value.c x4).toArray]) rfl ?_
    rintro _ H7 ⟨r6, rfl, h⟩
    refine GL.val trivial rfl (OV.assign (v := .int .i64 r6) rfl) ?_
    refine GL.nil ?_
    refine GC.seq ?_
    refine GC.region ?_
    refine GL.val trivial rfl (OV.move (v := .int .i64 r6) rfl) ?_
    refine GL.val trivial rfl (OV.ibin (v := .bool ((r6 : Int) != 0)) rfl rfl rfl) ?_
    refine GL.nil ?_
    refine GC.cond (b := (r6 : Int) != 0) rfl (fun hc8 => ?_) (fun hc8 => ?_)
    · replace h := And.left h hc8
      refine GC.seq ?_
      refine GC.region ?_
      refine GL.val trivial rfl (OV.move (v := .int .i64 r6) rfl) ?_
      refine GL.val trivial rfl (OV.assign (v := .int .i64 0) rfl) ?_
      refine GL.val trivial rfl (OV.assign (v := .int .i64 r6) rfl) ?_
      refine GL.nil ?_
      exact GC.ret (fun _ _ hf hs => post_tmp2 rfl rfl rfl hf hs ⟨0, r6, rfl, h⟩)
    · replace h := And.right h hc8
      refine GC.skip ?_
      refine GC.seq ?_
      refine GC.region ?_
      obtain ⟨x9, hr10, h⟩ := h
      refine GL.val trivial rfl (OV.loadT (p := (b1, 0)) (cs := T_api_Value.c x9) rfl rfl rfl hr10) ?_
      refine GL.call h trivial rfl ok_value_Show (vs := [.agg (T_api_Value.c x9).toArray]) rfl ?_
      rintro _ H12 ⟨r11, rfl, h⟩
      refine GL.val trivial rfl (OV.assign (v := sv r11) rfl) ?_
      refine GL.nil ?_
      refine GC.seq ?_
      refine GC.region ?_
      refine GL.val trivial rfl (OV.move (v := pv p_t) rfl) ?_
      obtain ⟨p13, hp14, h⟩ := h
      refine GL.val trivial rfl (OV.nilCheck (q := p_t) rfl hp14) ?_
      refine GL.val trivial rfl (OV.fieldAddr (p := p13) rfl rfl) ?_
      obtain ⟨x15, hr16, h⟩ := h
      refine GL.val trivial rfl (OV.load (p := (p13.1, p13.2 + 1)) rfl rfl hr16) ?_
      refine GL.val trivial rfl (OV.move (v := sv r11) rfl) ?_
      obtain ⟨x17, is18, hr19, h⟩ := h
      refine GL.val trivial rfl (OV.lookup2 (v := .tuple #[.int .i64 x17, .bool is18]) (enc := (fun x : Int => (.int .i64 x : Value))) (z := 0) (q := x15) (k := r11) (x := x17) (b := is18) rfl hr19 rfl rfl rfl rfl rfl) ?_
      refine GL.val trivial rfl (OV.move (v := .tuple #[.int .i64 x17, .bool is18]) rfl) ?_
      refine GL.val trivial rfl (OV.extract (v := .int .i64 x17) rfl rfl) ?_
      refine GL.val trivial rfl (OV.extract (v := .bool is18) rfl rfl) ?_
      refine GL.val trivial rfl (OV.assign (v := .int .i64 x17) rfl) ?_
      refine GL.val trivial rfl (OV.assign (v := .bool is18) rfl) ?_
      refine GL.nil ?_
      obtain ⟨J20, h, hR23⟩ := h
      refine GC.join (α := Int) J20 (fun x21 => [(8, .int .i64 x21)]) ?_ ?_
      · skip
        refine GC.seq ?_
        refine GC.region ?_
        refine GL.val trivial rfl (OV.move (v := .bool is18) rfl) ?_
        refine GL.val trivial rfl (OV.not rfl) ?_
        refine GL.nil ?_
        refine GC.cond (b := !is18) rfl (fun hc24 => ?_) (fun hc24 => ?_)
        · replace h := And.left h hc24
          refine GC.seq ?_
          refine GC.region ?_
          refine GL.val trivial rfl (OV.move (v := pv p_t) rfl) ?_
          obtain ⟨p25, hp26, h⟩ := h
          refine GL.val trivial rfl (OV.nilCheck (q := p_t) rfl hp26) ?_
          refine GL.val trivial rfl (OV.fieldAddr (p := p25) rfl rfl) ?_
          obtain ⟨x27, hr28, h⟩ := h
          refine GL.val trivial rfl (OV.load (p := (p25.1, p25.2 + 0)) rfl rfl hr28) ?_
          refine GL.val trivial rfl (OV.lenSl (s := x27) rfl rfl) ?_
          refine GL.val trivial rfl (OV.assign (v := .int .i64 (Sl.len x27 : Int)) rfl) ?_
          refine GL.nil ?_
          refine GC.seq ?_
          refine GC.region ?_
          refine GL.val trivial rfl (OV.move (v := pv p_t) rfl) ?_
          obtain ⟨p29, hp30, h⟩ := h
          refine GL.val trivial rfl (OV.nilCheck (q := p_t) rfl hp30) ?_
          refine GL.val trivial rfl (OV.fieldAddr (p := p29) rfl rfl) ?_
          obtain ⟨x31, hr32, h⟩ := h
          refine GL.val trivial rfl (OV.load (p := (p29.1, p29.2 + 1)) rfl rfl hr32) ?_
          refine GL.val trivial rfl (OV.move (v := sv r11) rfl) ?_
          refine GL.val trivial rfl (OV.move (v := .int .i64 (Sl.len x27 : Int)) rfl) ?_
          refine GL.mapUpdate (enc := (fun x : Int => (.int .i64 x : Value))) (q := x31) (k := r11) (x := (Sl.len x27 : Int)) h trivial rfl rfl rfl rfl rfl ?_
          intro H33 h
          refine GL.nil ?_
          obtain ⟨Hs34, hle35, h⟩ := h
          refine GC.tail (Hs := Hs34) 11 (by kernel_rfl) hle35 (by kernel_rfl) ?_
          refine GT.take 0 rfl (by kernel_rfl) (by kernel_rfl) (by kernel_rfl) rfl (fun _ _ _ h => False.elim h) trivial rfl (OV.move (v := pv p_t) rfl) ?_
          refine GT.take 1 rfl (by kernel_rfl) (by kernel_rfl) (by kernel_rfl) rfl (fun _ _ _ h => False.elim h) trivial rfl (OV.move (v := pv p_t) rfl) ?_
          obtain ⟨p36, hp37, h⟩ := h
          refine GT.take 2 rfl (by kernel_rfl) (by kernel_rfl) (by kernel_rfl) rfl (fun _ _ _ h => False.elim h) trivial rfl (OV.nilCheck (q := p_t) rfl hp37) ?_
          refine GT.take 3 rfl (by kernel_rfl) (by kernel_rfl) (by kernel_rfl) rfl (fun _ _ _ h => False.elim h) trivial rfl (OV.fieldAddr (p := p36) rfl rfl) ?_
          obtain ⟨x38, hr39, h⟩ := h
          refine GT.take 4 rfl (by kernel_rfl) (by kernel_rfl) (by kernel_rfl) rfl (fun _ _ _ h => False.elim h) trivial rfl (OV.load (p := (p36.1, p36.2 + 0)) rfl rfl hr39) ?_
          obtain ⟨x40, hr41, h⟩ := h
          refine GT.take 5 rfl (by kernel_rfl) (by kernel_rfl) (by kernel_rfl) rfl (fun _ _ _ h => False.elim h) trivial rfl (OV.loadT (p := (b1, 0)) (cs := T_api_Value.c x40) rfl rfl rfl hr41) ?_
          refine GT.eff 6 rfl (by kernel_rfl) rfl ?_
          refine GL.buildSlice (cs := (T_api_Value.c x40) ++ []) h trivial rfl (vs := [(0, .agg (T_api_Value.c x40).toArray)]) rfl ⟨41, fun _ => by kernel_rfl⟩ ?_
          intro b43 H44 h
          obtain ⟨hle42, h⟩ := h
          refine GT.back hle42 ?_
          refine GT.eff 7 rfl (by kernel_rfl) rfl ?_
          refine GL.call h trivial rfl ok_intern_own (vs := [slv (Sl.of (some (b43, 0)) 1 1)]) rfl ?_
          rintro _ H47 ⟨r46, rfl, h⟩
          obtain ⟨hle45, h⟩ := h
          refine GT.back hle45 ?_
          refine GT.eff 8 rfl (by kernel_rfl) rfl ?_
          refine GL.appendS (s := x38) (s2 := r46) (zc := T_api_Value.c T_api_Value.zero) (bytes := 56) h trivial rfl rfl rfl ⟨⟨_, _, _, rfl, rfl, rfl, rfl, rfl, rfl⟩⟩ rfl ?_
          intro r49 H50 h
          obtain ⟨hle48, h⟩ := h
          refine GT.back hle48 ?_
          obtain ⟨p51, hp52, h⟩ := h
          refine GT.take 9 rfl (by kernel_rfl) (by kernel_rfl) (by kernel_rfl) rfl (fun _ _ _ h => False.elim h) trivial rfl (OV.nilCheck (q := p_t) rfl hp52) ?_
          refine GT.take 10 rfl (by kernel_rfl) (by kernel_rfl) (by kernel_rfl) rfl (fun _ _ _ h => False.elim h) trivial rfl (OV.fieldAddr (p := p51) rfl rfl) ?_
          refine GT.done (by kernel_rfl) ?_
          show GL _ _ _ _ _ [_] _ _
          refine GL.store (p := (p51.1, p51.2 + 0)) (v := slv r49) h trivial rfl rfl rfl rfl ?_
          intro H53 h
          exact GL.jump (fun _ _ h => h) (Sl.len x27 : Int) h ⟨rfl, trivial⟩
        · replace h := And.right h hc24
          exact GC.jump (fun _ _ h => h) x17 h ⟨rfl, trivial⟩
      · intro x21 H22 h
        replace h := hR23 x21 H22 h
        refine GC.seq ?_
        refine GC.region ?_
        refine GL.val trivial rfl (OV.move (v := .int .i64 x21) rfl) ?_
        refine GL.val trivial rfl (OV.assign (v := .int .i64 x21) rfl) ?_
        refine GL.val trivial rfl (OV.assign (v := .int .i64 0) rfl) ?_
        refine GL.nil ?_
        exact GC.ret (fun _ _ hf hs => post_tmp2 rfl rfl rfl hf hs ⟨x21, 0, rfl, h⟩)

def sh_value_Check (C : Ctx) (p_v : T_api_Value) (K : Int → Heap → Prop) (H : Heap) : Prop :=
  nw (T_api_Value.c p_v) (fun b1 H2 =>
 ldT H2 T_api_Value.c (b1, 0) fun x3 =>
 c_value_depth C x3 65 (fun r5 H6 =>
 ift (decide ((r5 : Int) > 64))
 (K 65 H6)
 (ldT H6 T_api_Value.c (b1, 0) fun x8 =>
 c_value_item_look C x8 (fun r10 r11 H12 =>
 ift (!r10)
 (K 4 H12)
 (ift (!r11)
 (K 40 H12)
 (K 0 H12))) H6)) H2) H

theorem ad_value_Check (C : Ctx) (p_v : T_api_Value) (K : Int → Heap → Prop) (H : Heap) (h : sh_value_Check C p_v K H) : c_value_Check C p_v K H := by
  refine Spec.enter Tryd.func14 rfl Tryd.ntmps14 rfl ?_
  refine GC.sub [(0, .agg (T_api_Value.c p_v).toArray)] ⟨rfl, trivial⟩ ?_
  refine GC.seq ?_
  refine GC.region ?_
  refine GL.box (v := .agg (T_api_Value.c p_v).toArray) (cs := T_api_Value.c p_v) h trivial rfl rfl rfl ?_
  intro b1 H2 h
  refine GL.val trivial rfl (OV.assign (v := .int .i64 0) rfl) ?_
  refine GL.nil ?_
  refine GC.seq ?_
  refine GC.seq ?_
  refine GC.region ?_
  obtain ⟨x3, hr4, h⟩ := h
  refine GL.val trivial rfl (OV.loadT (p := (b1, 0)) (cs := T_api_Value.c x3) rfl rfl rfl hr4) ?_
  refine GL.call h trivial rfl ok_value_depth (vs := [.agg (T_api_Value.c x3).toArray, .int .i64 65]) rfl ?_
  rintro _ H6 ⟨r5, rfl, h⟩
  refine GL.val trivial rfl (OV.ibin (v := .bool (decide ((r5 : Int) > 64))) rfl rfl rfl) ?_
  refine GL.nil ?_
  refine GC.cond (b := decide ((r5 : Int) > 64)) rfl (fun hc7 => ?_) (fun hc7 => ?_)
  · replace h := And.left h hc7
    refine GC.seq ?_
    refine GC.region ?_
    refine GL.val trivial rfl (OV.assign (v := .int .i64 65) rfl) ?_
    refine GL.nil ?_
    exact GC.ret (fun _ _ hf hs => post_tmp1 rfl rfl hf hs ⟨65, rfl, h⟩)
  · replace h := And.right h hc7
    refine GC.skip ?_
    refine GC.seq ?_
    refine GC.seq ?_
    refine GC.region ?_
    obtain ⟨x8, hr9, h⟩ := h
    refine GL.val trivial rfl (OV.loadT (p := (b1, 0)) (cs := T_api_Value.c x8) rfl rfl rfl hr9) ?_
    refine GL.call h trivial rfl ok_value_item_look (vs := [.agg (T_api_Value.c x8).toArray]) rfl ?_
    rintro _ H12 ⟨r10, r11, rfl, h⟩
    refine GL.val trivial rfl (OV.move (v := .tuple #[.bool r10, .bool r11]) rfl) ?_
    refine GL.val trivial rfl (OV.extract (v := .bool r10) rfl rfl) ?_
    refine GL.val trivial rfl (OV.extract (v := .bool r11) rfl rfl) ?_
    refine GL.val trivial rfl (OV.assign (v := .bool r10) rfl) ?_
    refine GL.val trivial rfl (OV.assign (v := .bool r11) rfl) ?_
    refine GL.nil ?_
    refine GC.block ?_
    refine GC.seq ?_
    refine GC.region ?_
    refine GL.val trivial rfl (OV.move (v := .bool r10) rfl) ?_
    refine GL.val trivial rfl (OV.not rfl) ?_
    refine GL.val trivial rfl (OV.assign (v := .bool (!r10)) rfl) ?_
    refine GL.nil ?_
    refine GC.cond (b := !r10) rfl (fun hc13 => ?_) (fun hc13 => ?_)
    · replace h := And.left h hc13
      refine GC.seq ?_
      refine GC.region ?_
      refine GL.val trivial rfl (OV.assign (v := .int .i64 4) rfl) ?_
      refine GL.nil ?_
      exact GC.ret (fun _ _ hf hs => post_tmp1 rfl rfl hf hs ⟨4, rfl, h⟩)
    · replace h := And.right h hc13
      refine GC.seq ?_
      refine GC.region ?_
      refine GL.val trivial rfl (OV.move (v := .bool r11) rfl) ?_
      refine GL.val trivial rfl (OV.not rfl) ?_
      refine GL.val trivial rfl (OV.assign (v := .bool (!r11)) rfl) ?_
      refine GL.nil ?_
      refine GC.cond (b := !r11) rfl (fun hc14 => ?_) (fun hc14 => ?_)
      · replace h := And.left h hc14
        refine GC.seq ?_
        refine GC.region ?_
        refine GL.val trivial rfl (OV.assign (v := .int .i64 40) rfl) ?_
        refine GL.nil ?_
        exact GC.ret (fun _ _ hf hs => post_tmp1 rfl rfl hf hs ⟨40, rfl, h⟩)
      · replace h := And.right h hc14
        refine GC.skip_to (fun _ _ h => h) ?_
        refine GC.seq ?_
        refine GC.region ?_
        refine GL.val trivial rfl (OV.assign (v := .int .i64 0) rfl) ?_
        refine GL.nil ?_
        exact GC.ret (fun _ _ hf hs => post_tmp1 rfl rfl hf hs ⟨0, rfl, h⟩)

def sh_intern_Table_At (C : Ctx) (p_t : Option (Nat × Nat)) (p_n : Int) (K : T_api_Value → Int → Heap → Prop) (H : Heap) : Prop :=
  nw (T_api_Value.c T_api_Value.zero) (fun b1 H2 =>
 nw ([.int .i64 p_n]) (fun b3 H4 =>
 c_intern_Table_Row C p_t (Sl.of (some (b3, 0)) 1 1) (fun r5 r6 H7 =>
 ift ((r6 : Int) != 0)
 (stT (b1, 0) (T_api_Value.c (⟨0, 0, [], Sl.nil⟩ : T_api_Value)) (fun H9 =>
 ldT H9 T_api_Value.c (b1, 0) fun x10 =>
 K x10 r6 H9) H7)
 (ixa r5 0 fun p12 =>
 ldT H7 T_api_Value.c (p12.1, p12.2 + (0 : Int).toNat * 4) fun x17 =>
 stT (b1, 0) (T_api_Value.c x17) (fun H19 =>
 ldT H19 T_api_Value.c (b1, 0) fun x20 =>
 K x20 0 H19) H7)) H4) H2) H

theorem ad_intern_Table_At (C : Ctx) (p_t : Option (Nat × Nat)) (p_n : Int) (K : T_api_Value → Int → Heap → Prop) (H : Heap) (h : sh_intern_Table_At C p_t p_n K H) : c_intern_Table_At C p_t p_n K H := by
  refine Spec.enter Tryd.func15 rfl Tryd.ntmps15 rfl ?_
  refine GC.sub [(0, pv p_t), (1, .int .i64 p_n)] ⟨rfl, rfl, trivial⟩ ?_
  refine GC.seq ?_
  refine GC.region ?_
  refine GL.alloc (cs := T_api_Value.c T_api_Value.zero) h trivial rfl rfl rfl ?_
  intro b1 H2 h
  refine GL.val trivial rfl (OV.assign (v := .int .i64 0) rfl) ?_
  refine GL.nil ?_
  refine GC.seq ?_
  refine GC.region ?_
  refine GL.val trivial rfl (OV.move (v := pv p_t) rfl) ?_
  refine GL.val trivial rfl (OV.move (v := .int .i64 p_n) rfl) ?_
  refine GL.buildSlice (cs := [.int .i64 p_n]) h trivial rfl (vs := [(0, .int .i64 p_n)]) rfl ⟨3, fun _ => by kernel_rfl⟩ ?_
  intro b3 H4 h
  refine GL.call h trivial rfl ok_intern_Table_Row (vs := [pv p_t, slv (Sl.of (some (b3, 0)) 1 1)]) rfl ?_
  rintro _ H7 ⟨r5, r6, rfl, h⟩
  refine GL.val trivial rfl (OV.move (v := .tuple #[slv r5, .int .i64 r6]) rfl) ?_
  refine GL.val trivial rfl (OV.extract (v := slv r5) rfl rfl) ?_
  refine GL.val trivial rfl (OV.extract (v := .int .i64 r6) rfl rfl) ?_
  refine GL.val trivial rfl (OV.assign (v := slv r5) rfl) ?_
  refine GL.val trivial rfl (OV.assign (v := .int .i64 r6) rfl) ?_
  refine GL.nil ?_
  refine GC.seq ?_
  refine GC.seq ?_
  refine GC.region ?_
  refine GL.val trivial rfl (OV.move (v := .int .i64 r6) rfl) ?_
  refine GL.val trivial rfl (OV.ibin (v := .bool ((r6 : Int) != 0)) rfl rfl rfl) ?_
  refine GL.nil ?_
  refine GC.cond (b := (r6 : Int) != 0) rfl (fun hc8 => ?_) (fun hc8 => ?_)
  · replace h := And.left h hc8
    refine GC.seq ?_
    refine GC.region ?_
    refine GL.val trivial rfl (OV.build (vs := []) (v := .agg (T_api_Value.c (⟨0, 0, [], Sl.nil⟩ : T_api_Value)).toArray) rfl (fun _ => by kernel_rfl)) ?_
    refine GL.val trivial rfl (OV.move (v := .int .i64 r6) rfl) ?_
    refine GL.storeT (p := (b1, 0)) (vs := T_api_Value.c (⟨0, 0, [], Sl.nil⟩ : T_api_Value)) h trivial rfl rfl rfl rfl ?_
    intro H9 h
    refine GL.val trivial rfl (OV.assign (v := .int .i64 r6) rfl) ?_
    refine GL.nil ?_
    obtain ⟨x10, hr11, h⟩ := h
    exact GC.ret (fun _ _ hf hs => post_res2 rfl (RV.cellT (p := (b1, 0)) (cs := T_api_Value.c x10) rfl rfl rfl hr11) (RV.tmp rfl) hf hs ⟨x10, r6, rfl, h⟩)
  · replace h := And.right h hc8
    refine GC.skip ?_
    refine GC.seq ?_
    refine GC.region ?_
    refine GL.val trivial rfl (OV.move (v := slv r5) rfl) ?_
    obtain ⟨p12, ha13, hb14, hc15, hd16, h⟩ := h
    refine GL.val trivial rfl (OV.indexAddr (s := r5) rfl rfl rfl rfl ha13 hb14 hc15 hd16) ?_
    obtain ⟨x17, hr18, h⟩ := h
    refine GL.val trivial rfl (OV.loadT (p := (p12.1, p12.2 + (0 : Int).toNat * 4)) (cs := T_api_Value.c x17) rfl rfl rfl hr18) ?_
    refine GL.storeT (p := (b1, 0)) (vs := T_api_Value.c x17) h trivial rfl rfl rfl rfl ?_
    intro H19 h
    refine GL.val trivial rfl (OV.assign (v := .int .i64 0) rfl) ?_
    refine GL.nil ?_
    obtain ⟨x20, hr21, h⟩ := h
    exact GC.ret (fun _ _ hf hs => post_res2 rfl (RV.cellT (p := (b1, 0)) (cs := T_api_Value.c x20) rfl rfl rfl hr21) (RV.tmp rfl) hf hs ⟨x20, 0, rfl, h⟩)

def sh_intern_Table_Find (C : Ctx) (p_t : Option (Nat × Nat)) (p_v : T_api_Value) (K : Int → Bool → Heap → Prop) (H : Heap) : Prop :=
  nw (T_api_Value.c p_v) (fun b1 H2 =>
 jn (α := Bool) (fun b3 H11 =>
 ift b3
 (K 0 false H11)
 (dr H11 fun Hs13 =>
 nck p_t fun p15 =>
 ldM Hs13 (p15.1, p15.2 + 1) fun x17 =>
 ldT Hs13 T_api_Value.c (b1, 0) fun x19 =>
 c_value_Show C x19 (fun r22 H23 =>
 Heap.le Hs13 H23 ∧
 lkM (fun x : Int => (.int .i64 x : Value)) 0 x17 r22 (fun x25 is26 =>
 Heap.le Hs13 H23 ∧
 K x25 is26 H23) H23) H11))
 (fun J4 => ift (Option.isNone p_t)
 (J4 true H2)
 (ldT H2 T_api_Value.c (b1, 0) fun x7 =>
 c_value_Check C x7 (fun r9 H10 =>
 J4 ((r9 : Int) != 0) H10) H2))) H

theorem ad_intern_Table_Find (C : Ctx) (p_t : Option (Nat × Nat)) (p_v : T_api_Value) (K : Int → Bool → Heap → Prop) (H : Heap) (h : sh_intern_Table_Find C p_t p_v K H) : c_intern_Table_Find C p_t p_v K H := by
  refine Spec.enter Tryd.func16 rfl Tryd.ntmps16 rfl ?_
  refine GC.sub [(0, pv p_t), (1, .agg (T_api_Value.c p_v).toArray)] ⟨rfl, rfl, trivial⟩ ?_
  refine GC.seq ?_
  refine GC.region ?_
  refine GL.box (v := .agg (T_api_Value.c p_v).toArray) (cs := T_api_Value.c p_v) h trivial rfl rfl rfl ?_
  intro b1 H2 h
  refine GL.val trivial rfl (OV.assign (v := .int .i64 0) rfl) ?_
  refine GL.val trivial rfl (OV.assign (v := .bool false) rfl) ?_
  refine GL.nil ?_
  refine GC.seq ?_
  refine GC.seq ?_
  refine GC.region ?_
  refine GL.val trivial rfl (OV.move (v := pv p_t) rfl) ?_
  refine GL.val trivial rfl (OV.eqlNil (p := p_t) rfl rfl rfl) ?_
  refine GL.val trivial rfl (OV.move (v := .bool (Option.isNone p_t)) rfl) ?_
  obtain ⟨J4, h, hR5⟩ := h
  refine GL.cut (α := Bool) 4 J4 (fun b3 => [(14, .bool b3), (0, pv p_t), (3, pv (some (b1, 0)))]) ?_ ?_
  · rcases Bool.eq_false_or_eq_true (Option.isNone p_t) with hc6 | hc6
    · skip
      replace h := And.left h hc6
      refine GL.skip ⟨_, rfl, .inl ⟨_, rfl, hc6⟩⟩ rfl ?_
      refine GL.skip ⟨_, rfl, .inl ⟨_, rfl, hc6⟩⟩ rfl ?_
      refine GL.skip ⟨_, rfl, .inl ⟨_, rfl, hc6⟩⟩ rfl ?_
      refine GL.val trivial rfl (OV.pickT (b := Option.isNone p_t) (v := .bool true) rfl hc6 rfl) ?_
      exact GL.jump (fun _ _ h => h) true h ⟨rfl, rfl, rfl, trivial⟩
    · skip
      replace h := And.right h hc6
      obtain ⟨x7, hr8, h⟩ := h
      refine GL.val ⟨_, _, rfl, rfl, hc6⟩ rfl (OV.loadT (p := (b1, 0)) (cs := T_api_Value.c x7) rfl rfl rfl hr8) ?_
      refine GL.call h ⟨_, _, rfl, rfl, hc6⟩ rfl ok_value_Check (vs := [.agg (T_api_Value.c x7).toArray]) rfl ?_
      rintro _ H10 ⟨r9, rfl, h⟩
      refine GL.val ⟨_, _, rfl, rfl, hc6⟩ rfl (OV.ibin (v := .bool ((r9 : Int) != 0)) rfl rfl rfl) ?_
      refine GL.val trivial rfl (OV.pickF (b := Option.isNone p_t) (v := .bool ((r9 : Int) != 0)) rfl hc6 rfl) ?_
      exact GL.jump (fun _ _ h => h) ((r9 : Int) != 0) h ⟨rfl, rfl, rfl, trivial⟩
  intro b3 H11 h
  replace h := hR5 b3 H11 h
  refine GL.nil ?_
  refine GC.cond (b := b3) rfl (fun hc12 => ?_) (fun hc12 => ?_)
  · replace h := And.left h hc12
    refine GC.seq ?_
    refine GC.region ?_
    refine GL.val trivial rfl (OV.assign (v := .int .i64 0) rfl) ?_
    refine GL.val trivial rfl (OV.assign (v := .bool false) rfl) ?_
    refine GL.nil ?_
    exact GC.ret (fun _ _ hf hs => post_tmp2 rfl rfl rfl hf hs ⟨0, false, rfl, h⟩)
  · replace h := And.right h hc12
    refine GC.skip ?_
    refine GC.seq ?_
    obtain ⟨Hs13, hle14, h⟩ := h
    refine GC.any (Hs := Hs13) (by kernel_rfl) hle14 ?_
    refine GA.take 0 rfl (by kernel_rfl) (by kernel_rfl) (by kernel_rfl) (fun _ _ _ h => False.elim h) trivial rfl (OV.move (v := pv p_t) rfl) ?_
    obtain ⟨p15, hp16, h⟩ := h
    refine GA.take 1 rfl (by kernel_rfl) (by kernel_rfl) (by kernel_rfl) (fun _ _ _ h => False.elim h) trivial rfl (OV.nilCheck (q := p_t) rfl hp16) ?_
    refine GA.take 2 rfl (by kernel_rfl) (by kernel_rfl) (by kernel_rfl) (fun _ _ _ h => False.elim h) trivial rfl (OV.fieldAddr (p := p15) rfl rfl) ?_
    obtain ⟨x17, hr18, h⟩ := h
    refine GA.take 3 rfl (by kernel_rfl) (by kernel_rfl) (by kernel_rfl) (fun _ _ _ h => False.elim h) trivial rfl (OV.load (p := (p15.1, p15.2 + 1)) rfl rfl hr18) ?_
    obtain ⟨x19, hr20, h⟩ := h
    refine GA.take 4 rfl (by kernel_rfl) (by kernel_rfl) (by kernel_rfl) (fun _ _ _ h => False.elim h) trivial rfl (OV.loadT (p := (b1, 0)) (cs := T_api_Value.c x19) rfl rfl rfl hr20) ?_
    refine GA.eff 5 rfl (by kernel_rfl) ?_
    refine GL.call h trivial rfl ok_value_Show (vs := [.agg (T_api_Value.c x19).toArray]) rfl ?_
    rintro _ H23 ⟨r22, rfl, h⟩
    obtain ⟨hle21, h⟩ := h
    refine GA.back hle21 ?_
    refine GA.eff 6 rfl (by kernel_rfl) ?_
    obtain ⟨x25, is26, hr27, h⟩ := h
    refine GL.val trivial rfl (OV.lookup2 (v := .tuple #[.int .i64 x25, .bool is26]) (enc := (fun x : Int => (.int .i64 x : Value))) (z := 0) (q := x17) (k := r22) (x := x25) (b := is26) rfl hr27 rfl rfl rfl rfl rfl) ?_
    obtain ⟨hle24, h⟩ := h
    refine GA.back hle24 ?_
    refine GA.take 7 rfl (by kernel_rfl) (by kernel_rfl) (by kernel_rfl) (fun _ _ _ h => False.elim h) trivial rfl (OV.move (v := .tuple #[.int .i64 x25, .bool is26]) rfl) ?_
    refine GA.take 8 rfl (by kernel_rfl) (by kernel_rfl) (by kernel_rfl) (fun _ _ _ h => False.elim h) trivial rfl (OV.extract (v := .int .i64 x25) rfl rfl) ?_
    refine GA.take 9 rfl (by kernel_rfl) (by kernel_rfl) (by kernel_rfl) (fun _ _ _ h => False.elim h) trivial rfl (OV.extract (v := .bool is26) rfl rfl) ?_
    refine GA.take 10 rfl (by kernel_rfl) (by kernel_rfl) (by kernel_rfl) (fun _ _ _ h => False.elim h) trivial rfl (OV.assign (v := .int .i64 x25) rfl) ?_
    refine GA.take 11 rfl (by kernel_rfl) (by kernel_rfl) (by kernel_rfl) (fun _ _ _ h => False.elim h) trivial rfl (OV.assign (v := .bool is26) rfl) ?_
    refine GA.done (by kernel_rfl) ?_
    refine GL.nil ?_
    refine GC.seq ?_
    refine GC.region ?_
    refine GL.val trivial rfl (OV.move (v := .int .i64 x25) rfl) ?_
    refine GL.val trivial rfl (OV.move (v := .bool is26) rfl) ?_
    refine GL.val trivial rfl (OV.assign (v := .int .i64 x25) rfl) ?_
    refine GL.val trivial rfl (OV.assign (v := .bool is26) rfl) ?_
    refine GL.nil ?_
    exact GC.ret (fun _ _ hf hs => post_tmp2 rfl rfl rfl hf hs ⟨x25, is26, rfl, h⟩)

def sh_ref02_Same (C : Ctx) (p_a : T_api_Value) (p_b : T_api_Value) (K : Bool → Heap → Prop) (H : Heap) : Prop :=
  nw (T_api_Value.c p_a) (fun b1 H2 =>
 nw (T_api_Value.c p_b) (fun b3 H4 =>
 ldI H4 .u8 ((b1, 0).1, (b1, 0).2 + 0) fun x5 =>
 ldI H4 .u8 ((b3, 0).1, (b3, 0).2 + 0) fun x7 =>
 jn (α := Bool) (fun b9 H17 =>
 jn (α := Bool) (fun b18 H26 =>
 jn (α := Bool) (fun b27 H37 =>
 K b27 H37)
 (fun J28 => ift b18
 (ldL H26 ((b1, 0).1, (b1, 0).2 + 3) fun x31 =>
 ldL H26 ((b3, 0).1, (b3, 0).2 + 3) fun x33 =>
 c_ref02_SameRow C x31 x33 (fun r35 H36 =>
 J28 r35 H36) H26)
 (J28 false H26)))
 (fun J19 => ift b9
 (ldS H17 ((b1, 0).1, (b1, 0).2 + 2) fun x22 =>
 ldS H17 ((b3, 0).1, (b3, 0).2 + 2) fun x24 =>
 J19 (x22 == x24) H17)
 (J19 false H17)))
 (fun J10 => ift ((x5 : Int) == x7)
 (ldI H4 .i64 ((b1, 0).1, (b1, 0).2 + 1) fun x13 =>
 ldI H4 .i64 ((b3, 0).1, (b3, 0).2 + 1) fun x15 =>
 J10 ((x13 : Int) == x15) H4)
 (J10 false H4))) H2) H

theorem ad_ref02_Same (C : Ctx) (p_a : T_api_Value) (p_b : T_api_Value) (K : Bool → Heap → Prop) (H : Heap) (h : sh_ref02_Same C p_a p_b K H) : c_ref02_Same C p_a p_b K H := by
  refine Spec.enter Tryd.func17 rfl Tryd.ntmps17 rfl ?_
  refine GC.sub [(0, .agg (T_api_Value.c p_a).toArray), (1, .agg (T_api_Value.c p_b).toArray)] ⟨rfl, rfl, trivial⟩ ?_
  refine GC.seq ?_
  refine GC.region ?_
  refine GL.box (v := .agg (T_api_Value.c p_a).toArray) (cs := T_api_Value.c p_a) h trivial rfl rfl rfl ?_
  intro b1 H2 h
  refine GL.box (v := .agg (T_api_Value.c p_b).toArray) (cs := T_api_Value.c p_b) h trivial rfl rfl rfl ?_
  intro b3 H4 h
  refine GL.val trivial rfl (OV.assign (v := .bool false) rfl) ?_
  refine GL.nil ?_
  refine GC.seq ?_
  refine GC.region ?_
  refine GL.val trivial rfl (OV.fieldAddr (p := (b1, 0)) rfl rfl) ?_
  obtain ⟨x5, hr6, h⟩ := h
  refine GL.val trivial rfl (OV.load (p := ((b1, 0).1, (b1, 0).2 + 0)) rfl rfl hr6) ?_
  refine GL.val trivial rfl (OV.fieldAddr (p := (b3, 0)) rfl rfl) ?_
  obtain ⟨x7, hr8, h⟩ := h
  refine GL.val trivial rfl (OV.load (p := ((b3, 0).1, (b3, 0).2 + 0)) rfl rfl hr8) ?_
  refine GL.val trivial rfl (OV.ibin (v := .bool ((x5 : Int) == x7)) rfl rfl rfl) ?_
  refine GL.val trivial rfl (OV.move (v := .bool ((x5 : Int) == x7)) rfl) ?_
  obtain ⟨J10, h, hR11⟩ := h
  refine GL.cut (α := Bool) 6 J10 (fun b9 => [(16, .bool b9), (2, pv (some (b1, 0))), (3, pv (some (b3, 0)))]) ?_ ?_
  · rcases Bool.eq_false_or_eq_true ((x5 : Int) == x7) with hc12 | hc12
    · skip
      replace h := And.left h hc12
      refine GL.val ⟨_, _, rfl, rfl, hc12⟩ rfl (OV.fieldAddr (p := (b1, 0)) rfl rfl) ?_
      obtain ⟨x13, hr14, h⟩ := h
      refine GL.val ⟨_, _, rfl, rfl, hc12⟩ rfl (OV.load (p := ((b1, 0).1, (b1, 0).2 + 1)) rfl rfl hr14) ?_
      refine GL.val ⟨_, _, rfl, rfl, hc12⟩ rfl (OV.fieldAddr (p := (b3, 0)) rfl rfl) ?_
      obtain ⟨x15, hr16, h⟩ := h
      refine GL.val ⟨_, _, rfl, rfl, hc12⟩ rfl (OV.load (p := ((b3, 0).1, (b3, 0).2 + 1)) rfl rfl hr16) ?_
      refine GL.val ⟨_, _, rfl, rfl, hc12⟩ rfl (OV.ibin (v := .bool ((x13 : Int) == x15)) rfl rfl rfl) ?_
      refine GL.val trivial rfl (OV.pickT (b := (x5 : Int) == x7) (v := .bool ((x13 : Int) == x15)) rfl hc12 rfl) ?_
      exact GL.jump (fun _ _ h => h) ((x13 : Int) == x15) h ⟨rfl, rfl, rfl, trivial⟩
    · skip
      replace h := And.right h hc12
      refine GL.skip ⟨_, rfl, .inl ⟨_, rfl, hc12⟩⟩ rfl ?_
      refine GL.skip ⟨_, rfl, .inl ⟨_, rfl, hc12⟩⟩ rfl ?_
      refine GL.skip ⟨_, rfl, .inl ⟨_, rfl, hc12⟩⟩ rfl ?_
      refine GL.skip ⟨_, rfl, .inl ⟨_, rfl, hc12⟩⟩ rfl ?_
      refine GL.skip ⟨_, rfl, .inl ⟨_, rfl, hc12⟩⟩ rfl ?_
      refine GL.val trivial rfl (OV.pickF (b := (x5 : Int) == x7) (v := .bool false) rfl hc12 rfl) ?_
      exact GL.jump (fun _ _ h => h) false h ⟨rfl, rfl, rfl, trivial⟩
  intro b9 H17 h
  replace h := hR11 b9 H17 h
  refine GL.val trivial rfl (OV.move (v := .bool b9) rfl) ?_
  obtain ⟨J19, h, hR20⟩ := h
  refine GL.cut (α := Bool) 6 J19 (fun b18 => [(23, .bool b18), (2, pv (some (b1, 0))), (3, pv (some (b3, 0)))]) ?_ ?_
  · rcases Bool.eq_false_or_eq_true b9 with hc21 | hc21
    · skip
      replace h := And.left h hc21
      refine GL.val ⟨_, _, rfl, rfl, hc21⟩ rfl (OV.fieldAddr (p := (b1, 0)) rfl rfl) ?_
      obtain ⟨x22, hr23, h⟩ := h
      refine GL.val ⟨_, _, rfl, rfl, hc21⟩ rfl (OV.load (p := ((b1, 0).1, (b1, 0).2 + 2)) rfl rfl hr23) ?_
      refine GL.val ⟨_, _, rfl, rfl, hc21⟩ rfl (OV.fieldAddr (p := (b3, 0)) rfl rfl) ?_
      obtain ⟨x24, hr25, h⟩ := h
      refine GL.val ⟨_, _, rfl, rfl, hc21⟩ rfl (OV.load (p := ((b3, 0).1, (b3, 0).2 + 2)) rfl rfl hr25) ?_
      refine GL.val ⟨_, _, rfl, rfl, hc21⟩ rfl (OV.sbin (a := x22) (b := x24) (v := .bool (x22 == x24)) rfl rfl rfl) ?_
      refine GL.val trivial rfl (OV.pickT (b := b9) (v := .bool (x22 == x24)) rfl hc21 rfl) ?_
      exact GL.jump (fun _ _ h => h) (x22 == x24) h ⟨rfl, rfl, rfl, trivial⟩
    · skip
      replace h := And.right h hc21
      refine GL.skip ⟨_, rfl, .inl ⟨_, rfl, hc21⟩⟩ rfl ?_
      refine GL.skip ⟨_, rfl, .inl ⟨_, rfl, hc21⟩⟩ rfl ?_
      refine GL.skip ⟨_, rfl, .inl ⟨_, rfl, hc21⟩⟩ rfl ?_
      refine GL.skip ⟨_, rfl, .inl ⟨_, rfl, hc21⟩⟩ rfl ?_
      refine GL.skip ⟨_, rfl, .inl ⟨_, rfl, hc21⟩⟩ rfl ?_
      refine GL.val trivial rfl (OV.pickF (b := b9) (v := .bool false) rfl hc21 rfl) ?_
      exact GL.jump (fun _ _ h => h) false h ⟨rfl, rfl, rfl, trivial⟩
  intro b18 H26 h
  replace h := hR20 b18 H26 h
  refine GL.val trivial rfl (OV.move (v := .bool b18) rfl) ?_
  obtain ⟨J28, h, hR29⟩ := h
  refine GL.cut (α := Bool) 6 J28 (fun b27 => [(30, .bool b27)]) ?_ ?_
  · rcases Bool.eq_false_or_eq_true b18 with hc30 | hc30
    · skip
      replace h := And.left h hc30
      refine GL.val ⟨_, _, rfl, rfl, hc30⟩ rfl (OV.fieldAddr (p := (b1, 0)) rfl rfl) ?_
      obtain ⟨x31, hr32, h⟩ := h
      refine GL.val ⟨_, _, rfl, rfl, hc30⟩ rfl (OV.load (p := ((b1, 0).1, (b1, 0).2 + 3)) rfl rfl hr32) ?_
      refine GL.val ⟨_, _, rfl, rfl, hc30⟩ rfl (OV.fieldAddr (p := (b3, 0)) rfl rfl) ?_
      obtain ⟨x33, hr34, h⟩ := h
      refine GL.val ⟨_, _, rfl, rfl, hc30⟩ rfl (OV.load (p := ((b3, 0).1, (b3, 0).2 + 3)) rfl rfl hr34) ?_
      refine GL.call h ⟨_, _, rfl, rfl, hc30⟩ rfl ok_ref02_SameRow (vs := [slv x31, slv x33]) rfl ?_
      rintro _ H36 ⟨r35, rfl, h⟩
      refine GL.val trivial rfl (OV.pickT (b := b18) (v := .bool r35) rfl hc30 rfl) ?_
      exact GL.jump (fun _ _ h => h) r35 h ⟨rfl, trivial⟩
    · skip
      replace h := And.right h hc30
      refine GL.skip ⟨_, rfl, .inl ⟨_, rfl, hc30⟩⟩ rfl ?_
      refine GL.skip ⟨_, rfl, .inl ⟨_, rfl, hc30⟩⟩ rfl ?_
      refine GL.skip ⟨_, rfl, .inl ⟨_, rfl, hc30⟩⟩ rfl ?_
      refine GL.skip ⟨_, rfl, .inl ⟨_, rfl, hc30⟩⟩ rfl ?_
      refine GL.skip ⟨_, rfl, .inl ⟨_, rfl, hc30⟩⟩ rfl ?_
      refine GL.val trivial rfl (OV.pickF (b := b18) (v := .bool false) rfl hc30 rfl) ?_
      exact GL.jump (fun _ _ h => h) false h ⟨rfl, trivial⟩
  intro b27 H37 h
  replace h := hR29 b27 H37 h
  refine GL.val trivial rfl (OV.assign (v := .bool b27) rfl) ?_
  refine GL.nil ?_
  exact GC.ret (fun _ _ hf hs => post_tmp1 rfl rfl hf hs ⟨b27, rfl, h⟩)

def sh_intern_Table_PutRow (C : Ctx) (p_t : Option (Nat × Nat)) (p_l : Sl) (K : Sl → Int → Heap → Prop) (H : Heap) : Prop :=
  ift (Option.isNone p_t)
 (K Sl.nil 2 H)
 (lp (α := Int) 0 H (fun x2 J3 H4 =>
 ift (decide ((x2 : Int) < (Sl.len p_l : Int)))
 (ixa p_l x2 fun p6 =>
 ldT H4 T_api_Value.c (p6.1, p6.2 + (x2 : Int).toNat * 4) fun x11 =>
 nw (T_api_Value.c T_api_Value.zero) (fun b13 H14 =>
 stT (b13, 0) (T_api_Value.c x11) (fun H15 =>
 ldT H15 T_api_Value.c (b13, 0) fun x16 =>
 c_value_Check C x16 (fun r18 H19 =>
 ift ((r18 : Int) != 0)
 (K Sl.nil r18 H19)
 (J3 (w .i64 (x2 + 1)) H19)) H15) H14) H4)
 (lp (α := Sl × Int) (Sl.nil, 0) H4 (fun x21 J22 H23 =>
 ift (decide ((x21.2 : Int) < (Sl.len p_l : Int)))
 (ixa p_l x21.2 fun p25 =>
 ldT H23 T_api_Value.c (p25.1, p25.2 + (x21.2 : Int).toNat * 4) fun x30 =>
 nw (T_api_Value.c T_api_Value.zero) (fun b32 H33 =>
 stT (b32, 0) (T_api_Value.c x30) (fun H34 =>
 ldT H34 T_api_Value.c (b32, 0) fun x35 =>
 c_intern_Table_Put C p_t x35 (fun r37 r38 H39 =>
 apd ([.int .i64 0]) 8 x21.1 ([.int .i64 r37]) 1 (fun r40 H41 =>
 J22 (r40, (w .i64 (x21.2 + 1))) H41) H39) H34) H33) H23)
 (K x21.1 0 H23)))))

theorem ad_intern_Table_PutRow (C : Ctx) (p_t : Option (Nat × Nat)) (p_l : Sl) (K : Sl → Int → Heap → Prop) (H : Heap) (h : sh_intern_Table_PutRow C p_t p_l K H) : c_intern_Table_PutRow C p_t p_l K H := by
  refine Spec.enter Tryd.func18 rfl Tryd.ntmps18 rfl ?_
  refine GC.sub [(0, pv p_t), (1, slv p_l)] ⟨rfl, rfl, trivial⟩ ?_
  refine GC.seq ?_
  refine GC.region ?_
  refine GL.val trivial rfl (OV.assign (v := slv Sl.nil) rfl) ?_
  refine GL.val trivial rfl (OV.assign (v := .int .i64 0) rfl) ?_
  refine GL.nil ?_
  refine GC.seq ?_
  refine GC.seq ?_
  refine GC.region ?_
  refine GL.val trivial rfl (OV.move (v := pv p_t) rfl) ?_
  refine GL.val trivial rfl (OV.eqlNil (p := p_t) rfl rfl rfl) ?_
  refine GL.nil ?_
  refine GC.cond (b := Option.isNone p_t) rfl (fun hc1 => ?_) (fun hc1 => ?_)
  · replace h := And.left h hc1
    refine GC.seq ?_
    refine GC.region ?_
    refine GL.val trivial rfl (OV.assign (v := slv Sl.nil) rfl) ?_
    refine GL.val trivial rfl (OV.assign (v := .int .i64 2) rfl) ?_
    refine GL.nil ?_
    exact GC.ret (fun _ _ hf hs => post_tmp2 rfl rfl rfl hf hs ⟨Sl.nil, 2, rfl, h⟩)
  · replace h := And.right h hc1
    refine GC.skip ?_
    refine GC.seq ?_
    refine GC.seq ?_
    refine GC.region ?_
    refine GL.val trivial rfl (OV.move (v := slv p_l) rfl) ?_
    refine GL.val trivial rfl (OV.lenSl (s := p_l) rfl rfl) ?_
    refine GL.val trivial rfl (OV.move (v := .int .i64 0) rfl) ?_
    refine GL.nil ?_
    refine GC.block ?_
    refine GC.loop (α := Int) h (fun x2 => [(18, .int .i64 x2), (0, pv p_t), (1, slv p_l), (16, slv p_l), (17, .int .i64 (Sl.len p_l : Int))]) ⟨rfl, rfl, rfl, rfl, rfl, trivial⟩ ?_
    intro x2 H4 J3 h
    refine GC.seq ?_
    refine GC.region ?_
    refine GL.val trivial rfl (OV.ibin (v := .bool (decide ((x2 : Int) < (Sl.len p_l : Int)))) rfl rfl rfl) ?_
    refine GL.nil ?_
    refine GC.seq ?_
    refine GC.cond (b := decide ((x2 : Int) < (Sl.len p_l : Int))) rfl (fun hc5 => ?_) (fun hc5 => ?_)
    · replace h := And.left h hc5
      refine GC.skip ?_
      refine GC.seq ?_
      refine GC.block ?_
      refine GC.seq ?_
      refine GC.region ?_
      obtain ⟨p6, ha7, hb8, hc9, hd10, h⟩ := h
      refine GL.val trivial rfl (OV.indexAddr (s := p_l) rfl rfl rfl rfl ha7 hb8 hc9 hd10) ?_
      obtain ⟨x11, hr12, h⟩ := h
      refine GL.val trivial rfl (OV.loadT (p := (p6.1, p6.2 + (x2 : Int).toNat * 4)) (cs := T_api_Value.c x11) rfl rfl rfl hr12) ?_
      refine GL.alloc (cs := T_api_Value.c T_api_Value.zero) h trivial rfl rfl rfl ?_
      intro b13 H14 h
      refine GL.storeT (p := (b13, 0)) (vs := T_api_Value.c x11) h trivial rfl rfl rfl rfl ?_
      intro H15 h
      refine GL.nil ?_
      refine GC.seq ?_
      refine GC.region ?_
      obtain ⟨x16, hr17, h⟩ := h
      refine GL.val trivial rfl (OV.loadT (p := (b13, 0)) (cs := T_api_Value.c x16) rfl rfl rfl hr17) ?_
      refine GL.call h trivial rfl ok_value_Check (vs := [.agg (T_api_Value.c x16).toArray]) rfl ?_
      rintro _ H19 ⟨r18, rfl, h⟩
      refine GL.val trivial rfl (OV.assign (v := .int .i64 r18) rfl) ?_
      refine GL.nil ?_
      refine GC.seq ?_
      refine GC.region ?_
      refine GL.val trivial rfl (OV.move (v := .int .i64 r18) rfl) ?_
      refine GL.val trivial rfl (OV.ibin (v := .bool ((r18 : Int) != 0)) rfl rfl rfl) ?_
      refine GL.nil ?_
      refine GC.cond (b := (r18 : Int) != 0) rfl (fun hc20 => ?_) (fun hc20 => ?_)
      · replace h := And.left h hc20
        refine GC.seq ?_
        refine GC.region ?_
        refine GL.val trivial rfl (OV.move (v := .int .i64 r18) rfl) ?_
        refine GL.val trivial rfl (OV.assign (v := slv Sl.nil) rfl) ?_
        refine GL.val trivial rfl (OV.assign (v := .int .i64 r18) rfl) ?_
        refine GL.nil ?_
        exact GC.ret (fun _ _ hf hs => post_tmp2 rfl rfl rfl hf hs ⟨Sl.nil, r18, rfl, h⟩)
      · replace h := And.right h hc20
        refine GC.skip_to (fun _ _ h => h) ?_
        refine GC.region ?_
        refine GL.val trivial rfl (OV.ibin (v := .int .i64 (w .i64 (x2 + 1))) rfl rfl rfl) ?_
        refine GL.val trivial rfl (OV.move (v := .int .i64 (w .i64 (x2 + 1))) rfl) ?_
        exact GL.jump (fun _ _ h => h) (w .i64 (x2 + 1)) h ⟨rfl, rfl, rfl, rfl, rfl, trivial⟩
    · replace h := And.right h hc5
      refine GC.exit_to (fun _ _ h => h) ?_
      refine GC.seq ?_
      refine GC.region ?_
      refine GL.val trivial rfl (OV.assign (v := slv Sl.nil) rfl) ?_
      refine GL.nil ?_
      refine GC.seq ?_
      refine GC.seq ?_
      refine GC.region ?_
      refine GL.val trivial rfl (OV.move (v := slv p_l) rfl) ?_
      refine GL.val trivial rfl (OV.lenSl (s := p_l) rfl rfl) ?_
      refine GL.val trivial rfl (OV.move (v := .int .i64 0) rfl) ?_
      refine GL.nil ?_
      refine GC.block ?_
      refine GC.loop (α := Sl × Int) h (fun x21 => [(9, slv x21.1), (30, .int .i64 x21.2), (0, pv p_t), (28, slv p_l), (29, .int .i64 (Sl.len p_l : Int))]) ⟨rfl, rfl, rfl, rfl, rfl, trivial⟩ ?_
      intro x21 H23 J22 h
      refine GC.seq ?_
      refine GC.region ?_
      refine GL.val trivial rfl (OV.ibin (v := .bool (decide ((x21.2 : Int) < (Sl.len p_l : Int)))) rfl rfl rfl) ?_
      refine GL.nil ?_
      refine GC.seq ?_
      refine GC.cond (b := decide ((x21.2 : Int) < (Sl.len p_l : Int))) rfl (fun hc24 => ?_) (fun hc24 => ?_)
      · replace h := And.left h hc24
        refine GC.skip ?_
        refine GC.seq ?_
        refine GC.block ?_
        refine GC.seq ?_
        refine GC.region ?_
        obtain ⟨p25, ha26, hb27, hc28, hd29, h⟩ := h
        refine GL.val trivial rfl (OV.indexAddr (s := p_l) rfl rfl rfl rfl ha26 hb27 hc28 hd29) ?_
        obtain ⟨x30, hr31, h⟩ := h
        refine GL.val trivial rfl (OV.loadT (p := (p25.1, p25.2 + (x21.2 : Int).toNat * 4)) (cs := T_api_Value.c x30) rfl rfl rfl hr31) ?_
        refine GL.alloc (cs := T_api_Value.c T_api_Value.zero) h trivial rfl rfl rfl ?_
        intro b32 H33 h
        refine GL.storeT (p := (b32, 0)) (vs := T_api_Value.c x30) h trivial rfl rfl rfl rfl ?_
        intro H34 h
        refine GL.nil ?_
        refine GC.seq ?_
        refine GC.region ?_
        refine GL.val trivial rfl (OV.move (v := pv p_t) rfl) ?_
        obtain ⟨x35, hr36, h⟩ := h
        refine GL.val trivial rfl (OV.loadT (p := (b32, 0)) (cs := T_api_Value.c x35) rfl rfl rfl hr36) ?_
        refine GL.call h trivial rfl ok_intern_Table_Put (vs := [pv p_t, .agg (T_api_Value.c x35).toArray]) rfl ?_
        rintro _ H39 ⟨r37, r38, rfl, h⟩
        refine GL.val trivial rfl (OV.move (v := .tuple #[.int .i64 r37, .int .i64 r38]) rfl) ?_
        refine GL.val trivial rfl (OV.extract (v := .int .i64 r37) rfl rfl) ?_
        refine GL.val trivial rfl (OV.extract (v := .int .i64 r38) rfl rfl) ?_
        refine GL.val trivial rfl (OV.assign (v := .int .i64 r37) rfl) ?_
        refine GL.val trivial rfl (OV.assign (v := .int .i64 r38) rfl) ?_
        refine GL.nil ?_
        refine GC.region ?_
        refine GL.val trivial rfl (OV.move (v := slv x21.1) rfl) ?_
        refine GL.val trivial rfl (OV.move (v := .int .i64 r37) rfl) ?_
        refine GL.appendLit (s := x21.1) (ys := [.int .i64 r37]) (zc := [.int .i64 0]) (bytes := 8) h trivial rfl (fun _ => trivial) rfl (fun _ => rfl) (fun _ => rfl) (vs := [(0, .int .i64 r37)]) rfl ⟨3, fun _ => by kernel_rfl⟩ ⟨⟨_, _, _, rfl, rfl, rfl, rfl, rfl, rfl⟩⟩ rfl rfl ?_
        intro _ r40 H41 h
        refine GL.val trivial rfl (OV.assign (v := slv r40) rfl) ?_
        refine GL.nil_to (fun _ _ h => h) ?_
        refine GC.region ?_
        refine GL.val trivial rfl (OV.ibin (v := .int .i64 (w .i64 (x21.2 + 1))) rfl rfl rfl) ?_
        refine GL.val trivial rfl (OV.move (v := .int .i64 (w .i64 (x21.2 + 1))) rfl) ?_
        exact GL.jump (fun _ _ h => h) (r40, (w .i64 (x21.2 + 1))) h ⟨rfl, rfl, rfl, rfl, rfl, trivial⟩
      · replace h := And.right h hc24
        refine GC.exit_to (fun _ _ h => h) ?_
        refine GC.seq ?_
        refine GC.region ?_
        refine GL.val trivial rfl (OV.move (v := slv x21.1) rfl) ?_
        refine GL.val trivial rfl (OV.assign (v := slv x21.1) rfl) ?_
        refine GL.val trivial rfl (OV.assign (v := .int .i64 0) rfl) ?_
        refine GL.nil ?_
        exact GC.ret (fun _ _ hf hs => post_tmp2 rfl rfl rfl hf hs ⟨x21.1, 0, rfl, h⟩)

def sh_ref04_Ints (C : Ctx) (p_a : Sl) (p_b : Sl) (K : Bool → Heap → Prop) (H : Heap) : Prop :=
  ift (((Sl.len p_a : Int) : Int) != (Sl.len p_b : Int))
 (K false H)
 (lp (α := Int) 0 H (fun x2 J3 H4 =>
 ift (decide ((x2 : Int) < (Sl.len p_a : Int)))
 (ixa p_a x2 fun p6 =>
 ldI H4 .i64 (p6.1, p6.2 + (x2 : Int).toNat * 1) fun x11 =>
 ixa p_b x2 fun p13 =>
 ldI H4 .i64 (p13.1, p13.2 + (x2 : Int).toNat * 1) fun x18 =>
 ift ((x11 : Int) != x18)
 (K false H4)
 (J3 (w .i64 (x2 + 1)) H4))
 (K true H4)))

theorem ad_ref04_Ints (C : Ctx) (p_a : Sl) (p_b : Sl) (K : Bool → Heap → Prop) (H : Heap) (h : sh_ref04_Ints C p_a p_b K H) : c_ref04_Ints C p_a p_b K H := by
  refine Spec.enter Tryd.func19 rfl Tryd.ntmps19 rfl ?_
  refine GC.sub [(0, slv p_a), (1, slv p_b)] ⟨rfl, rfl, trivial⟩ ?_
  refine GC.seq ?_
  refine GC.region ?_
  refine GL.val trivial rfl (OV.assign (v := .bool false) rfl) ?_
  refine GL.nil ?_
  refine GC.seq ?_
  refine GC.seq ?_
  refine GC.region ?_
  refine GL.val trivial rfl (OV.move (v := slv p_a) rfl) ?_
  refine GL.val trivial rfl (OV.lenSl (s := p_a) rfl rfl) ?_
  refine GL.val trivial rfl (OV.move (v := slv p_b) rfl) ?_
  refine GL.val trivial rfl (OV.lenSl (s := p_b) rfl rfl) ?_
  refine GL.val trivial rfl (OV.ibin (v := .bool (((Sl.len p_a : Int) : Int) != (Sl.len p_b : Int))) rfl rfl rfl) ?_
  refine GL.nil ?_
  refine GC.cond (b := ((Sl.len p_a : Int) : Int) != (Sl.len p_b : Int)) rfl (fun hc1 => ?_) (fun hc1 => ?_)
  · replace h := And.left h hc1
    refine GC.seq ?_
    refine GC.region ?_
    refine GL.val trivial rfl (OV.assign (v := .bool false) rfl) ?_
    refine GL.nil ?_
    exact GC.ret (fun _ _ hf hs => post_tmp1 rfl rfl hf hs ⟨false, rfl, h⟩)
  · replace h := And.right h hc1
    refine GC.skip ?_
    refine GC.seq ?_
    refine GC.seq ?_
    refine GC.region ?_
    refine GL.val trivial rfl (OV.assign (v := .int .i64 0) rfl) ?_
    refine GL.nil ?_
    refine GC.block ?_
    refine GC.loop (α := Int) h (fun x2 => [(5, .int .i64 x2), (0, slv p_a), (1, slv p_b)]) ⟨rfl, rfl, rfl, trivial⟩ ?_
    intro x2 H4 J3 h
    refine GC.seq ?_
    refine GC.seq ?_
    refine GC.region ?_
    refine GL.val trivial rfl (OV.move (v := .int .i64 x2) rfl) ?_
    refine GL.val trivial rfl (OV.move (v := slv p_a) rfl) ?_
    refine GL.val trivial rfl (OV.lenSl (s := p_a) rfl rfl) ?_
    refine GL.val trivial rfl (OV.ibin (v := .bool (decide ((x2 : Int) < (Sl.len p_a : Int)))) rfl rfl rfl) ?_
    refine GL.nil ?_
    refine GC.cond (b := decide ((x2 : Int) < (Sl.len p_a : Int))) rfl (fun hc5 => ?_) (fun hc5 => ?_)
    · replace h := And.left h hc5
      refine GC.skip ?_
      refine GC.seq ?_
      refine GC.block ?_
      refine GC.seq ?_
      refine GC.draw (by kernel_rfl) (by kernel_rfl) ?_
      refine GQ.val trivial rfl (OV.move (v := slv p_a) rfl) ?_
      refine GQ.val trivial rfl (OV.move (v := .int .i64 x2) rfl) ?_
      obtain ⟨p6, ha7, hb8, hc9, hd10, h⟩ := h
      refine GQ.val trivial rfl (OV.indexAddr (s := p_a) rfl rfl rfl rfl ha7 hb8 hc9 hd10) ?_
      obtain ⟨x11, hr12, h⟩ := h
      refine GQ.val trivial rfl (OV.load (p := (p6.1, p6.2 + (x2 : Int).toNat * 1)) rfl rfl hr12) ?_
      refine GQ.val trivial rfl (OV.move (v := slv p_b) rfl) ?_
      refine GQ.val trivial rfl (OV.move (v := .int .i64 x2) rfl) ?_
      obtain ⟨p13, ha14, hb15, hc16, hd17, h⟩ := h
      refine GQ.val trivial rfl (OV.indexAddr (s := p_b) rfl rfl rfl rfl ha14 hb15 hc16 hd17) ?_
      obtain ⟨x18, hr19, h⟩ := h
      refine GQ.val trivial rfl (OV.load (p := (p13.1, p13.2 + (x2 : Int).toNat * 1)) rfl rfl hr19) ?_
      refine GQ.val trivial rfl (OV.ibin (v := .bool ((x11 : Int) != x18)) rfl rfl rfl) ?_
      refine GQ.nil ?_
      refine GL.nil ?_
      refine GC.cond (b := (x11 : Int) != x18) rfl (fun hc20 => ?_) (fun hc20 => ?_)
      · replace h := And.left h hc20
        refine GC.seq ?_
        refine GC.region ?_
        refine GL.val trivial rfl (OV.assign (v := .bool false) rfl) ?_
        refine GL.nil ?_
        exact GC.ret (fun _ _ hf hs => post_tmp1 rfl rfl hf hs ⟨false, rfl, h⟩)
      · replace h := And.right h hc20
        refine GC.skip_to (fun _ _ h => h) ?_
        refine GC.region ?_
        refine GL.val trivial rfl (OV.move (v := .int .i64 x2) rfl) ?_
        refine GL.val trivial rfl (OV.ibin (v := .int .i64 (w .i64 (x2 + 1))) rfl rfl rfl) ?_
        refine GL.val trivial rfl (OV.assign (v := .int .i64 (w .i64 (x2 + 1))) rfl) ?_
        exact GL.jump (fun _ _ h => h) (w .i64 (x2 + 1)) h ⟨rfl, rfl, rfl, trivial⟩
    · replace h := And.right h hc5
      refine GC.exit_to (fun _ _ h => h) ?_
      refine GC.seq ?_
      refine GC.region ?_
      refine GL.val trivial rfl (OV.assign (v := .bool true) rfl) ?_
      refine GL.nil ?_
      exact GC.ret (fun _ _ hf hs => post_tmp1 rfl rfl hf hs ⟨true, rfl, h⟩)

def sh_ref02_Own (C : Ctx) (p_l : Sl) (K : Sl → Heap → Prop) (H : Heap) : Prop :=
  lp (α := Sl × Int) (Sl.nil, 0) H (fun x1 J2 H3 =>
 ift (decide ((x1.2 : Int) < (Sl.len p_l : Int)))
 (ixa p_l x1.2 fun p5 =>
 ldT H3 T_api_Value.c (p5.1, p5.2 + (x1.2 : Int).toNat * 4) fun x10 =>
 nw (T_api_Value.c T_api_Value.zero) (fun b12 H13 =>
 stT (b12, 0) (T_api_Value.c x10) (fun H14 =>
 ldL H14 ((b12, 0).1, (b12, 0).2 + 3) fun x15 =>
 c_ref02_Own C x15 (fun r17 H18 =>
 st ((b12, 0).1, (b12, 0).2 + 3) (slv r17) (fun H19 =>
 ldT H19 T_api_Value.c (b12, 0) fun x20 =>
 apd (T_api_Value.c T_api_Value.zero) 56 x1.1 ((T_api_Value.c x20) ++ []) 1 (fun r22 H23 =>
 J2 (r22, (w .i64 (x1.2 + 1))) H23) H19) H18) H14) H13) H3)
 (K x1.1 H3))

theorem ad_ref02_Own (C : Ctx) (p_l : Sl) (K : Sl → Heap → Prop) (H : Heap) (h : sh_ref02_Own C p_l K H) : c_ref02_Own C p_l K H := by
  refine Spec.enter Tryd.func20 rfl Tryd.ntmps20 rfl ?_
  refine GC.sub [(0, slv p_l)] ⟨rfl, trivial⟩ ?_
  refine GC.seq ?_
  refine GC.region ?_
  refine GL.val trivial rfl (OV.assign (v := slv Sl.nil) rfl) ?_
  refine GL.nil ?_
  refine GC.seq ?_
  refine GC.region ?_
  refine GL.val trivial rfl (OV.assign (v := slv Sl.nil) rfl) ?_
  refine GL.nil ?_
  refine GC.seq ?_
  refine GC.seq ?_
  refine GC.region ?_
  refine GL.val trivial rfl (OV.assign (v := .int .i64 0) rfl) ?_
  refine GL.nil ?_
  refine GC.block ?_
  refine GC.loop (α := Sl × Int) h (fun x1 => [(3, slv x1.1), (4, .int .i64 x1.2), (0, slv p_l)]) ⟨rfl, rfl, rfl, trivial⟩ ?_
  intro x1 H3 J2 h
  refine GC.seq ?_
  refine GC.seq ?_
  refine GC.region ?_
  refine GL.val trivial rfl (OV.move (v := .int .i64 x1.2) rfl) ?_
  refine GL.val trivial rfl (OV.move (v := slv p_l) rfl) ?_
  refine GL.val trivial rfl (OV.lenSl (s := p_l) rfl rfl) ?_
  refine GL.val trivial rfl (OV.ibin (v := .bool (decide ((x1.2 : Int) < (Sl.len p_l : Int)))) rfl rfl rfl) ?_
  refine GL.nil ?_
  refine GC.cond (b := decide ((x1.2 : Int) < (Sl.len p_l : Int))) rfl (fun hc4 => ?_) (fun hc4 => ?_)
  · replace h := And.left h hc4
    refine GC.skip ?_
    refine GC.seq ?_
    refine GC.block ?_
    refine GC.seq ?_
    refine GC.region ?_
    refine GL.val trivial rfl (OV.move (v := slv p_l) rfl) ?_
    refine GL.val trivial rfl (OV.move (v := .int .i64 x1.2) rfl) ?_
    obtain ⟨p5, ha6, hb7, hc8, hd9, h⟩ := h
    refine GL.val trivial rfl (OV.indexAddr (s := p_l) rfl rfl rfl rfl ha6 hb7 hc8 hd9) ?_
    obtain ⟨x10, hr11, h⟩ := h
    refine GL.val trivial rfl (OV.loadT (p := (p5.1, p5.2 + (x1.2 : Int).toNat * 4)) (cs := T_api_Value.c x10) rfl rfl rfl hr11) ?_
    refine GL.alloc (cs := T_api_Value.c T_api_Value.zero) h trivial rfl rfl rfl ?_
    intro b12 H13 h
    refine GL.storeT (p := (b12, 0)) (vs := T_api_Value.c x10) h trivial rfl rfl rfl rfl ?_
    intro H14 h
    refine GL.nil ?_
    refine GC.seq ?_
    refine GC.region ?_
    refine GL.val trivial rfl (OV.fieldAddr (p := (b12, 0)) rfl rfl) ?_
    obtain ⟨x15, hr16, h⟩ := h
    refine GL.val trivial rfl (OV.load (p := ((b12, 0).1, (b12, 0).2 + 3)) rfl rfl hr16) ?_
    refine GL.call h trivial rfl ok_ref02_Own (vs := [slv x15]) rfl ?_
    rintro _ H18 ⟨r17, rfl, h⟩
    refine GL.val trivial rfl (OV.fieldAddr (p := (b12, 0)) rfl rfl) ?_
    refine GL.store (p := ((b12, 0).1, (b12, 0).2 + 3)) (v := slv r17) h trivial rfl rfl rfl rfl ?_
    intro H19 h
    refine GL.nil ?_
    refine GC.region ?_
    refine GL.val trivial rfl (OV.move (v := slv x1.1) rfl) ?_
    obtain ⟨x20, hr21, h⟩ := h
    refine GL.val trivial rfl (OV.loadT (p := (b12, 0)) (cs := T_api_Value.c x20) rfl rfl rfl hr21) ?_
    refine GL.appendLit (s := x1.1) (ys := (T_api_Value.c x20) ++ []) (zc := T_api_Value.c T_api_Value.zero) (bytes := 56) h trivial rfl (fun _ => trivial) rfl (fun _ => rfl) (fun _ => rfl) (vs := [(0, .agg (T_api_Value.c x20).toArray)]) rfl ⟨41, fun _ => by kernel_rfl⟩ ⟨⟨_, _, _, rfl, rfl, rfl, rfl, rfl, rfl⟩⟩ rfl rfl ?_
    intro _ r22 H23 h
    refine GL.val trivial rfl (OV.assign (v := slv r22) rfl) ?_
    refine GL.nil_to (fun _ _ h => h) ?_
    refine GC.region ?_
    refine GL.val trivial rfl (OV.move (v := .int .i64 x1.2) rfl) ?_
    refine GL.val trivial rfl (OV.ibin (v := .int .i64 (w .i64 (x1.2 + 1))) rfl rfl rfl) ?_
    refine GL.val trivial rfl (OV.assign (v := .int .i64 (w .i64 (x1.2 + 1))) rfl) ?_
    exact GL.jump (fun _ _ h => h) (r22, (w .i64 (x1.2 + 1))) h ⟨rfl, rfl, rfl, trivial⟩
  · replace h := And.right h hc4
    refine GC.exit_to (fun _ _ h => h) ?_
    refine GC.seq ?_
    refine GC.region ?_
    refine GL.val trivial rfl (OV.move (v := slv x1.1) rfl) ?_
    refine GL.val trivial rfl (OV.assign (v := slv x1.1) rfl) ?_
    refine GL.nil ?_
    exact GC.ret (fun _ _ hf hs => post_tmp1 rfl rfl hf hs ⟨x1.1, rfl, h⟩)

def sh_ref04_Table_Put (C : Ctx) (p_t : Option (Nat × Nat)) (p_v : T_api_Value) (K : Int → Int → Heap → Prop) (H : Heap) : Prop :=
  nw (T_api_Value.c p_v) (fun b1 H2 =>
 ldT H2 T_api_Value.c (b1, 0) fun x3 =>
 c_ref02_Check C x3 (fun r5 H6 =>
 ift ((r5 : Int) != 0)
 (K 0 r5 H6)
 (ldT H6 T_api_Value.c (b1, 0) fun x8 =>
 c_ref04_Table_Find C p_t x8 (fun r10 r11 H12 =>
 ift r11
 (K r10 0 H12)
 (jn (α := Unit) (fun x15 H16 =>
 nck p_t fun p154 =>
 ldL H16 (p154.1, p154.2 + 0) fun x156 =>
 K (w .i64 ((Sl.len x156 : Int) - 1)) 0 H16)
 (fun J14 => dr2 H12 fun Hs18 Hz20 =>
 nck p_t fun p22 =>
 ldL Hs18 (p22.1, p22.2 + 0) fun x24 =>
 ldT Hs18 T_api_Value.c (b1, 0) fun x26 =>
 (nw ((T_api_Value.c x26) ++ []) (fun b29 H30 =>
 Heap.le Hs18 H30 ∧
 (c_ref02_Own C (Sl.of (some (b29, 0)) 1 1) (fun r32 H33 =>
 Heap.le Hs18 H33 ∧
 ixa r32 0 fun p34 =>
 (ldT H33 T_api_Value.c (p34.1, p34.2 + (0 : Int).toNat * 4) fun x40 =>
 Heap.le Hs18 H33 ∧
 nw ((T_api_Value.c (⟨0, 0, [], Sl.nil⟩ : T_api_Value)) ++ []) (fun b43 H44 =>
 Heap.le Hs18 H44 ∧
 apS (T_api_Value.c T_api_Value.zero) 56 x24 (Sl.of (some (b43, 0)) 1 1) (fun r46 H47 =>
 Heap.le Hs18 H47 ∧
 ixa r46 (Sl.len x24 : Int) fun p48 =>
 nck p_t fun p53 =>
 (stT (p48.1, p48.2 + ((Sl.len x24 : Int) : Int).toNat * 4) (T_api_Value.c x40) (fun H56 =>
 Heap.le Hs18 H56 ∧
 st (p53.1, p53.2 + 0) (slv r46) (fun H58 =>
 Heap.le Hz20 H58 ∧
 J14 () H58) H56) H47) ∧
 (st (p53.1, p53.2 + 0) (slv r46) (fun H60 =>
 Heap.le Hz20 H60 ∧
 stT (p48.1, p48.2 + ((Sl.len x24 : Int) : Int).toNat * 4) (T_api_Value.c x40) (fun H62 =>
 Heap.le Hz20 H62 ∧
 J14 () H62) H60) H47)) H44) H33) ∧
 (nw ((T_api_Value.c (⟨0, 0, [], Sl.nil⟩ : T_api_Value)) ++ []) (fun b64 H65 =>
 Heap.le Hs18 H65 ∧
 ldT H65 T_api_Value.c (p34.1, p34.2 + (0 : Int).toNat * 4) fun x67 =>
 Heap.le Hs18 H65 ∧
 apS (T_api_Value.c T_api_Value.zero) 56 x24 (Sl.of (some (b64, 0)) 1 1) (fun r70 H71 =>
 Heap.le Hs18 H71 ∧
 ixa r70 (Sl.len x24 : Int) fun p72 =>
 nck p_t fun p77 =>
 (stT (p72.1, p72.2 + ((Sl.len x24 : Int) : Int).toNat * 4) (T_api_Value.c x67) (fun H80 =>
 Heap.le Hs18 H80 ∧
 st (p77.1, p77.2 + 0) (slv r70) (fun H82 =>
 Heap.le Hz20 H82 ∧
 J14 () H82) H80) H71) ∧
 (st (p77.1, p77.2 + 0) (slv r70) (fun H84 =>
 Heap.le Hz20 H84 ∧
 stT (p72.1, p72.2 + ((Sl.len x24 : Int) : Int).toNat * 4) (T_api_Value.c x67) (fun H86 =>
 Heap.le Hz20 H86 ∧
 J14 () H86) H84) H71)) H65) H33)) H30) ∧
 (nw ((T_api_Value.c (⟨0, 0, [], Sl.nil⟩ : T_api_Value)) ++ []) (fun b88 H89 =>
 Heap.le Hs18 H89 ∧
 c_ref02_Own C (Sl.of (some (b29, 0)) 1 1) (fun r91 H92 =>
 Heap.le Hs18 H92 ∧
 ixa r91 0 fun p93 =>
 ldT H92 T_api_Value.c (p93.1, p93.2 + (0 : Int).toNat * 4) fun x99 =>
 Heap.le Hs18 H92 ∧
 apS (T_api_Value.c T_api_Value.zero) 56 x24 (Sl.of (some (b88, 0)) 1 1) (fun r102 H103 =>
 Heap.le Hs18 H103 ∧
 ixa r102 (Sl.len x24 : Int) fun p104 =>
 nck p_t fun p109 =>
 (stT (p104.1, p104.2 + ((Sl.len x24 : Int) : Int).toNat * 4) (T_api_Value.c x99) (fun H112 =>
 Heap.le Hs18 H112 ∧
 st (p109.1, p109.2 + 0) (slv r102) (fun H114 =>
 Heap.le Hz20 H114 ∧
 J14 () H114) H112) H103) ∧
 (st (p109.1, p109.2 + 0) (slv r102) (fun H116 =>
 Heap.le Hz20 H116 ∧
 stT (p104.1, p104.2 + ((Sl.len x24 : Int) : Int).toNat * 4) (T_api_Value.c x99) (fun H118 =>
 Heap.le Hz20 H118 ∧
 J14 () H118) H116) H103)) H92) H89) H30)) H12) ∧
 (nw ((T_api_Value.c (⟨0, 0, [], Sl.nil⟩ : T_api_Value)) ++ []) (fun b120 H121 =>
 Heap.le Hs18 H121 ∧
 nw ((T_api_Value.c x26) ++ []) (fun b123 H124 =>
 Heap.le Hs18 H124 ∧
 c_ref02_Own C (Sl.of (some (b123, 0)) 1 1) (fun r126 H127 =>
 Heap.le Hs18 H127 ∧
 ixa r126 0 fun p128 =>
 ldT H127 T_api_Value.c (p128.1, p128.2 + (0 : Int).toNat * 4) fun x134 =>
 Heap.le Hs18 H127 ∧
 apS (T_api_Value.c T_api_Value.zero) 56 x24 (Sl.of (some (b120, 0)) 1 1) (fun r137 H138 =>
 Heap.le Hs18 H138 ∧
 ixa r137 (Sl.len x24 : Int) fun p139 =>
 nck p_t fun p144 =>
 (stT (p139.1, p139.2 + ((Sl.len x24 : Int) : Int).toNat * 4) (T_api_Value.c x134) (fun H147 =>
 Heap.le Hs18 H147 ∧
 st (p144.1, p144.2 + 0) (slv r137) (fun H149 =>
 Heap.le Hz20 H149 ∧
 J14 () H149) H147) H138) ∧
 (st (p144.1, p144.2 + 0) (slv r137) (fun H151 =>
 Heap.le Hz20 H151 ∧
 stT (p139.1, p139.2 + ((Sl.len x24 : Int) : Int).toNat * 4) (T_api_Value.c x134) (fun H153 =>
 Heap.le Hz20 H153 ∧
 J14 () H153) H151) H138)) H127) H124) H121) H12)))) H6)) H2) H

theorem ad_ref04_Table_Put (C : Ctx) (p_t : Option (Nat × Nat)) (p_v : T_api_Value) (K : Int → Int → Heap → Prop) (H : Heap) (h : sh_ref04_Table_Put C p_t p_v K H) : c_ref04_Table_Put C p_t p_v K H := by
  refine Spec.enter Tryd.func21 rfl Tryd.ntmps21 rfl ?_
  refine GC.sub [(0, pv p_t), (1, .agg (T_api_Value.c p_v).toArray)] ⟨rfl, rfl, trivial⟩ ?_
  refine GC.seq ?_
  refine GC.region ?_
  refine GL.box (v := .agg (T_api_Value.c p_v).toArray) (cs := T_api_Value.c p_v) h trivial rfl rfl rfl ?_
  intro b1 H2 h
  refine GL.val trivial rfl (OV.assign (v := .int .i64 0) rfl) ?_
  refine GL.val trivial rfl (OV.assign (v := .int .i64 0) rfl) ?_
  refine GL.nil ?_
  refine GC.seq ?_
  refine GC.region ?_
  obtain ⟨x3, hr4, h⟩ := h
  refine GL.val trivial rfl (OV.loadT (p := (b1, 0)) (cs := T_api_Value.c x3) rfl rfl rfl hr4) ?_
  refine GL.call h trivial rfl ok_ref02_Check (vs := [.agg (T_api_Value.c x3).toArray]) rfl ?_
  rintro _ H6 ⟨r5, rfl, h⟩
  refine GL.val trivial rfl (OV.assign (v := .int .i64 r5) rfl) ?_
  refine GL.nil ?_
  refine GC.seq ?_
  refine GC.seq ?_
  refine GC.region ?_
  refine GL.val trivial rfl (OV.move (v := .int .i64 r5) rfl) ?_
  refine GL.val trivial rfl (OV.ibin (v := .bool ((r5 : Int) != 0)) rfl rfl rfl) ?_
  refine GL.nil ?_
  refine GC.cond (b := (r5 : Int) != 0) rfl (fun hc7 => ?_) (fun hc7 => ?_)
  · replace h := And.left h hc7
    refine GC.seq ?_
    refine GC.region ?_
    refine GL.val trivial rfl (OV.move (v := .int .i64 r5) rfl) ?_
    refine GL.val trivial rfl (OV.assign (v := .int .i64 0) rfl) ?_
    refine GL.val trivial rfl (OV.assign (v := .int .i64 r5) rfl) ?_
    refine GL.nil ?_
    exact GC.ret (fun _ _ hf hs => post_tmp2 rfl rfl rfl hf hs ⟨0, r5, rfl, h⟩)
  · replace h := And.right h hc7
    refine GC.skip ?_
    refine GC.seq ?_
    refine GC.region ?_
    refine GL.val trivial rfl (OV.move (v := pv p_t) rfl) ?_
    obtain ⟨x8, hr9, h⟩ := h
    refine GL.val trivial rfl (OV.loadT (p := (b1, 0)) (cs := T_api_Value.c x8) rfl rfl rfl hr9) ?_
    refine GL.call h trivial rfl ok_ref04_Table_Find (vs := [pv p_t, .agg (T_api_Value.c x8).toArray]) rfl ?_
    rintro _ H12 ⟨r10, r11, rfl, h⟩
    refine GL.val trivial rfl (OV.move (v := .tuple #[.int .i64 r10, .bool r11]) rfl) ?_
    refine GL.val trivial rfl (OV.extract (v := .int .i64 r10) rfl rfl) ?_
    refine GL.val trivial rfl (OV.extract (v := .bool r11) rfl rfl) ?_
    refine GL.val trivial rfl (OV.assign (v := .int .i64 r10) rfl) ?_
    refine GL.val trivial rfl (OV.assign (v := .bool r11) rfl) ?_
    refine GL.nil ?_
    refine GC.seq ?_
    refine GC.seq ?_
    refine GC.region ?_
    refine GL.val trivial rfl (OV.move (v := .bool r11) rfl) ?_
    refine GL.nil ?_
    refine GC.cond (b := r11) rfl (fun hc13 => ?_) (fun hc13 => ?_)
    · replace h := And.left h hc13
      refine GC.seq ?_
      refine GC.region ?_
      refine GL.val trivial rfl (OV.move (v := .int .i64 r10) rfl) ?_
      refine GL.val trivial rfl (OV.assign (v := .int .i64 r10) rfl) ?_
      refine GL.val trivial rfl (OV.assign (v := .int .i64 0) rfl) ?_
      refine GL.nil ?_
      exact GC.ret (fun _ _ hf hs => post_tmp2 rfl rfl rfl hf hs ⟨r10, 0, rfl, h⟩)
    · replace h := And.right h hc13
      refine GC.skip ?_
      refine GC.seq ?_
      obtain ⟨J14, h, hR17⟩ := h
      refine GC.meet (α := Unit) J14 (fun _ => [(0, pv p_t)]) ?_ ?_
      · skip
        obtain ⟨Hs18, Hz20, hle19, hle21, h⟩ := h
        refine GC.two (Hs := Hs18) (Hs0 := Hz20) 16 (by kernel_rfl) hle19 hle21 ?_
        refine GZ.take 0 rfl (by kernel_rfl) (by kernel_rfl) (by kernel_rfl) rfl (fun _ _ _ h => False.elim h) trivial rfl (OV.move (v := pv p_t) rfl) ?_
        obtain ⟨p22, hp23, h⟩ := h
        refine GZ.take 1 rfl (by kernel_rfl) (by kernel_rfl) (by kernel_rfl) rfl (fun _ _ _ h => False.elim h) trivial rfl (OV.nilCheck (q := p_t) rfl hp23) ?_
        refine GZ.take 2 rfl (by kernel_rfl) (by kernel_rfl) (by kernel_rfl) rfl (fun _ _ _ h => False.elim h) trivial rfl (OV.fieldAddr (p := p22) rfl rfl) ?_
        obtain ⟨x24, hr25, h⟩ := h
        refine GZ.take 3 rfl (by kernel_rfl) (by kernel_rfl) (by kernel_rfl) rfl (fun _ _ _ h => False.elim h) trivial rfl (OV.load (p := (p22.1, p22.2 + 0)) rfl rfl hr25) ?_
        obtain ⟨x26, hr27, h⟩ := h
        refine GZ.take 4 rfl (by kernel_rfl) (by kernel_rfl) (by kernel_rfl) rfl (fun _ _ _ h => False.elim h) trivial rfl (OV.loadT (p := (b1, 0)) (cs := T_api_Value.c x26) rfl rfl rfl hr27) ?_
        refine GZ.take 9 rfl (by kernel_rfl) (by kernel_rfl) (by kernel_rfl) rfl (fun _ _ _ h => False.elim h) trivial rfl (OV.lenSl (s := x24) rfl rfl) ?_
        refine GZ.effs [5, 10] (by kernel_rfl) (by simp) (List.forall_mem_cons.2 ⟨⟨_, rfl, .inl ⟨rfl, ?_⟩⟩, List.forall_mem_cons.2 ⟨⟨_, rfl, .inl ⟨rfl, ?_⟩⟩, fun _ h => by cases h⟩⟩)
        · replace h := h.1
          refine GL.buildSlice (cs := (T_api_Value.c x26) ++ []) h trivial rfl (vs := [(0, .agg (T_api_Value.c x26).toArray)]) rfl ⟨41, fun _ => by kernel_rfl⟩ ?_
          intro b29 H30 h
          obtain ⟨hle28, h⟩ := h
          refine GZ.back hle28 ?_
          refine GZ.effs [6, 10] (by kernel_rfl) (by simp) (List.forall_mem_cons.2 ⟨⟨_, rfl, .inl ⟨rfl, ?_⟩⟩, List.forall_mem_cons.2 ⟨⟨_, rfl, .inl ⟨rfl, ?_⟩⟩, fun _ h => by cases h⟩⟩)
          · replace h := h.1
            refine GL.call h trivial rfl ok_ref02_Own (vs := [slv (Sl.of (some (b29, 0)) 1 1)]) rfl ?_
            rintro _ H33 ⟨r32, rfl, h⟩
            obtain ⟨hle31, h⟩ := h
            refine GZ.back hle31 ?_
            obtain ⟨p34, ha35, hb36, hc37, hd38, h⟩ := h
            refine GZ.take 7 rfl (by kernel_rfl) (by kernel_rfl) (by kernel_rfl) rfl (fun _ _ _ h => False.elim h) trivial rfl (OV.indexAddr (s := r32) rfl rfl rfl rfl ha35 hb36 hc37 hd38) ?_
            refine GZ.effs [8, 10] (by kernel_rfl) (by simp) (List.forall_mem_cons.2 ⟨⟨_, rfl, .inl ⟨rfl, ?_⟩⟩, List.forall_mem_cons.2 ⟨⟨_, rfl, .inl ⟨rfl, ?_⟩⟩, fun _ h => by cases h⟩⟩)
            · replace h := h.1
              obtain ⟨x40, hr41, h⟩ := h
              refine GL.val trivial rfl (OV.loadT (p := (p34.1, p34.2 + (0 : Int).toNat * 4)) (cs := T_api_Value.c x40) rfl rfl rfl hr41) ?_
              obtain ⟨hle39, h⟩ := h
              refine GZ.back hle39 ?_
              refine GZ.effs [10] (by kernel_rfl) (by simp) (List.forall_mem_cons.2 ⟨⟨_, rfl, .inl ⟨rfl, ?_⟩⟩, fun _ h => by cases h⟩)
              · skip
                refine GL.buildSlice (cs := (T_api_Value.c (⟨0, 0, [], Sl.nil⟩ : T_api_Value)) ++ []) h trivial rfl (vs := [(0, .agg (T_api_Value.c (⟨0, 0, [], Sl.nil⟩ : T_api_Value)).toArray)]) rfl ⟨41, fun _ => by kernel_rfl⟩ ?_
                intro b43 H44 h
                obtain ⟨hle42, h⟩ := h
                refine GZ.back hle42 ?_
                refine GZ.effs [11] (by kernel_rfl) (by simp) (List.forall_mem_cons.2 ⟨⟨_, rfl, .inl ⟨rfl, ?_⟩⟩, fun _ h => by cases h⟩)
                · skip
                  refine GL.appendS (s := x24) (s2 := (Sl.of (some (b43, 0)) 1 1)) (zc := T_api_Value.c T_api_Value.zero) (bytes := 56) h trivial rfl rfl rfl ⟨⟨_, _, _, rfl, rfl, rfl, rfl, rfl, rfl⟩⟩ rfl ?_
                  intro r46 H47 h
                  obtain ⟨hle45, h⟩ := h
                  refine GZ.back hle45 ?_
                  obtain ⟨p48, ha49, hb50, hc51, hd52, h⟩ := h
                  refine GY.take 12 rfl (by kernel_rfl) (by kernel_rfl) (by kernel_rfl) rfl (fun _ _ _ h => False.elim h) trivial rfl (OV.indexAddr (s := r46) rfl rfl rfl rfl ha49 hb50 hc51 hd52) ?_
                  obtain ⟨p53, hp54, h⟩ := h
                  refine GZ.take 14 rfl (by kernel_rfl) (by kernel_rfl) (by kernel_rfl) rfl (fun _ _ _ h => False.elim h) trivial rfl (OV.nilCheck (q := p_t) rfl hp54) ?_
                  refine GZ.take 15 rfl (by kernel_rfl) (by kernel_rfl) (by kernel_rfl) rfl (fun _ _ _ h => False.elim h) trivial rfl (OV.fieldAddr (p := p53) rfl rfl) ?_
                  refine GZ.effs [13, 16] (by kernel_rfl) (by simp) (List.forall_mem_cons.2 ⟨⟨_, rfl, .inl ⟨rfl, ?_⟩⟩, List.forall_mem_cons.2 ⟨⟨_, rfl, .inr ⟨rfl, ?_⟩⟩, fun _ h => by cases h⟩⟩)
                  · replace h := h.1
                    refine GL.storeT (p := (p48.1, p48.2 + ((Sl.len x24 : Int) : Int).toNat * 4)) (vs := T_api_Value.c x40) h trivial rfl rfl rfl rfl ?_
                    intro H56 h
                    obtain ⟨hle55, h⟩ := h
                    refine GZ.back hle55 ?_
                    refine GZ.effs [16] (by kernel_rfl) (by simp) (List.forall_mem_cons.2 ⟨⟨_, rfl, .inr ⟨rfl, ?_⟩⟩, fun _ h => by cases h⟩)
                    · skip
                      refine GL.store (p := (p53.1, p53.2 + 0)) (v := slv r46) h trivial rfl rfl rfl rfl ?_
                      intro H58 h
                      obtain ⟨hle57, h⟩ := h
                      refine GA.back hle57 ?_
                      refine GA.done (by kernel_rfl) ?_
                      exact GL.jump (fun _ _ h => h) () h ⟨rfl, trivial⟩
                  · replace h := h.2
                    refine GL.store (p := (p53.1, p53.2 + 0)) (v := slv r46) h trivial rfl rfl rfl rfl ?_
                    intro H60 h
                    obtain ⟨hle59, h⟩ := h
                    refine GA.back hle59 ?_
                    refine GA.eff 13 rfl (by kernel_rfl) ?_
                    refine GL.storeT (p := (p48.1, p48.2 + ((Sl.len x24 : Int) : Int).toNat * 4)) (vs := T_api_Value.c x40) h trivial rfl rfl rfl rfl ?_
                    intro H62 h
                    obtain ⟨hle61, h⟩ := h
                    refine GA.back hle61 ?_
                    refine GA.done (by kernel_rfl) ?_
                    exact GL.jump (fun _ _ h => h) () h ⟨rfl, trivial⟩
            · replace h := h.2
              refine GL.buildSlice (cs := (T_api_Value.c (⟨0, 0, [], Sl.nil⟩ : T_api_Value)) ++ []) h trivial rfl (vs := [(0, .agg (T_api_Value.c (⟨0, 0, [], Sl.nil⟩ : T_api_Value)).toArray)]) rfl ⟨41, fun _ => by kernel_rfl⟩ ?_
              intro b64 H65 h
              obtain ⟨hle63, h⟩ := h
              refine GZ.back hle63 ?_
              refine GZ.effs [8] (by kernel_rfl) (by simp) (List.forall_mem_cons.2 ⟨⟨_, rfl, .inl ⟨rfl, ?_⟩⟩, fun _ h => by cases h⟩)
              · skip
                obtain ⟨x67, hr68, h⟩ := h
                refine GL.val trivial rfl (OV.loadT (p := (p34.1, p34.2 + (0 : Int).toNat * 4)) (cs := T_api_Value.c x67) rfl rfl rfl hr68) ?_
                obtain ⟨hle66, h⟩ := h
                refine GZ.back hle66 ?_
                refine GZ.effs [11] (by kernel_rfl) (by simp) (List.forall_mem_cons.2 ⟨⟨_, rfl, .inl ⟨rfl, ?_⟩⟩, fun _ h => by cases h⟩)
                · skip
                  refine GL.appendS (s := x24) (s2 := (Sl.of (some (b64, 0)) 1 1)) (zc := T_api_Value.c T_api_Value.zero) (bytes := 56) h trivial rfl rfl rfl ⟨⟨_, _, _, rfl, rfl, rfl, rfl, rfl, rfl⟩⟩ rfl ?_
                  intro r70 H71 h
                  obtain ⟨hle69, h⟩ := h
                  refine GZ.back hle69 ?_
                  obtain ⟨p72, ha73, hb74, hc75, hd76, h⟩ := h
                  refine GY.take 12 rfl (by kernel_rfl) (by kernel_rfl) (by kernel_rfl) rfl (fun _ _ _ h => False.elim h) trivial rfl (OV.indexAddr (s := r70) rfl rfl rfl rfl ha73 hb74 hc75 hd76) ?_
                  obtain ⟨p77, hp78, h⟩ := h
                  refine GZ.take 14 rfl (by kernel_rfl) (by kernel_rfl) (by kernel_rfl) rfl (fun _ _ _ h => False.elim h) trivial rfl (OV.nilCheck (q := p_t) rfl hp78) ?_
                  refine GZ.take 15 rfl (by kernel_rfl) (by kernel_rfl) (by kernel_rfl) rfl (fun _ _ _ h => False.elim h) trivial rfl (OV.fieldAddr (p := p77) rfl rfl) ?_
                  refine GZ.effs [13, 16] (by kernel_rfl) (by simp) (List.forall_mem_cons.2 ⟨⟨_, rfl, .inl ⟨rfl, ?_⟩⟩, List.forall_mem_cons.2 ⟨⟨_, rfl, .inr ⟨rfl, ?_⟩⟩, fun _ h => by cases h⟩⟩)
                  · replace h := h.1
                    refine GL.storeT (p := (p72.1, p72.2 + ((Sl.len x24 : Int) : Int).toNat * 4)) (vs := T_api_Value.c x67) h trivial rfl rfl rfl rfl ?_
                    intro H80 h
                    obtain ⟨hle79, h⟩ := h
                    refine GZ.back hle79 ?_
                    refine GZ.effs [16] (by kernel_rfl) (by simp) (List.forall_mem_cons.2 ⟨⟨_, rfl, .inr ⟨rfl, ?_⟩⟩, fun _ h => by cases h⟩)
                    · skip
                      refine GL.store (p := (p77.1, p77.2 + 0)) (v := slv r70) h trivial rfl rfl rfl rfl ?_
                      intro H82 h
                      obtain ⟨hle81, h⟩ := h
                      refine GA.back hle81 ?_
                      refine GA.done (by kernel_rfl) ?_
                      exact GL.jump (fun _ _ h => h) () h ⟨rfl, trivial⟩
                  · replace h := h.2
                    refine GL.store (p := (p77.1, p77.2 + 0)) (v := slv r70) h trivial rfl rfl rfl rfl ?_
                    intro H84 h
                    obtain ⟨hle83, h⟩ := h
                    refine GA.back hle83 ?_
                    refine GA.eff 13 rfl (by kernel_rfl) ?_
                    refine GL.storeT (p := (p72.1, p72.2 + ((Sl.len x24 : Int) : Int).toNat * 4)) (vs := T_api_Value.c x67) h trivial rfl rfl rfl rfl ?_
                    intro H86 h
                    obtain ⟨hle85, h⟩ := h
                    refine GA.back hle85 ?_
                    refine GA.done (by kernel_rfl) ?_
                    exact GL.jump (fun _ _ h => h) () h ⟨rfl, trivial⟩
          · replace h := h.2
            refine GL.buildSlice (cs := (T_api_Value.c (⟨0, 0, [], Sl.nil⟩ : T_api_Value)) ++ []) h trivial rfl (vs := [(0, .agg (T_api_Value.c (⟨0, 0, [], Sl.nil⟩ : T_api_Value)).toArray)]) rfl ⟨41, fun _ => by kernel_rfl⟩ ?_
            intro b88 H89 h
            obtain ⟨hle87, h⟩ := h
            refine GZ.back hle87 ?_
            refine GZ.effs [6] (by kernel_rfl) (by simp) (List.forall_mem_cons.2 ⟨⟨_, rfl, .inl ⟨rfl, ?_⟩⟩, fun _ h => by cases h⟩)
            · skip
              refine GL.call h trivial rfl ok_ref02_Own (vs := [slv (Sl.of (some (b29, 0)) 1 1)]) rfl ?_
              rintro _ H92 ⟨r91, rfl, h⟩
              obtain ⟨hle90, h⟩ := h
              refine GZ.back hle90 ?_
              obtain ⟨p93, ha94, hb95, hc96, hd97, h⟩ := h
              refine GZ.take 7 rfl (by kernel_rfl) (by kernel_rfl) (by kernel_rfl) rfl (fun _ _ _ h => False.elim h) trivial rfl (OV.indexAddr (s := r91) rfl rfl rfl rfl ha94 hb95 hc96 hd97) ?_
              refine GZ.effs [8] (by kernel_rfl) (by simp) (List.forall_mem_cons.2 ⟨⟨_, rfl, .inl ⟨rfl, ?_⟩⟩, fun _ h => by cases h⟩)
              · skip
                obtain ⟨x99, hr100, h⟩ := h
                refine GL.val trivial rfl (OV.loadT (p := (p93.1, p93.2 + (0 : Int).toNat * 4)) (cs := T_api_Value.c x99) rfl rfl rfl hr100) ?_
                obtain ⟨hle98, h⟩ := h
                refine GZ.back hle98 ?_
                refine GZ.effs [11] (by kernel_rfl) (by simp) (List.forall_mem_cons.2 ⟨⟨_, rfl, .inl ⟨rfl, ?_⟩⟩, fun _ h => by cases h⟩)
                · skip
                  refine GL.appendS (s := x24) (s2 := (Sl.of (some (b88, 0)) 1 1)) (zc := T_api_Value.c T_api_Value.zero) (bytes := 56) h trivial rfl rfl rfl ⟨⟨_, _, _, rfl, rfl, rfl, rfl, rfl, rfl⟩⟩ rfl ?_
                  intro r102 H103 h
                  obtain ⟨hle101, h⟩ := h
                  refine GZ.back hle101 ?_
                  obtain ⟨p104, ha105, hb106, hc107, hd108, h⟩ := h
                  refine GY.take 12 rfl (by kernel_rfl) (by kernel_rfl) (by kernel_rfl) rfl (fun _ _ _ h => False.elim h) trivial rfl (OV.indexAddr (s := r102) rfl rfl rfl rfl ha105 hb106 hc107 hd108) ?_
                  obtain ⟨p109, hp110, h⟩ := h
                  refine GZ.take 14 rfl (by kernel_rfl) (by kernel_rfl) (by kernel_rfl) rfl (fun _ _ _ h => False.elim h) trivial rfl (OV.nilCheck (q := p_t) rfl hp110) ?_
                  refine GZ.take 15 rfl (by kernel_rfl) (by kernel_rfl) (by kernel_rfl) rfl (fun _ _ _ h => False.elim h) trivial rfl (OV.fieldAddr (p := p109) rfl rfl) ?_
                  refine GZ.effs [13, 16] (by kernel_rfl) (by simp) (List.forall_mem_cons.2 ⟨⟨_, rfl, .inl ⟨rfl, ?_⟩⟩, List.forall_mem_cons.2 ⟨⟨_, rfl, .inr ⟨rfl, ?_⟩⟩, fun _ h => by cases h⟩⟩)
                  · replace h := h.1
                    refine GL.storeT (p := (p104.1, p104.2 + ((Sl.len x24 : Int) : Int).toNat * 4)) (vs := T_api_Value.c x99) h trivial rfl rfl rfl rfl ?_
                    intro H112 h
                    obtain ⟨hle111, h⟩ := h
                    refine GZ.back hle111 ?_
                    refine GZ.effs [16] (by kernel_rfl) (by simp) (List.forall_mem_cons.2 ⟨⟨_, rfl, .inr ⟨rfl, ?_⟩⟩, fun _ h => by cases h⟩)
                    · skip
                      refine GL.store (p := (p109.1, p109.2 + 0)) (v := slv r102) h trivial rfl rfl rfl rfl ?_
                      intro H114 h
                      obtain ⟨hle113, h⟩ := h
                      refine GA.back hle113 ?_
                      refine GA.done (by kernel_rfl) ?_
                      exact GL.jump (fun _ _ h => h) () h ⟨rfl, trivial⟩
                  · replace h := h.2
                    refine GL.store (p := (p109.1, p109.2 + 0)) (v := slv r102) h trivial rfl rfl rfl rfl ?_
                    intro H116 h
                    obtain ⟨hle115, h⟩ := h
                    refine GA.back hle115 ?_
                    refine GA.eff 13 rfl (by kernel_rfl) ?_
                    refine GL.storeT (p := (p104.1, p104.2 + ((Sl.len x24 : Int) : Int).toNat * 4)) (vs := T_api_Value.c x99) h trivial rfl rfl rfl rfl ?_
                    intro H118 h
                    obtain ⟨hle117, h⟩ := h
                    refine GA.back hle117 ?_
                    refine GA.done (by kernel_rfl) ?_
                    exact GL.jump (fun _ _ h => h) () h ⟨rfl, trivial⟩
        · replace h := h.2
          refine GL.buildSlice (cs := (T_api_Value.c (⟨0, 0, [], Sl.nil⟩ : T_api_Value)) ++ []) h trivial rfl (vs := [(0, .agg (T_api_Value.c (⟨0, 0, [], Sl.nil⟩ : T_api_Value)).toArray)]) rfl ⟨41, fun _ => by kernel_rfl⟩ ?_
          intro b120 H121 h
          obtain ⟨hle119, h⟩ := h
          refine GZ.back hle119 ?_
          refine GZ.effs [5] (by kernel_rfl) (by simp) (List.forall_mem_cons.2 ⟨⟨_, rfl, .inl ⟨rfl, ?_⟩⟩, fun _ h => by cases h⟩)
          · skip
            refine GL.buildSlice (cs := (T_api_Value.c x26) ++ []) h trivial rfl (vs := [(0, .agg (T_api_Value.c x26).toArray)]) rfl ⟨41, fun _ => by kernel_rfl⟩ ?_
            intro b123 H124 h
            obtain ⟨hle122, h⟩ := h
            refine GZ.back hle122 ?_
            refine GZ.effs [6] (by kernel_rfl) (by simp) (List.forall_mem_cons.2 ⟨⟨_, rfl, .inl ⟨rfl, ?_⟩⟩, fun _ h => by cases h⟩)
            · skip
              refine GL.call h trivial rfl ok_ref02_Own (vs := [slv (Sl.of (some (b123, 0)) 1 1)]) rfl ?_
              rintro _ H127 ⟨r126, rfl, h⟩
              obtain ⟨hle125, h⟩ := h
              refine GZ.back hle125 ?_
              obtain ⟨p128, ha129, hb130, hc131, hd132, h⟩ := h
              refine GZ.take 7 rfl (by kernel_rfl) (by kernel_rfl) (by kernel_rfl) rfl (fun _ _ _ h => False.elim h) trivial rfl (OV.indexAddr (s := r126) rfl rfl rfl rfl ha129 hb130 hc131 hd132) ?_
              refine GZ.effs [8] (by kernel_rfl) (by simp) (List.forall_mem_cons.2 ⟨⟨_, rfl, .inl ⟨rfl, ?_⟩⟩, fun _ h => by cases h⟩)
              · skip
                obtain ⟨x134, hr135, h⟩ := h
                refine GL.val trivial rfl (OV.loadT (p := (p128.1, p128.2 + (0 : Int).toNat * 4)) (cs := T_api_Value.c x134) rfl rfl rfl hr135) ?_
                obtain ⟨hle133, h⟩ := h
                refine GZ.back hle133 ?_
                refine GZ.effs [11] (by kernel_rfl) (by simp) (List.forall_mem_cons.2 ⟨⟨_, rfl, .inl ⟨rfl, ?_⟩⟩, fun _ h => by cases h⟩)
                · skip
                  refine GL.appendS (s := x24) (s2 := (Sl.of (some (b120, 0)) 1 1)) (zc := T_api_Value.c T_api_Value.zero) (bytes := 56) h trivial rfl rfl rfl ⟨⟨_, _, _, rfl, rfl, rfl, rfl, rfl, rfl⟩⟩ rfl ?_
                  intro r137 H138 h
                  obtain ⟨hle136, h⟩ := h
                  refine GZ.back hle136 ?_
                  obtain ⟨p139, ha140, hb141, hc142, hd143, h⟩ := h
                  refine GY.take 12 rfl (by kernel_rfl) (by kernel_rfl) (by kernel_rfl) rfl (fun _ _ _ h => False.elim h) trivial rfl (OV.indexAddr (s := r137) rfl rfl rfl rfl ha140 hb141 hc142 hd143) ?_
                  obtain ⟨p144, hp145, h⟩ := h
                  refine GZ.take 14 rfl (by kernel_rfl) (by kernel_rfl) (by kernel_rfl) rfl (fun _ _ _ h => False.elim h) trivial rfl (OV.nilCheck (q := p_t) rfl hp145) ?_
                  refine GZ.take 15 rfl (by kernel_rfl) (by kernel_rfl) (by kernel_rfl) rfl (fun _ _ _ h => False.elim h) trivial rfl (OV.fieldAddr (p := p144) rfl rfl) ?_
                  refine GZ.effs [13, 16] (by kernel_rfl) (by simp) (List.forall_mem_cons.2 ⟨⟨_, rfl, .inl ⟨rfl, ?_⟩⟩, List.forall_mem_cons.2 ⟨⟨_, rfl, .inr ⟨rfl, ?_⟩⟩, fun _ h => by cases h⟩⟩)
                  · replace h := h.1
                    refine GL.storeT (p := (p139.1, p139.2 + ((Sl.len x24 : Int) : Int).toNat * 4)) (vs := T_api_Value.c x134) h trivial rfl rfl rfl rfl ?_
                    intro H147 h
                    obtain ⟨hle146, h⟩ := h
                    refine GZ.back hle146 ?_
                    refine GZ.effs [16] (by kernel_rfl) (by simp) (List.forall_mem_cons.2 ⟨⟨_, rfl, .inr ⟨rfl, ?_⟩⟩, fun _ h => by cases h⟩)
                    · skip
                      refine GL.store (p := (p144.1, p144.2 + 0)) (v := slv r137) h trivial rfl rfl rfl rfl ?_
                      intro H149 h
                      obtain ⟨hle148, h⟩ := h
                      refine GA.back hle148 ?_
                      refine GA.done (by kernel_rfl) ?_
                      exact GL.jump (fun _ _ h => h) () h ⟨rfl, trivial⟩
                  · replace h := h.2
                    refine GL.store (p := (p144.1, p144.2 + 0)) (v := slv r137) h trivial rfl rfl rfl rfl ?_
                    intro H151 h
                    obtain ⟨hle150, h⟩ := h
                    refine GA.back hle150 ?_
                    refine GA.eff 13 rfl (by kernel_rfl) ?_
                    refine GL.storeT (p := (p139.1, p139.2 + ((Sl.len x24 : Int) : Int).toNat * 4)) (vs := T_api_Value.c x134) h trivial rfl rfl rfl rfl ?_
                    intro H153 h
                    obtain ⟨hle152, h⟩ := h
                    refine GA.back hle152 ?_
                    refine GA.done (by kernel_rfl) ?_
                    exact GL.jump (fun _ _ h => h) () h ⟨rfl, trivial⟩
      · intro x15 H16 h
        replace h := hR17 x15 H16 h
        refine GL.nil ?_
        refine GC.seq ?_
        refine GC.region ?_
        refine GL.val trivial rfl (OV.move (v := pv p_t) rfl) ?_
        obtain ⟨p154, hp155, h⟩ := h
        refine GL.val trivial rfl (OV.nilCheck (q := p_t) rfl hp155) ?_
        refine GL.val trivial rfl (OV.fieldAddr (p := p154) rfl rfl) ?_
        obtain ⟨x156, hr157, h⟩ := h
        refine GL.val trivial rfl (OV.load (p := (p154.1, p154.2 + 0)) rfl rfl hr157) ?_
        refine GL.val trivial rfl (OV.lenSl (s := x156) rfl rfl) ?_
        refine GL.val trivial rfl (OV.ibin (v := .int .i64 (w .i64 ((Sl.len x156 : Int) - 1))) rfl rfl rfl) ?_
        refine GL.val trivial rfl (OV.assign (v := .int .i64 (w .i64 ((Sl.len x156 : Int) - 1))) rfl) ?_
        refine GL.val trivial rfl (OV.assign (v := .int .i64 0) rfl) ?_
        refine GL.nil ?_
        exact GC.ret (fun _ _ hf hs => post_tmp2 rfl rfl rfl hf hs ⟨(w .i64 ((Sl.len x156 : Int) - 1)), 0, rfl, h⟩)

def sh_ref04_Table_PutRow (C : Ctx) (p_t : Option (Nat × Nat)) (p_l : Sl) (K : Sl → Int → Heap → Prop) (H : Heap) : Prop :=
  lp (α := Int) 0 H (fun x1 J2 H3 =>
 ift (decide ((x1 : Int) < (Sl.len p_l : Int)))
 (ixa p_l x1 fun p5 =>
 ldT H3 T_api_Value.c (p5.1, p5.2 + (x1 : Int).toNat * 4) fun x10 =>
 c_ref02_Check C x10 (fun r12 H13 =>
 ift ((r12 : Int) != 0)
 (K Sl.nil r12 H13)
 (J2 (w .i64 (x1 + 1)) H13)) H3)
 (lp (α := Sl × Int) (Sl.nil, 0) H3 (fun x15 J16 H17 =>
 ift (decide ((x15.2 : Int) < (Sl.len p_l : Int)))
 (ixa p_l x15.2 fun p19 =>
 ldT H17 T_api_Value.c (p19.1, p19.2 + (x15.2 : Int).toNat * 4) fun x24 =>
 c_ref04_Table_Put C p_t x24 (fun r26 r27 H28 =>
 apd ([.int .i64 0]) 8 x15.1 ([.int .i64 r26]) 1 (fun r29 H30 =>
 J16 (r29, (w .i64 (x15.2 + 1))) H30) H28) H17)
 (K x15.1 0 H17))))

theorem ad_ref04_Table_PutRow (C : Ctx) (p_t : Option (Nat × Nat)) (p_l : Sl) (K : Sl → Int → Heap → Prop) (H : Heap) (h : sh_ref04_Table_PutRow C p_t p_l K H) : c_ref04_Table_PutRow C p_t p_l K H := by
  refine Spec.enter Tryd.func22 rfl Tryd.ntmps22 rfl ?_
  refine GC.sub [(0, pv p_t), (1, slv p_l)] ⟨rfl, rfl, trivial⟩ ?_
  refine GC.seq ?_
  refine GC.region ?_
  refine GL.val trivial rfl (OV.assign (v := slv Sl.nil) rfl) ?_
  refine GL.val trivial rfl (OV.assign (v := .int .i64 0) rfl) ?_
  refine GL.nil ?_
  refine GC.seq ?_
  refine GC.seq ?_
  refine GC.region ?_
  refine GL.val trivial rfl (OV.assign (v := .int .i64 0) rfl) ?_
  refine GL.nil ?_
  refine GC.block ?_
  refine GC.loop (α := Int) h (fun x1 => [(6, .int .i64 x1), (0, pv p_t), (1, slv p_l)]) ⟨rfl, rfl, rfl, trivial⟩ ?_
  intro x1 H3 J2 h
  refine GC.seq ?_
  refine GC.seq ?_
  refine GC.region ?_
  refine GL.val trivial rfl (OV.move (v := .int .i64 x1) rfl) ?_
  refine GL.val trivial rfl (OV.move (v := slv p_l) rfl) ?_
  refine GL.val trivial rfl (OV.lenSl (s := p_l) rfl rfl) ?_
  refine GL.val trivial rfl (OV.ibin (v := .bool (decide ((x1 : Int) < (Sl.len p_l : Int)))) rfl rfl rfl) ?_
  refine GL.nil ?_
  refine GC.cond (b := decide ((x1 : Int) < (Sl.len p_l : Int))) rfl (fun hc4 => ?_) (fun hc4 => ?_)
  · replace h := And.left h hc4
    refine GC.skip ?_
    refine GC.seq ?_
    refine GC.block ?_
    refine GC.seq ?_
    refine GC.region ?_
    refine GL.val trivial rfl (OV.move (v := slv p_l) rfl) ?_
    refine GL.val trivial rfl (OV.move (v := .int .i64 x1) rfl) ?_
    obtain ⟨p5, ha6, hb7, hc8, hd9, h⟩ := h
    refine GL.val trivial rfl (OV.indexAddr (s := p_l) rfl rfl rfl rfl ha6 hb7 hc8 hd9) ?_
    obtain ⟨x10, hr11, h⟩ := h
    refine GL.val trivial rfl (OV.loadT (p := (p5.1, p5.2 + (x1 : Int).toNat * 4)) (cs := T_api_Value.c x10) rfl rfl rfl hr11) ?_
    refine GL.call h trivial rfl ok_ref02_Check (vs := [.agg (T_api_Value.c x10).toArray]) rfl ?_
    rintro _ H13 ⟨r12, rfl, h⟩
    refine GL.val trivial rfl (OV.assign (v := .int .i64 r12) rfl) ?_
    refine GL.nil ?_
    refine GC.seq ?_
    refine GC.region ?_
    refine GL.val trivial rfl (OV.move (v := .int .i64 r12) rfl) ?_
    refine GL.val trivial rfl (OV.ibin (v := .bool ((r12 : Int) != 0)) rfl rfl rfl) ?_
    refine GL.nil ?_
    refine GC.cond (b := (r12 : Int) != 0) rfl (fun hc14 => ?_) (fun hc14 => ?_)
    · replace h := And.left h hc14
      refine GC.seq ?_
      refine GC.region ?_
      refine GL.val trivial rfl (OV.move (v := .int .i64 r12) rfl) ?_
      refine GL.val trivial rfl (OV.assign (v := slv Sl.nil) rfl) ?_
      refine GL.val trivial rfl (OV.assign (v := .int .i64 r12) rfl) ?_
      refine GL.nil ?_
      exact GC.ret (fun _ _ hf hs => post_tmp2 rfl rfl rfl hf hs ⟨Sl.nil, r12, rfl, h⟩)
    · replace h := And.right h hc14
      refine GC.skip_to (fun _ _ h => h) ?_
      refine GC.region ?_
      refine GL.val trivial rfl (OV.move (v := .int .i64 x1) rfl) ?_
      refine GL.val trivial rfl (OV.ibin (v := .int .i64 (w .i64 (x1 + 1))) rfl rfl rfl) ?_
      refine GL.val trivial rfl (OV.assign (v := .int .i64 (w .i64 (x1 + 1))) rfl) ?_
      exact GL.jump (fun _ _ h => h) (w .i64 (x1 + 1)) h ⟨rfl, rfl, rfl, trivial⟩
  · replace h := And.right h hc4
    refine GC.exit_to (fun _ _ h => h) ?_
    refine GC.seq ?_
    refine GC.region ?_
    refine GL.val trivial rfl (OV.assign (v := slv Sl.nil) rfl) ?_
    refine GL.nil ?_
    refine GC.seq ?_
    refine GC.seq ?_
    refine GC.region ?_
    refine GL.val trivial rfl (OV.assign (v := .int .i64 0) rfl) ?_
    refine GL.nil ?_
    refine GC.block ?_
    refine GC.loop (α := Sl × Int) h (fun x15 => [(8, slv x15.1), (9, .int .i64 x15.2), (0, pv p_t), (1, slv p_l)]) ⟨rfl, rfl, rfl, rfl, trivial⟩ ?_
    intro x15 H17 J16 h
    refine GC.seq ?_
    refine GC.seq ?_
    refine GC.region ?_
    refine GL.val trivial rfl (OV.move (v := .int .i64 x15.2) rfl) ?_
    refine GL.val trivial rfl (OV.move (v := slv p_l) rfl) ?_
    refine GL.val trivial rfl (OV.lenSl (s := p_l) rfl rfl) ?_
    refine GL.val trivial rfl (OV.ibin (v := .bool (decide ((x15.2 : Int) < (Sl.len p_l : Int)))) rfl rfl rfl) ?_
    refine GL.nil ?_
    refine GC.cond (b := decide ((x15.2 : Int) < (Sl.len p_l : Int))) rfl (fun hc18 => ?_) (fun hc18 => ?_)
    · replace h := And.left h hc18
      refine GC.skip ?_
      refine GC.seq ?_
      refine GC.block ?_
      refine GC.seq ?_
      refine GC.region ?_
      refine GL.val trivial rfl (OV.move (v := pv p_t) rfl) ?_
      refine GL.val trivial rfl (OV.move (v := slv p_l) rfl) ?_
      refine GL.val trivial rfl (OV.move (v := .int .i64 x15.2) rfl) ?_
      obtain ⟨p19, ha20, hb21, hc22, hd23, h⟩ := h
      refine GL.val trivial rfl (OV.indexAddr (s := p_l) rfl rfl rfl rfl ha20 hb21 hc22 hd23) ?_
      obtain ⟨x24, hr25, h⟩ := h
      refine GL.val trivial rfl (OV.loadT (p := (p19.1, p19.2 + (x15.2 : Int).toNat * 4)) (cs := T_api_Value.c x24) rfl rfl rfl hr25) ?_
      refine GL.call h trivial rfl ok_ref04_Table_Put (vs := [pv p_t, .agg (T_api_Value.c x24).toArray]) rfl ?_
      rintro _ H28 ⟨r26, r27, rfl, h⟩
      refine GL.val trivial rfl (OV.move (v := .tuple #[.int .i64 r26, .int .i64 r27]) rfl) ?_
      refine GL.val trivial rfl (OV.extract (v := .int .i64 r26) rfl rfl) ?_
      refine GL.val trivial rfl (OV.extract (v := .int .i64 r27) rfl rfl) ?_
      refine GL.val trivial rfl (OV.assign (v := .int .i64 r26) rfl) ?_
      refine GL.val trivial rfl (OV.assign (v := .int .i64 r27) rfl) ?_
      refine GL.nil ?_
      refine GC.region ?_
      refine GL.val trivial rfl (OV.move (v := slv x15.1) rfl) ?_
      refine GL.val trivial rfl (OV.move (v := .int .i64 r26) rfl) ?_
      refine GL.appendLit (s := x15.1) (ys := [.int .i64 r26]) (zc := [.int .i64 0]) (bytes := 8) h trivial rfl (fun _ => trivial) rfl (fun _ => rfl) (fun _ => rfl) (vs := [(0, .int .i64 r26)]) rfl ⟨3, fun _ => by kernel_rfl⟩ ⟨⟨_, _, _, rfl, rfl, rfl, rfl, rfl, rfl⟩⟩ rfl rfl ?_
      intro _ r29 H30 h
      refine GL.val trivial rfl (OV.assign (v := slv r29) rfl) ?_
      refine GL.nil_to (fun _ _ h => h) ?_
      refine GC.region ?_
      refine GL.val trivial rfl (OV.move (v := .int .i64 x15.2) rfl) ?_
      refine GL.val trivial rfl (OV.ibin (v := .int .i64 (w .i64 (x15.2 + 1))) rfl rfl rfl) ?_
      refine GL.val trivial rfl (OV.assign (v := .int .i64 (w .i64 (x15.2 + 1))) rfl) ?_
      exact GL.jump (fun _ _ h => h) (r29, (w .i64 (x15.2 + 1))) h ⟨rfl, rfl, rfl, rfl, trivial⟩
    · replace h := And.right h hc18
      refine GC.exit_to (fun _ _ h => h) ?_
      refine GC.seq ?_
      refine GC.region ?_
      refine GL.val trivial rfl (OV.move (v := slv x15.1) rfl) ?_
      refine GL.val trivial rfl (OV.assign (v := slv x15.1) rfl) ?_
      refine GL.val trivial rfl (OV.assign (v := .int .i64 0) rfl) ?_
      refine GL.nil ?_
      exact GC.ret (fun _ _ hf hs => post_tmp2 rfl rfl rfl hf hs ⟨x15.1, 0, rfl, h⟩)

def sh_ref04_Table_Find (C : Ctx) (p_t : Option (Nat × Nat)) (p_v : T_api_Value) (K : Int → Bool → Heap → Prop) (H : Heap) : Prop :=
  nw (T_api_Value.c p_v) (fun b1 H2 =>
 lp (α := Int) 0 H2 (fun x3 J4 H5 =>
 nck p_t fun p6 =>
 ldL H5 (p6.1, p6.2 + 0) fun x8 =>
 ift (decide ((x3 : Int) < (Sl.len x8 : Int)))
 (dr H5 fun Hs11 =>
 nck p_t fun p13 =>
 ldL Hs11 (p13.1, p13.2 + 0) fun x15 =>
 ixa x15 x3 fun p17 =>
 ldT Hs11 T_api_Value.c (p17.1, p17.2 + (x3 : Int).toNat * 4) fun x22 =>
 ldT Hs11 T_api_Value.c (b1, 0) fun x24 =>
 c_ref02_Same C x22 x24 (fun r27 H28 =>
 Heap.le Hs11 H28 ∧
 ift r27
 (K x3 true H28)
 (J4 (w .i64 (x3 + 1)) H28)) H5)
 (K 0 false H5))) H

theorem ad_ref04_Table_Find (C : Ctx) (p_t : Option (Nat × Nat)) (p_v : T_api_Value) (K : Int → Bool → Heap → Prop) (H : Heap) (h : sh_ref04_Table_Find C p_t p_v K H) : c_ref04_Table_Find C p_t p_v K H := by
  refine Spec.enter Tryd.func23 rfl Tryd.ntmps23 rfl ?_
  refine GC.sub [(0, pv p_t), (1, .agg (T_api_Value.c p_v).toArray)] ⟨rfl, rfl, trivial⟩ ?_
  refine GC.seq ?_
  refine GC.region ?_
  refine GL.box (v := .agg (T_api_Value.c p_v).toArray) (cs := T_api_Value.c p_v) h trivial rfl rfl rfl ?_
  intro b1 H2 h
  refine GL.val trivial rfl (OV.assign (v := .int .i64 0) rfl) ?_
  refine GL.val trivial rfl (OV.assign (v := .bool false) rfl) ?_
  refine GL.nil ?_
  refine GC.seq ?_
  refine GC.seq ?_
  refine GC.region ?_
  refine GL.val trivial rfl (OV.assign (v := .int .i64 0) rfl) ?_
  refine GL.nil ?_
  refine GC.block ?_
  refine GC.loop (α := Int) h (fun x3 => [(6, .int .i64 x3), (0, pv p_t), (3, pv (some (b1, 0)))]) ⟨rfl, rfl, rfl, trivial⟩ ?_
  intro x3 H5 J4 h
  refine GC.seq ?_
  refine GC.seq ?_
  refine GC.region ?_
  refine GL.val trivial rfl (OV.move (v := .int .i64 x3) rfl) ?_
  refine GL.val trivial rfl (OV.move (v := pv p_t) rfl) ?_
  obtain ⟨p6, hp7, h⟩ := h
  refine GL.val trivial rfl (OV.nilCheck (q := p_t) rfl hp7) ?_
  refine GL.val trivial rfl (OV.fieldAddr (p := p6) rfl rfl) ?_
  obtain ⟨x8, hr9, h⟩ := h
  refine GL.val trivial rfl (OV.load (p := (p6.1, p6.2 + 0)) rfl rfl hr9) ?_
  refine GL.val trivial rfl (OV.lenSl (s := x8) rfl rfl) ?_
  refine GL.val trivial rfl (OV.ibin (v := .bool (decide ((x3 : Int) < (Sl.len x8 : Int)))) rfl rfl rfl) ?_
  refine GL.nil ?_
  refine GC.cond (b := decide ((x3 : Int) < (Sl.len x8 : Int))) rfl (fun hc10 => ?_) (fun hc10 => ?_)
  · replace h := And.left h hc10
    refine GC.skip ?_
    refine GC.seq ?_
    refine GC.block ?_
    refine GC.seq ?_
    obtain ⟨Hs11, hle12, h⟩ := h
    refine GC.any (Hs := Hs11) (by kernel_rfl) hle12 ?_
    refine GA.take 0 rfl (by kernel_rfl) (by kernel_rfl) (by kernel_rfl) (fun _ _ _ h => False.elim h) trivial rfl (OV.move (v := pv p_t) rfl) ?_
    obtain ⟨p13, hp14, h⟩ := h
    refine GA.take 1 rfl (by kernel_rfl) (by kernel_rfl) (by kernel_rfl) (fun _ _ _ h => False.elim h) trivial rfl (OV.nilCheck (q := p_t) rfl hp14) ?_
    refine GA.take 2 rfl (by kernel_rfl) (by kernel_rfl) (by kernel_rfl) (fun _ _ _ h => False.elim h) trivial rfl (OV.fieldAddr (p := p13) rfl rfl) ?_
    obtain ⟨x15, hr16, h⟩ := h
    refine GA.take 3 rfl (by kernel_rfl) (by kernel_rfl) (by kernel_rfl) (fun _ _ _ h => False.elim h) trivial rfl (OV.load (p := (p13.1, p13.2 + 0)) rfl rfl hr16) ?_
    refine GA.take 4 rfl (by kernel_rfl) (by kernel_rfl) (by kernel_rfl) (fun _ _ _ h => False.elim h) trivial rfl (OV.move (v := .int .i64 x3) rfl) ?_
    obtain ⟨p17, ha18, hb19, hc20, hd21, h⟩ := h
    refine GA.take 5 rfl (by kernel_rfl) (by kernel_rfl) (by kernel_rfl) (fun _ _ _ h => False.elim h) trivial rfl (OV.indexAddr (s := x15) rfl rfl rfl rfl ha18 hb19 hc20 hd21) ?_
    obtain ⟨x22, hr23, h⟩ := h
    refine GA.take 6 rfl (by kernel_rfl) (by kernel_rfl) (by kernel_rfl) (fun _ _ _ h => False.elim h) trivial rfl (OV.loadT (p := (p17.1, p17.2 + (x3 : Int).toNat * 4)) (cs := T_api_Value.c x22) rfl rfl rfl hr23) ?_
    obtain ⟨x24, hr25, h⟩ := h
    refine GA.take 7 rfl (by kernel_rfl) (by kernel_rfl) (by kernel_rfl) (fun _ _ _ h => False.elim h) trivial rfl (OV.loadT (p := (b1, 0)) (cs := T_api_Value.c x24) rfl rfl rfl hr25) ?_
    refine GA.eff 8 rfl (by kernel_rfl) ?_
    refine GL.call h trivial rfl ok_ref02_Same (vs := [.agg (T_api_Value.c x22).toArray, .agg (T_api_Value.c x24).toArray]) rfl ?_
    rintro _ H28 ⟨r27, rfl, h⟩
    obtain ⟨hle26, h⟩ := h
    refine GA.back hle26 ?_
    refine GA.done (by kernel_rfl) ?_
    refine GL.nil ?_
    refine GC.cond (b := r27) rfl (fun hc29 => ?_) (fun hc29 => ?_)
    · replace h := And.left h hc29
      refine GC.seq ?_
      refine GC.region ?_
      refine GL.val trivial rfl (OV.move (v := .int .i64 x3) rfl) ?_
      refine GL.val trivial rfl (OV.assign (v := .int .i64 x3) rfl) ?_
      refine GL.val trivial rfl (OV.assign (v := .bool true) rfl) ?_
      refine GL.nil ?_
      exact GC.ret (fun _ _ hf hs => post_tmp2 rfl rfl rfl hf hs ⟨x3, true, rfl, h⟩)
    · replace h := And.right h hc29
      refine GC.skip_to (fun _ _ h => h) ?_
      refine GC.region ?_
      refine GL.val trivial rfl (OV.move (v := .int .i64 x3) rfl) ?_
      refine GL.val trivial rfl (OV.ibin (v := .int .i64 (w .i64 (x3 + 1))) rfl rfl rfl) ?_
      refine GL.val trivial rfl (OV.assign (v := .int .i64 (w .i64 (x3 + 1))) rfl) ?_
      exact GL.jump (fun _ _ h => h) (w .i64 (x3 + 1)) h ⟨rfl, rfl, rfl, trivial⟩
  · replace h := And.right h hc10
    refine GC.exit_to (fun _ _ h => h) ?_
    refine GC.seq ?_
    refine GC.region ?_
    refine GL.val trivial rfl (OV.assign (v := .int .i64 0) rfl) ?_
    refine GL.val trivial rfl (OV.assign (v := .bool false) rfl) ?_
    refine GL.nil ?_
    exact GC.ret (fun _ _ hf hs => post_tmp2 rfl rfl rfl hf hs ⟨0, false, rfl, h⟩)

def sh_ref04_Table_Row (C : Ctx) (p_t : Option (Nat × Nat)) (p_l : Sl) (K : Sl → Int → Heap → Prop) (H : Heap) : Prop :=
  lp (α := Sl × Int) (Sl.nil, 0) H (fun x1 J2 H3 =>
 ift (decide ((x1.2 : Int) < (Sl.len p_l : Int)))
 (jn (α := Bool) (fun x6 H7 =>
 ift x6
 (K Sl.nil 5 H7)
 (dr H7 fun Hs31 =>
 nck p_t fun p33 =>
 ldL Hs31 (p33.1, p33.2 + 0) fun x35 =>
 ixa p_l x1.2 fun p37 =>
 ldI Hs31 .i64 (p37.1, p37.2 + (x1.2 : Int).toNat * 1) fun x42 =>
 ixa x35 x42 fun p44 =>
 ldT Hs31 T_api_Value.c (p44.1, p44.2 + (x42 : Int).toNat * 4) fun x49 =>
 nw ((T_api_Value.c x49) ++ []) (fun b52 H53 =>
 Heap.le Hs31 H53 ∧
 apS (T_api_Value.c T_api_Value.zero) 56 x1.1 (Sl.of (some (b52, 0)) 1 1) (fun r55 H56 =>
 Heap.le Hs31 H56 ∧
 J2 (r55, (w .i64 (x1.2 + 1))) H56) H53) H7))
 (fun J5 => dr H3 fun Hs9 =>
 ixa p_l x1.2 fun p11 =>
 ldI Hs9 .i64 (p11.1, p11.2 + (x1.2 : Int).toNat * 1) fun x16 =>
 ift (decide ((x16 : Int) < 0))
 (J5 true H3)
 (ixa p_l x1.2 fun p19 =>
 ldI Hs9 .i64 (p19.1, p19.2 + (x1.2 : Int).toNat * 1) fun x24 =>
 nck p_t fun p26 =>
 ldL Hs9 (p26.1, p26.2 + 0) fun x28 =>
 J5 (decide ((x24 : Int) ≥ (Sl.len x28 : Int))) H3)))
 (K x1.1 0 H3))

theorem ad_ref04_Table_Row (C : Ctx) (p_t : Option (Nat × Nat)) (p_l : Sl) (K : Sl → Int → Heap → Prop) (H : Heap) (h : sh_ref04_Table_Row C p_t p_l K H) : c_ref04_Table_Row C p_t p_l K H := by
  refine Spec.enter Tryd.func24 rfl Tryd.ntmps24 rfl ?_
  refine GC.sub [(0, pv p_t), (1, slv p_l)] ⟨rfl, rfl, trivial⟩ ?_
  refine GC.seq ?_
  refine GC.region ?_
  refine GL.val trivial rfl (OV.assign (v := slv Sl.nil) rfl) ?_
  refine GL.val trivial rfl (OV.assign (v := .int .i64 0) rfl) ?_
  refine GL.nil ?_
  refine GC.seq ?_
  refine GC.region ?_
  refine GL.val trivial rfl (OV.assign (v := slv Sl.nil) rfl) ?_
  refine GL.nil ?_
  refine GC.seq ?_
  refine GC.seq ?_
  refine GC.region ?_
  refine GL.val trivial rfl (OV.assign (v := .int .i64 0) rfl) ?_
  refine GL.nil ?_
  refine GC.block ?_
  refine GC.loop (α := Sl × Int) h (fun x1 => [(6, slv x1.1), (7, .int .i64 x1.2), (0, pv p_t), (1, slv p_l)]) ⟨rfl, rfl, rfl, rfl, trivial⟩ ?_
  intro x1 H3 J2 h
  refine GC.seq ?_
  refine GC.seq ?_
  refine GC.region ?_
  refine GL.val trivial rfl (OV.move (v := .int .i64 x1.2) rfl) ?_
  refine GL.val trivial rfl (OV.move (v := slv p_l) rfl) ?_
  refine GL.val trivial rfl (OV.lenSl (s := p_l) rfl rfl) ?_
  refine GL.val trivial rfl (OV.ibin (v := .bool (decide ((x1.2 : Int) < (Sl.len p_l : Int)))) rfl rfl rfl) ?_
  refine GL.nil ?_
  refine GC.cond (b := decide ((x1.2 : Int) < (Sl.len p_l : Int))) rfl (fun hc4 => ?_) (fun hc4 => ?_)
  · replace h := And.left h hc4
    refine GC.skip ?_
    refine GC.seq ?_
    refine GC.block ?_
    refine GC.seq ?_
    refine GC.seq ?_
    obtain ⟨J5, h, hR8⟩ := h
    refine GC.meet (α := Bool) J5 (fun x6 => [(30, .bool x6), (0, pv p_t), (1, slv p_l), (6, slv x1.1), (7, .int .i64 x1.2)]) ?_ ?_
    · skip
      obtain ⟨Hs9, hle10, h⟩ := h
      refine GC.any (Hs := Hs9) (by kernel_rfl) hle10 ?_
      refine GA.take 0 rfl (by kernel_rfl) (by kernel_rfl) (by kernel_rfl) (fun _ _ _ h => False.elim h) trivial rfl (OV.move (v := slv p_l) rfl) ?_
      refine GA.take 1 rfl (by kernel_rfl) (by kernel_rfl) (by kernel_rfl) (fun _ _ _ h => False.elim h) trivial rfl (OV.move (v := .int .i64 x1.2) rfl) ?_
      obtain ⟨p11, ha12, hb13, hc14, hd15, h⟩ := h
      refine GA.take 2 rfl (by kernel_rfl) (by kernel_rfl) (by kernel_rfl) (fun _ _ _ h => False.elim h) trivial rfl (OV.indexAddr (s := p_l) rfl rfl rfl rfl ha12 hb13 hc14 hd15) ?_
      obtain ⟨x16, hr17, h⟩ := h
      refine GA.take 3 rfl (by kernel_rfl) (by kernel_rfl) (by kernel_rfl) (fun _ _ _ h => False.elim h) trivial rfl (OV.load (p := (p11.1, p11.2 + (x1.2 : Int).toNat * 1)) rfl rfl hr17) ?_
      refine GA.take 4 rfl (by kernel_rfl) (by kernel_rfl) (by kernel_rfl) (fun _ _ _ h => False.elim h) trivial rfl (OV.ibin (v := .bool (decide ((x16 : Int) < 0))) rfl rfl rfl) ?_
      refine GA.take 5 rfl (by kernel_rfl) (by kernel_rfl) (by kernel_rfl) (fun _ _ _ h => False.elim h) trivial rfl (OV.move (v := .bool (decide ((x16 : Int) < 0))) rfl) ?_
      rcases Bool.eq_false_or_eq_true (decide ((x16 : Int) < 0)) with hc18 | hc18
      · replace h := And.left h hc18
        refine GA.skip 6 rfl (by kernel_rfl) (by kernel_rfl) (by kernel_rfl) (fun _ _ _ h => False.elim h) ⟨_, rfl, .inl ⟨_, rfl, hc18⟩⟩ rfl ?_
        refine GA.skip 7 rfl (by kernel_rfl) (by kernel_rfl) (by kernel_rfl) (fun _ _ _ h => False.elim h) ⟨_, rfl, .inl ⟨_, rfl, hc18⟩⟩ rfl ?_
        refine GA.skip 8 rfl (by kernel_rfl) (by kernel_rfl) (by kernel_rfl) (fun _ _ _ h => False.elim h) ⟨_, rfl, .inl ⟨_, rfl, hc18⟩⟩ rfl ?_
        refine GA.skip 9 rfl (by kernel_rfl) (by kernel_rfl) (by kernel_rfl) (fun _ _ _ h => False.elim h) ⟨_, rfl, .inl ⟨_, rfl, hc18⟩⟩ rfl ?_
        refine GA.skip 10 rfl (by kernel_rfl) (by kernel_rfl) (by kernel_rfl) (fun _ _ _ h => False.elim h) ⟨_, rfl, .inl ⟨_, rfl, hc18⟩⟩ rfl ?_
        refine GA.skip 11 rfl (by kernel_rfl) (by kernel_rfl) (by kernel_rfl) (fun _ _ _ h => False.elim h) ⟨_, rfl, .inl ⟨_, rfl, hc18⟩⟩ rfl ?_
        refine GA.skip 12 rfl (by kernel_rfl) (by kernel_rfl) (by kernel_rfl) (fun _ _ _ h => False.elim h) ⟨_, rfl, .inl ⟨_, rfl, hc18⟩⟩ rfl ?_
        refine GA.skip 13 rfl (by kernel_rfl) (by kernel_rfl) (by kernel_rfl) (fun _ _ _ h => False.elim h) ⟨_, rfl, .inl ⟨_, rfl, hc18⟩⟩ rfl ?_
        refine GA.skip 14 rfl (by kernel_rfl) (by kernel_rfl) (by kernel_rfl) (fun _ _ _ h => False.elim h) ⟨_, rfl, .inl ⟨_, rfl, hc18⟩⟩ rfl ?_
        refine GA.skip 15 rfl (by kernel_rfl) (by kernel_rfl) (by kernel_rfl) (fun _ _ _ h => False.elim h) ⟨_, rfl, .inl ⟨_, rfl, hc18⟩⟩ rfl ?_
        refine GA.take 16 rfl (by kernel_rfl) (by kernel_rfl) (by kernel_rfl) (fun _ _ _ h => False.elim h) trivial rfl (OV.pickT (b := decide ((x16 : Int) < 0)) (v := .bool true) rfl hc18 rfl) ?_
        refine GA.done (by kernel_rfl) ?_
        exact GL.jump (fun _ _ h => h) true h ⟨rfl, rfl, rfl, rfl, rfl, trivial⟩
      · replace h := And.right h hc18
        refine GA.take 6 rfl (by kernel_rfl) (by kernel_rfl) (by kernel_rfl) (fun _ _ _ h => False.elim h) ⟨_, _, rfl, rfl, hc18⟩ rfl (OV.move (v := slv p_l) rfl) ?_
        refine GA.take 7 rfl (by kernel_rfl) (by kernel_rfl) (by kernel_rfl) (fun _ _ _ h => False.elim h) ⟨_, _, rfl, rfl, hc18⟩ rfl (OV.move (v := .int .i64 x1.2) rfl) ?_
        obtain ⟨p19, ha20, hb21, hc22, hd23, h⟩ := h
        refine GA.take 8 rfl (by kernel_rfl) (by kernel_rfl) (by kernel_rfl) (fun _ _ _ h => False.elim h) ⟨_, _, rfl, rfl, hc18⟩ rfl (OV.indexAddr (s := p_l) rfl rfl rfl rfl ha20 hb21 hc22 hd23) ?_
        obtain ⟨x24, hr25, h⟩ := h
        refine GA.take 9 rfl (by kernel_rfl) (by kernel_rfl) (by kernel_rfl) (fun _ _ _ h => False.elim h) ⟨_, _, rfl, rfl, hc18⟩ rfl (OV.load (p := (p19.1, p19.2 + (x1.2 : Int).toNat * 1)) rfl rfl hr25) ?_
        refine GA.take 10 rfl (by kernel_rfl) (by kernel_rfl) (by kernel_rfl) (fun _ _ _ h => False.elim h) ⟨_, _, rfl, rfl, hc18⟩ rfl (OV.move (v := pv p_t) rfl) ?_
        obtain ⟨p26, hp27, h⟩ := h
        refine GA.take 11 rfl (by kernel_rfl) (by kernel_rfl) (by kernel_rfl) (fun _ _ _ h => False.elim h) ⟨_, _, rfl, rfl, hc18⟩ rfl (OV.nilCheck (q := p_t) rfl hp27) ?_
        refine GA.take 12 rfl (by kernel_rfl) (by kernel_rfl) (by kernel_rfl) (fun _ _ _ h => False.elim h) ⟨_, _, rfl, rfl, hc18⟩ rfl (OV.fieldAddr (p := p26) rfl rfl) ?_
        obtain ⟨x28, hr29, h⟩ := h
        refine GA.take 13 rfl (by kernel_rfl) (by kernel_rfl) (by kernel_rfl) (fun _ _ _ h => False.elim h) ⟨_, _, rfl, rfl, hc18⟩ rfl (OV.load (p := (p26.1, p26.2 + 0)) rfl rfl hr29) ?_
        refine GA.take 14 rfl (by kernel_rfl) (by kernel_rfl) (by kernel_rfl) (fun _ _ _ h => False.elim h) ⟨_, _, rfl, rfl, hc18⟩ rfl (OV.lenSl (s := x28) rfl rfl) ?_
        refine GA.take 15 rfl (by kernel_rfl) (by kernel_rfl) (by kernel_rfl) (fun _ _ _ h => False.elim h) ⟨_, _, rfl, rfl, hc18⟩ rfl (OV.ibin (v := .bool (decide ((x24 : Int) ≥ (Sl.len x28 : Int)))) rfl rfl rfl) ?_
        refine GA.take 16 rfl (by kernel_rfl) (by kernel_rfl) (by kernel_rfl) (fun _ _ _ h => False.elim h) trivial rfl (OV.pickF (b := decide ((x16 : Int) < 0)) (v := .bool (decide ((x24 : Int) ≥ (Sl.len x28 : Int)))) rfl hc18 rfl) ?_
        refine GA.done (by kernel_rfl) ?_
        exact GL.jump (fun _ _ h => h) (decide ((x24 : Int) ≥ (Sl.len x28 : Int))) h ⟨rfl, rfl, rfl, rfl, rfl, trivial⟩
    · intro x6 H7 h
      replace h := hR8 x6 H7 h
      refine GL.nil ?_
      refine GC.cond (b := x6) rfl (fun hc30 => ?_) (fun hc30 => ?_)
      · replace h := And.left h hc30
        refine GC.seq ?_
        refine GC.region ?_
        refine GL.val trivial rfl (OV.assign (v := slv Sl.nil) rfl) ?_
        refine GL.val trivial rfl (OV.assign (v := .int .i64 5) rfl) ?_
        refine GL.nil ?_
        exact GC.ret (fun _ _ hf hs => post_tmp2 rfl rfl rfl hf hs ⟨Sl.nil, 5, rfl, h⟩)
      · replace h := And.right h hc30
        refine GC.skip ?_
        obtain ⟨Hs31, hle32, h⟩ := h
        refine GC.any (Hs := Hs31) (by kernel_rfl) hle32 ?_
        refine GA.take 0 rfl (by kernel_rfl) (by kernel_rfl) (by kernel_rfl) (fun _ _ _ h => False.elim h) trivial rfl (OV.move (v := slv x1.1) rfl) ?_
        refine GA.take 1 rfl (by kernel_rfl) (by kernel_rfl) (by kernel_rfl) (fun _ _ _ h => False.elim h) trivial rfl (OV.move (v := pv p_t) rfl) ?_
        obtain ⟨p33, hp34, h⟩ := h
        refine GA.take 2 rfl (by kernel_rfl) (by kernel_rfl) (by kernel_rfl) (fun _ _ _ h => False.elim h) trivial rfl (OV.nilCheck (q := p_t) rfl hp34) ?_
        refine GA.take 3 rfl (by kernel_rfl) (by kernel_rfl) (by kernel_rfl) (fun _ _ _ h => False.elim h) trivial rfl (OV.fieldAddr (p := p33) rfl rfl) ?_
        obtain ⟨x35, hr36, h⟩ := h
        refine GA.take 4 rfl (by kernel_rfl) (by kernel_rfl) (by kernel_rfl) (fun _ _ _ h => False.elim h) trivial rfl (OV.load (p := (p33.1, p33.2 + 0)) rfl rfl hr36) ?_
        refine GA.take 5 rfl (by kernel_rfl) (by kernel_rfl) (by kernel_rfl) (fun _ _ _ h => False.elim h) trivial rfl (OV.move (v := slv p_l) rfl) ?_
        refine GA.take 6 rfl (by kernel_rfl) (by kernel_rfl) (by kernel_rfl) (fun _ _ _ h => False.elim h) trivial rfl (OV.move (v := .int .i64 x1.2) rfl) ?_
        obtain ⟨p37, ha38, hb39, hc40, hd41, h⟩ := h
        refine GA.take 7 rfl (by kernel_rfl) (by kernel_rfl) (by kernel_rfl) (fun _ _ _ h => False.elim h) trivial rfl (OV.indexAddr (s := p_l) rfl rfl rfl rfl ha38 hb39 hc40 hd41) ?_
        obtain ⟨x42, hr43, h⟩ := h
        refine GA.take 8 rfl (by kernel_rfl) (by kernel_rfl) (by kernel_rfl) (fun _ _ _ h => False.elim h) trivial rfl (OV.load (p := (p37.1, p37.2 + (x1.2 : Int).toNat * 1)) rfl rfl hr43) ?_
        obtain ⟨p44, ha45, hb46, hc47, hd48, h⟩ := h
        refine GA.take 9 rfl (by kernel_rfl) (by kernel_rfl) (by kernel_rfl) (fun _ _ _ h => False.elim h) trivial rfl (OV.indexAddr (s := x35) rfl rfl rfl rfl ha45 hb46 hc47 hd48) ?_
        obtain ⟨x49, hr50, h⟩ := h
        refine GA.take 10 rfl (by kernel_rfl) (by kernel_rfl) (by kernel_rfl) (fun _ _ _ h => False.elim h) trivial rfl (OV.loadT (p := (p44.1, p44.2 + (x42 : Int).toNat * 4)) (cs := T_api_Value.c x49) rfl rfl rfl hr50) ?_
        refine GA.eff 11 rfl (by kernel_rfl) ?_
        refine GL.buildSlice (cs := (T_api_Value.c x49) ++ []) h trivial rfl (vs := [(0, .agg (T_api_Value.c x49).toArray)]) rfl ⟨41, fun _ => by kernel_rfl⟩ ?_
        intro b52 H53 h
        obtain ⟨hle51, h⟩ := h
        refine GA.back hle51 ?_
        refine GA.eff 12 rfl (by kernel_rfl) ?_
        refine GL.appendS (s := x1.1) (s2 := (Sl.of (some (b52, 0)) 1 1)) (zc := T_api_Value.c T_api_Value.zero) (bytes := 56) h trivial rfl rfl rfl ⟨⟨_, _, _, rfl, rfl, rfl, rfl, rfl, rfl⟩⟩ rfl ?_
        intro r55 H56 h
        obtain ⟨hle54, h⟩ := h
        refine GA.back hle54 ?_
        refine GA.take 13 rfl (by kernel_rfl) (by kernel_rfl) (by kernel_rfl) (fun _ _ _ h => False.elim h) trivial rfl (OV.assign (v := slv r55) rfl) ?_
        refine GA.done (by kernel_rfl) ?_
        refine GL.nil_to (fun _ _ h => h) ?_
        refine GC.region ?_
        refine GL.val trivial rfl (OV.move (v := .int .i64 x1.2) rfl) ?_
        refine GL.val trivial rfl (OV.ibin (v := .int .i64 (w .i64 (x1.2 + 1))) rfl rfl rfl) ?_
        refine GL.val trivial rfl (OV.assign (v := .int .i64 (w .i64 (x1.2 + 1))) rfl) ?_
        exact GL.jump (fun _ _ h => h) (r55, (w .i64 (x1.2 + 1))) h ⟨rfl, rfl, rfl, rfl, trivial⟩
  · replace h := And.right h hc4
    refine GC.exit_to (fun _ _ h => h) ?_
    refine GC.seq ?_
    refine GC.region ?_
    refine GL.val trivial rfl (OV.move (v := slv x1.1) rfl) ?_
    refine GL.val trivial rfl (OV.assign (v := slv x1.1) rfl) ?_
    refine GL.val trivial rfl (OV.assign (v := .int .i64 0) rfl) ?_
    refine GL.nil ?_
    exact GC.ret (fun _ _ hf hs => post_tmp2 rfl rfl rfl hf hs ⟨x1.1, 0, rfl, h⟩)

def sh_law04_spoil (C : Ctx) (p_l : Sl) (K : Heap → Prop) (H : Heap) : Prop :=
  lp (α := Int) 0 H (fun x1 J2 H3 =>
 ift (decide ((x1 : Int) < (Sl.len p_l : Int)))
 (ixa p_l x1 fun p5 =>
 ldL H3 ((p5.1, p5.2 + (x1 : Int).toNat * 4).1, (p5.1, p5.2 + (x1 : Int).toNat * 4).2 + 3) fun x10 =>
 c_law04_spoil C x10 (fun H12 =>
 ixa p_l x1 fun p13 =>
 stT (p13.1, p13.2 + (x1 : Int).toNat * 4) (T_api_Value.c (⟨9, 0, [115, 112, 111, 105, 108, 116], Sl.nil⟩ : T_api_Value)) (fun H18 =>
 J2 (w .i64 (x1 + 1)) H18) H12) H3)
 (K H3))

theorem ad_law04_spoil (C : Ctx) (p_l : Sl) (K : Heap → Prop) (H : Heap) (h : sh_law04_spoil C p_l K H) : c_law04_spoil C p_l K H := by
  refine Spec.enter Tryd.func25 rfl Tryd.ntmps25 rfl ?_
  refine GC.sub [(0, slv p_l)] ⟨rfl, trivial⟩ ?_
  refine GC.seq ?_
  refine GC.region ?_
  refine GL.val trivial rfl (OV.assign (v := .int .i64 0) rfl) ?_
  refine GL.nil ?_
  refine GC.block ?_
  refine GC.loop (α := Int) h (fun x1 => [(2, .int .i64 x1), (0, slv p_l)]) ⟨rfl, rfl, trivial⟩ ?_
  intro x1 H3 J2 h
  refine GC.seq ?_
  refine GC.seq ?_
  refine GC.region ?_
  refine GL.val trivial rfl (OV.move (v := .int .i64 x1) rfl) ?_
  refine GL.val trivial rfl (OV.move (v := slv p_l) rfl) ?_
  refine GL.val trivial rfl (OV.lenSl (s := p_l) rfl rfl) ?_
  refine GL.val trivial rfl (OV.ibin (v := .bool (decide ((x1 : Int) < (Sl.len p_l : Int)))) rfl rfl rfl) ?_
  refine GL.nil ?_
  refine GC.cond (b := decide ((x1 : Int) < (Sl.len p_l : Int))) rfl (fun hc4 => ?_) (fun hc4 => ?_)
  · replace h := And.left h hc4
    refine GC.skip ?_
    refine GC.seq ?_
    refine GC.block ?_
    refine GC.seq ?_
    refine GC.region ?_
    refine GL.val trivial rfl (OV.move (v := slv p_l) rfl) ?_
    refine GL.val trivial rfl (OV.move (v := .int .i64 x1) rfl) ?_
    obtain ⟨p5, ha6, hb7, hc8, hd9, h⟩ := h
    refine GL.val trivial rfl (OV.indexAddr (s := p_l) rfl rfl rfl rfl ha6 hb7 hc8 hd9) ?_
    refine GL.val trivial rfl (OV.fieldAddr (p := (p5.1, p5.2 + (x1 : Int).toNat * 4)) rfl rfl) ?_
    obtain ⟨x10, hr11, h⟩ := h
    refine GL.val trivial rfl (OV.load (p := ((p5.1, p5.2 + (x1 : Int).toNat * 4).1, (p5.1, p5.2 + (x1 : Int).toNat * 4).2 + 3)) rfl rfl hr11) ?_
    refine GL.call h trivial rfl ok_law04_spoil (vs := [slv x10]) rfl ?_
    rintro _ H12 ⟨rfl, h⟩
    refine GL.nil ?_
    refine GC.region ?_
    refine GL.val trivial rfl (OV.move (v := slv p_l) rfl) ?_
    refine GL.val trivial rfl (OV.move (v := .int .i64 x1) rfl) ?_
    refine GL.val trivial rfl (OV.build (vs := [(0, .int .u8 9), (2, sv [115, 112, 111, 105, 108, 116])]) (v := .agg (T_api_Value.c (⟨9, 0, [115, 112, 111, 105, 108, 116], Sl.nil⟩ : T_api_Value)).toArray) rfl (fun _ => by kernel_rfl)) ?_
    obtain ⟨p13, ha14, hb15, hc16, hd17, h⟩ := h
    refine GL.val trivial rfl (OV.indexAddr (s := p_l) rfl rfl rfl rfl ha14 hb15 hc16 hd17) ?_
    refine GL.storeT (p := (p13.1, p13.2 + (x1 : Int).toNat * 4)) (vs := T_api_Value.c (⟨9, 0, [115, 112, 111, 105, 108, 116], Sl.nil⟩ : T_api_Value)) h trivial rfl rfl rfl rfl ?_
    intro H18 h
    refine GL.nil_to (fun _ _ h => h) ?_
    refine GC.region ?_
    refine GL.val trivial rfl (OV.move (v := .int .i64 x1) rfl) ?_
    refine GL.val trivial rfl (OV.ibin (v := .int .i64 (w .i64 (x1 + 1))) rfl rfl rfl) ?_
    refine GL.val trivial rfl (OV.assign (v := .int .i64 (w .i64 (x1 + 1))) rfl) ?_
    exact GL.jump (fun _ _ h => h) (w .i64 (x1 + 1)) h ⟨rfl, rfl, trivial⟩
  · replace h := And.right h hc4
    exact GC.exit_ends (fun _ _ hf hs => post_tmp0 rfl hf hs ⟨rfl, h⟩)

def sh_intern_own (C : Ctx) (p_l : Sl) (K : Sl → Heap → Prop) (H : Heap) : Prop :=
  ift (((Sl.len p_l : Int) : Int) == 0)
 (K Sl.nil H)
 (mkS (T_api_Value.c T_api_Value.zero) 56 (Sl.len p_l : Int) (Sl.len p_l : Int) (fun b2 H3 =>
 cpy 4 (Sl.of (some (b2, 0)) ((Sl.len p_l : Int) : Int).toNat ((Sl.len p_l : Int) : Int).toNat) p_l (fun r4 H5 =>
 lp (α := Int) 0 H5 (fun x6 J7 H8 =>
 ift (decide ((x6 : Int) < (Sl.len (Sl.of (some (b2, 0)) ((Sl.len p_l : Int) : Int).toNat ((Sl.len p_l : Int) : Int).toNat) : Int)))
 (ixa (Sl.of (some (b2, 0)) ((Sl.len p_l : Int) : Int).toNat ((Sl.len p_l : Int) : Int).toNat) x6 fun p10 =>
 ldL H8 ((p10.1, p10.2 + (x6 : Int).toNat * 4).1, (p10.1, p10.2 + (x6 : Int).toNat * 4).2 + 3) fun x15 =>
 c_intern_own C x15 (fun r17 H18 =>
 ixa (Sl.of (some (b2, 0)) ((Sl.len p_l : Int) : Int).toNat ((Sl.len p_l : Int) : Int).toNat) x6 fun p19 =>
 st ((p19.1, p19.2 + (x6 : Int).toNat * 4).1, (p19.1, p19.2 + (x6 : Int).toNat * 4).2 + 3) (slv r17) (fun H24 =>
 J7 (w .i64 (x6 + 1)) H24) H18) H8)
 (K (Sl.of (some (b2, 0)) ((Sl.len p_l : Int) : Int).toNat ((Sl.len p_l : Int) : Int).toNat) H8))) H3) H)

theorem ad_intern_own (C : Ctx) (p_l : Sl) (K : Sl → Heap → Prop) (H : Heap) (h : sh_intern_own C p_l K H) : c_intern_own C p_l K H := by
  refine Spec.enter Tryd.func26 rfl Tryd.ntmps26 rfl ?_
  refine GC.sub [(0, slv p_l)] ⟨rfl, trivial⟩ ?_
  refine GC.seq ?_
  refine GC.region ?_
  refine GL.val trivial rfl (OV.assign (v := slv Sl.nil) rfl) ?_
  refine GL.nil ?_
  refine GC.seq ?_
  refine GC.seq ?_
  refine GC.region ?_
  refine GL.val trivial rfl (OV.move (v := slv p_l) rfl) ?_
  refine GL.val trivial rfl (OV.lenSl (s := p_l) rfl rfl) ?_
  refine GL.val trivial rfl (OV.ibin (v := .bool (((Sl.len p_l : Int) : Int) == 0)) rfl rfl rfl) ?_
  refine GL.nil ?_
  refine GC.cond (b := ((Sl.len p_l : Int) : Int) == 0) rfl (fun hc1 => ?_) (fun hc1 => ?_)
  · replace h := And.left h hc1
    refine GC.seq ?_
    refine GC.region ?_
    refine GL.val trivial rfl (OV.assign (v := slv Sl.nil) rfl) ?_
    refine GL.nil ?_
    exact GC.ret (fun _ _ hf hs => post_tmp1 rfl rfl hf hs ⟨Sl.nil, rfl, h⟩)
  · replace h := And.right h hc1
    refine GC.skip ?_
    refine GC.seq ?_
    refine GC.region ?_
    refine GL.val trivial rfl (OV.move (v := slv p_l) rfl) ?_
    refine GL.val trivial rfl (OV.lenSl (s := p_l) rfl rfl) ?_
    refine GL.makeSlice (zc := T_api_Value.c T_api_Value.zero) (bytes := 56) h trivial rfl rfl rfl ⟨⟨_, _, _, rfl, rfl, rfl, rfl, rfl, rfl⟩⟩ ?_
    intro b2 H3 h
    refine GL.val trivial rfl (OV.assign (v := slv (Sl.of (some (b2, 0)) ((Sl.len p_l : Int) : Int).toNat ((Sl.len p_l : Int) : Int).toNat)) rfl) ?_
    refine GL.nil ?_
    refine GC.seq ?_
    refine GC.region ?_
    refine GL.val trivial rfl (OV.move (v := slv (Sl.of (some (b2, 0)) ((Sl.len p_l : Int) : Int).toNat ((Sl.len p_l : Int) : Int).toNat)) rfl) ?_
    refine GL.val trivial rfl (OV.move (v := slv p_l) rfl) ?_
    refine GL.copy (s := (Sl.of (some (b2, 0)) ((Sl.len p_l : Int) : Int).toNat ((Sl.len p_l : Int) : Int).toNat)) (s2 := p_l) (z := 4) h trivial rfl rfl rfl rfl rfl ?_
    intro r4 H5 h
    refine GL.nil ?_
    refine GC.seq ?_
    refine GC.seq ?_
    refine GC.region ?_
    refine GL.val trivial rfl (OV.move (v := slv (Sl.of (some (b2, 0)) ((Sl.len p_l : Int) : Int).toNat ((Sl.len p_l : Int) : Int).toNat)) rfl) ?_
    refine GL.val trivial rfl (OV.lenSl (s := (Sl.of (some (b2, 0)) ((Sl.len p_l : Int) : Int).toNat ((Sl.len p_l : Int) : Int).toNat)) rfl rfl) ?_
    refine GL.val trivial rfl (OV.move (v := .int .i64 0) rfl) ?_
    refine GL.nil ?_
    refine GC.block ?_
    refine GC.loop (α := Int) h (fun x6 => [(16, .int .i64 x6), (3, slv (Sl.of (some (b2, 0)) ((Sl.len p_l : Int) : Int).toNat ((Sl.len p_l : Int) : Int).toNat)), (15, .int .i64 (Sl.len (Sl.of (some (b2, 0)) ((Sl.len p_l : Int) : Int).toNat ((Sl.len p_l : Int) : Int).toNat) : Int))]) ⟨rfl, rfl, rfl, trivial⟩ ?_
    intro x6 H8 J7 h
    refine GC.seq ?_
    refine GC.region ?_
    refine GL.val trivial rfl (OV.ibin (v := .bool (decide ((x6 : Int) < (Sl.len (Sl.of (some (b2, 0)) ((Sl.len p_l : Int) : Int).toNat ((Sl.len p_l : Int) : Int).toNat) : Int)))) rfl rfl rfl) ?_
    refine GL.nil ?_
    refine GC.seq ?_
    refine GC.cond (b := decide ((x6 : Int) < (Sl.len (Sl.of (some (b2, 0)) ((Sl.len p_l : Int) : Int).toNat ((Sl.len p_l : Int) : Int).toNat) : Int))) rfl (fun hc9 => ?_) (fun hc9 => ?_)
    · replace h := And.left h hc9
      refine GC.skip ?_
      refine GC.seq ?_
      refine GC.block ?_
      refine GC.seq ?_
      refine GC.region ?_
      refine GL.val trivial rfl (OV.move (v := .int .i64 x6) rfl) ?_
      refine GL.val trivial rfl (OV.assign (v := .int .i64 x6) rfl) ?_
      refine GL.nil ?_
      refine GC.region ?_
      refine GL.val trivial rfl (OV.move (v := slv (Sl.of (some (b2, 0)) ((Sl.len p_l : Int) : Int).toNat ((Sl.len p_l : Int) : Int).toNat)) rfl) ?_
      refine GL.val trivial rfl (OV.move (v := .int .i64 x6) rfl) ?_
      refine GL.val trivial rfl (OV.move (v := slv (Sl.of (some (b2, 0)) ((Sl.len p_l : Int) : Int).toNat ((Sl.len p_l : Int) : Int).toNat)) rfl) ?_
      refine GL.val trivial rfl (OV.move (v := .int .i64 x6) rfl) ?_
      obtain ⟨p10, ha11, hb12, hc13, hd14, h⟩ := h
      refine GL.val trivial rfl (OV.indexAddr (s := (Sl.of (some (b2, 0)) ((Sl.len p_l : Int) : Int).toNat ((Sl.len p_l : Int) : Int).toNat)) rfl rfl rfl rfl ha11 hb12 hc13 hd14) ?_
      refine GL.val trivial rfl (OV.fieldAddr (p := (p10.1, p10.2 + (x6 : Int).toNat * 4)) rfl rfl) ?_
      obtain ⟨x15, hr16, h⟩ := h
      refine GL.val trivial rfl (OV.load (p := ((p10.1, p10.2 + (x6 : Int).toNat * 4).1, (p10.1, p10.2 + (x6 : Int).toNat * 4).2 + 3)) rfl rfl hr16) ?_
      refine GL.call h trivial rfl ok_intern_own (vs := [slv x15]) rfl ?_
      rintro _ H18 ⟨r17, rfl, h⟩
      obtain ⟨p19, ha20, hb21, hc22, hd23, h⟩ := h
      refine GL.val trivial rfl (OV.indexAddr (s := (Sl.of (some (b2, 0)) ((Sl.len p_l : Int) : Int).toNat ((Sl.len p_l : Int) : Int).toNat)) rfl rfl rfl rfl ha20 hb21 hc22 hd23) ?_
      refine GL.val trivial rfl (OV.fieldAddr (p := (p19.1, p19.2 + (x6 : Int).toNat * 4)) rfl rfl) ?_
      refine GL.store (p := ((p19.1, p19.2 + (x6 : Int).toNat * 4).1, (p19.1, p19.2 + (x6 : Int).toNat * 4).2 + 3)) (v := slv r17) h trivial rfl rfl rfl rfl ?_
      intro H24 h
      refine GL.nil_to (fun _ _ h => h) ?_
      refine GC.region ?_
      refine GL.val trivial rfl (OV.ibin (v := .int .i64 (w .i64 (x6 + 1))) rfl rfl rfl) ?_
      refine GL.val trivial rfl (OV.move (v := .int .i64 (w .i64 (x6 + 1))) rfl) ?_
      exact GL.jump (fun _ _ h => h) (w .i64 (x6 + 1)) h ⟨rfl, rfl, rfl, trivial⟩
    · replace h := And.right h hc9
      refine GC.exit_to (fun _ _ h => h) ?_
      refine GC.seq ?_
      refine GC.region ?_
      refine GL.val trivial rfl (OV.move (v := slv (Sl.of (some (b2, 0)) ((Sl.len p_l : Int) : Int).toNat ((Sl.len p_l : Int) : Int).toNat)) rfl) ?_
      refine GL.val trivial rfl (OV.assign (v := slv (Sl.of (some (b2, 0)) ((Sl.len p_l : Int) : Int).toNat ((Sl.len p_l : Int) : Int).toNat)) rfl) ?_
      refine GL.nil ?_
      exact GC.ret (fun _ _ hf hs => post_tmp1 rfl rfl hf hs ⟨(Sl.of (some (b2, 0)) ((Sl.len p_l : Int) : Int).toNat ((Sl.len p_l : Int) : Int).toNat), rfl, h⟩)

def sh_value_Show (C : Ctx) (p_v : T_api_Value) (K : Str → Heap → Prop) (H : Heap) : Prop :=
  nw (T_api_Value.c p_v) (fun b1 H2 =>
 ldT H2 T_api_Value.c (b1, 0) fun x3 =>
 c_value_Check C x3 (fun r5 H6 =>
 ift ((r5 : Int) != 0)
 (K [] H6)
 (nwB 67 5 (fun b8 H9 =>
 nw ([.nilFunc]) (fun b10 H11 =>
 nw ([.nilFunc]) (fun b12 H13 =>
 st (b12, 0) (.func (.func 31) (List.toArray []) (List.toArray [pv (some (b8, 0)), pv (some (b10, 0))])) (fun H14 =>
 st (b10, 0) (.func (.func 34) (List.toArray []) (List.toArray [pv (some (b8, 0)), pv (some (b12, 0))])) (fun H15 =>
 ldV H15 (b10, 0) fun x16 =>
 ldT H15 T_api_Value.c (b1, 0) fun x18 =>
 callU Tryd.prog C x16 [.agg (T_api_Value.c x18).toArray] H15 (fun v H20 => v = .tuple #[] ∧
 c_strings_Builder_String C (some (b8, 0)) (fun r21 H22 =>
 K r21 H22) H20)) H14) H13) H11) H9) H6)) H2) H

theorem ad_value_Show (C : Ctx) (p_v : T_api_Value) (K : Str → Heap → Prop) (H : Heap) (h : sh_value_Show C p_v K H) : c_value_Show C p_v K H := by
  refine Spec.enter Tryd.func27 rfl Tryd.ntmps27 rfl ?_
  refine GC.sub [(0, .agg (T_api_Value.c p_v).toArray)] ⟨rfl, trivial⟩ ?_
  refine GC.seq ?_
  refine GC.region ?_
  refine GL.box (v := .agg (T_api_Value.c p_v).toArray) (cs := T_api_Value.c p_v) h trivial rfl rfl rfl ?_
  intro b1 H2 h
  refine GL.val trivial rfl (OV.assign (v := sv []) rfl) ?_
  refine GL.nil ?_
  refine GC.seq ?_
  refine GC.seq ?_
  refine GC.region ?_
  obtain ⟨x3, hr4, h⟩ := h
  refine GL.val trivial rfl (OV.loadT (p := (b1, 0)) (cs := T_api_Value.c x3) rfl rfl rfl hr4) ?_
  refine GL.call h trivial rfl ok_value_Check (vs := [.agg (T_api_Value.c x3).toArray]) rfl ?_
  rintro _ H6 ⟨r5, rfl, h⟩
  refine GL.val trivial rfl (OV.ibin (v := .bool ((r5 : Int) != 0)) rfl rfl rfl) ?_
  refine GL.nil ?_
  refine GC.cond (b := (r5 : Int) != 0) rfl (fun hc7 => ?_) (fun hc7 => ?_)
  · replace h := And.left h hc7
    refine GC.seq ?_
    refine GC.region ?_
    refine GL.val trivial rfl (OV.assign (v := sv []) rfl) ?_
    refine GL.nil ?_
    exact GC.ret (fun _ _ hf hs => post_tmp1 rfl rfl hf hs ⟨[], rfl, h⟩)
  · replace h := And.right h hc7
    refine GC.skip ?_
    refine GC.seq ?_
    refine GC.region ?_
    refine GL.allocB (T := 67) (e := 5) h trivial rfl rfl rfl ?_
    intro b8 H9 h
    refine GL.nil ?_
    refine GC.seq ?_
    refine GC.region ?_
    refine GL.alloc (cs := [.nilFunc]) h trivial rfl rfl rfl ?_
    intro b10 H11 h
    refine GL.nil ?_
    refine GC.seq ?_
    refine GC.region ?_
    refine GL.val trivial rfl (OV.makeFunc (vs := []) (us := [pv (some (b8, 0)), pv (some (b10, 0))]) rfl rfl) ?_
    refine GL.alloc (cs := [.nilFunc]) h trivial rfl rfl rfl ?_
    intro b12 H13 h
    refine GL.store (p := (b12, 0)) (v := .func (.func 31) (List.toArray []) (List.toArray [pv (some (b8, 0)), pv (some (b10, 0))])) h trivial rfl rfl rfl rfl ?_
    intro H14 h
    refine GL.nil ?_
    refine GC.seq ?_
    refine GC.region ?_
    refine GL.val trivial rfl (OV.makeFunc (vs := []) (us := [pv (some (b8, 0)), pv (some (b12, 0))]) rfl rfl) ?_
    refine GL.store (p := (b10, 0)) (v := .func (.func 34) (List.toArray []) (List.toArray [pv (some (b8, 0)), pv (some (b12, 0))])) h trivial rfl rfl rfl rfl ?_
    intro H15 h
    refine GL.nil ?_
    refine GC.seq ?_
    refine GC.region ?_
    obtain ⟨x16, hr17, h⟩ := h
    refine GL.val trivial rfl (OV.load (p := (b10, 0)) rfl rfl hr17) ?_
    obtain ⟨x18, hr19, h⟩ := h
    refine GL.val trivial rfl (OV.loadT (p := (b1, 0)) (cs := T_api_Value.c x18) rfl rfl rfl hr19) ?_
    refine GL.callU (xv := x16) (vs := [.agg (T_api_Value.c x18).toArray]) h trivial rfl rfl rfl ?_
    rintro _ H20 ⟨rfl, h⟩
    refine GL.nil ?_
    refine GC.seq ?_
    refine GC.region ?_
    refine GL.call h trivial rfl ok_strings_Builder_String (vs := [pv (some (b8, 0))]) rfl ?_
    rintro _ H22 ⟨r21, rfl, h⟩
    refine GL.val trivial rfl (OV.assign (v := sv r21) rfl) ?_
    refine GL.nil ?_
    exact GC.ret (fun _ _ hf hs => post_tmp1 rfl rfl hf hs ⟨r21, rfl, h⟩)

def sh_value_depth (C : Ctx) (p_v : T_api_Value) (p_most : Int) (K : Int → Heap → Prop) (H : Heap) : Prop :=
  nw (T_api_Value.c p_v) (fun b1 H2 =>
 jn (α := Int) (fun x4 H5 =>
 K (w .i64 (x4 + 1)) H5)
 (fun J3 => ldL H2 ((b1, 0).1, (b1, 0).2 + 3) fun x7 =>
 lp (α := Int × Int) (0, 0) H2 (fun x9 J10 H11 =>
 ift (decide ((x9.2 : Int) < (Sl.len x7 : Int)))
 (ixa x7 x9.2 fun p13 =>
 ldT H11 T_api_Value.c (p13.1, p13.2 + (x9.2 : Int).toNat * 4) fun x18 =>
 nw (T_api_Value.c T_api_Value.zero) (fun b20 H21 =>
 stT (b20, 0) (T_api_Value.c x18) (fun H22 =>
 ift (decide ((x9.1 : Int) ≥ p_most))
 (J3 x9.1 H22)
 (ldT H22 T_api_Value.c (b20, 0) fun x24 =>
 c_value_depth C x24 (w .i64 (p_most - 1)) (fun r26 H27 =>
 J10 ((if r26 > x9.1 then r26 else x9.1 : Int), (w .i64 (x9.2 + 1))) H27) H22)) H21) H11)
 (J3 x9.1 H11)))) H

theorem ad_value_depth (C : Ctx) (p_v : T_api_Value) (p_most : Int) (K : Int → Heap → Prop) (H : Heap) (h : sh_value_depth C p_v p_most K H) : c_value_depth C p_v p_most K H := by
  refine Spec.enter Tryd.func28 rfl Tryd.ntmps28 rfl ?_
  refine GC.sub [(0, .agg (T_api_Value.c p_v).toArray), (1, .int .i64 p_most)] ⟨rfl, rfl, trivial⟩ ?_
  refine GC.seq ?_
  refine GC.region ?_
  refine GL.box (v := .agg (T_api_Value.c p_v).toArray) (cs := T_api_Value.c p_v) h trivial rfl rfl rfl ?_
  intro b1 H2 h
  refine GL.val trivial rfl (OV.assign (v := .int .i64 0) rfl) ?_
  refine GL.nil ?_
  refine GC.seq ?_
  refine GC.region ?_
  refine GL.val trivial rfl (OV.assign (v := .int .i64 0) rfl) ?_
  refine GL.nil ?_
  obtain ⟨J3, h, hR6⟩ := h
  refine GC.join (α := Int) J3 (fun x4 => [(5, .int .i64 x4)]) ?_ ?_
  · skip
    refine GC.seq ?_
    refine GC.region ?_
    refine GL.val trivial rfl (OV.fieldAddr (p := (b1, 0)) rfl rfl) ?_
    obtain ⟨x7, hr8, h⟩ := h
    refine GL.val trivial rfl (OV.load (p := ((b1, 0).1, (b1, 0).2 + 3)) rfl rfl hr8) ?_
    refine GL.val trivial rfl (OV.lenSl (s := x7) rfl rfl) ?_
    refine GL.val trivial rfl (OV.move (v := .int .i64 0) rfl) ?_
    refine GL.nil ?_
    refine GC.block ?_
    refine GC.loop (α := Int × Int) h (fun x9 => [(5, .int .i64 x9.1), (11, .int .i64 x9.2), (1, .int .i64 p_most), (9, slv x7), (10, .int .i64 (Sl.len x7 : Int))]) ⟨rfl, rfl, rfl, rfl, rfl, trivial⟩ ?_
    intro x9 H11 J10 h
    refine GC.seq ?_
    refine GC.region ?_
    refine GL.val trivial rfl (OV.ibin (v := .bool (decide ((x9.2 : Int) < (Sl.len x7 : Int)))) rfl rfl rfl) ?_
    refine GL.nil ?_
    refine GC.seq ?_
    refine GC.cond (b := decide ((x9.2 : Int) < (Sl.len x7 : Int))) rfl (fun hc12 => ?_) (fun hc12 => ?_)
    · replace h := And.left h hc12
      refine GC.skip ?_
      refine GC.seq ?_
      refine GC.block ?_
      refine GC.seq ?_
      refine GC.region ?_
      obtain ⟨p13, ha14, hb15, hc16, hd17, h⟩ := h
      refine GL.val trivial rfl (OV.indexAddr (s := x7) rfl rfl rfl rfl ha14 hb15 hc16 hd17) ?_
      obtain ⟨x18, hr19, h⟩ := h
      refine GL.val trivial rfl (OV.loadT (p := (p13.1, p13.2 + (x9.2 : Int).toNat * 4)) (cs := T_api_Value.c x18) rfl rfl rfl hr19) ?_
      refine GL.alloc (cs := T_api_Value.c T_api_Value.zero) h trivial rfl rfl rfl ?_
      intro b20 H21 h
      refine GL.storeT (p := (b20, 0)) (vs := T_api_Value.c x18) h trivial rfl rfl rfl rfl ?_
      intro H22 h
      refine GL.nil ?_
      refine GC.seq ?_
      refine GC.seq ?_
      refine GC.region ?_
      refine GL.val trivial rfl (OV.move (v := .int .i64 x9.1) rfl) ?_
      refine GL.val trivial rfl (OV.move (v := .int .i64 p_most) rfl) ?_
      refine GL.val trivial rfl (OV.ibin (v := .bool (decide ((x9.1 : Int) ≥ p_most))) rfl rfl rfl) ?_
      refine GL.nil ?_
      refine GC.cond (b := decide ((x9.1 : Int) ≥ p_most)) rfl (fun hc23 => ?_) (fun hc23 => ?_)
      · replace h := And.left h hc23
        exact GC.exit_jump (fun _ _ h => h) x9.1 h ⟨rfl, trivial⟩
      · replace h := And.right h hc23
        refine GC.skip ?_
        refine GC.region ?_
        refine GL.val trivial rfl (OV.move (v := .int .i64 x9.1) rfl) ?_
        obtain ⟨x24, hr25, h⟩ := h
        refine GL.val trivial rfl (OV.loadT (p := (b20, 0)) (cs := T_api_Value.c x24) rfl rfl rfl hr25) ?_
        refine GL.val trivial rfl (OV.move (v := .int .i64 p_most) rfl) ?_
        refine GL.val trivial rfl (OV.ibin (v := .int .i64 (w .i64 (p_most - 1))) rfl rfl rfl) ?_
        refine GL.call h trivial rfl ok_value_depth (vs := [.agg (T_api_Value.c x24).toArray, .int .i64 (w .i64 (p_most - 1))]) rfl ?_
        rintro _ H27 ⟨r26, rfl, h⟩
        refine GL.val trivial rfl (OV.maxI rfl rfl) ?_
        refine GL.val trivial rfl (OV.assign (v := .int .i64 (if r26 > x9.1 then r26 else x9.1 : Int)) rfl) ?_
        refine GL.nil_to (fun _ _ h => h) ?_
        refine GC.region ?_
        refine GL.val trivial rfl (OV.ibin (v := .int .i64 (w .i64 (x9.2 + 1))) rfl rfl rfl) ?_
        refine GL.val trivial rfl (OV.move (v := .int .i64 (w .i64 (x9.2 + 1))) rfl) ?_
        exact GL.jump (fun _ _ h => h) ((if r26 > x9.1 then r26 else x9.1 : Int), (w .i64 (x9.2 + 1))) h ⟨rfl, rfl, rfl, rfl, rfl, trivial⟩
    · replace h := And.right h hc12
      exact GC.exit_jump (fun _ _ h => h) x9.1 h ⟨rfl, trivial⟩
  · intro x4 H5 h
    replace h := hR6 x4 H5 h
    refine GC.seq ?_
    refine GC.region ?_
    refine GL.val trivial rfl (OV.move (v := .int .i64 x4) rfl) ?_
    refine GL.val trivial rfl (OV.ibin (v := .int .i64 (w .i64 (x4 + 1))) rfl rfl rfl) ?_
    refine GL.val trivial rfl (OV.assign (v := .int .i64 (w .i64 (x4 + 1))) rfl) ?_
    refine GL.nil ?_
    exact GC.ret (fun _ _ hf hs => post_tmp1 rfl rfl hf hs ⟨(w .i64 (x4 + 1)), rfl, h⟩)

def sh_value_item_look (C : Ctx) (p_v : T_api_Value) (K : Bool → Bool → Heap → Prop) (H : Heap) : Prop :=
  nw (T_api_Value.c p_v) (fun b1 H2 =>
 ldI H2 .i64 ((b1, 0).1, (b1, 0).2 + 1) fun x3 =>
 jn (α := Bool) (fun b5 H11 =>
 jn (α := Bool) (fun b12 H18 =>
 jn (α := Bool × Bool) (fun x20 H21 =>
 ldL H21 ((b1, 0).1, (b1, 0).2 + 3) fun x149 =>
 lp (α := Bool × Bool × Int) (x20.1, x20.2, 0) H21 (fun x151 J152 H153 =>
 ift (decide ((x151.2.2 : Int) < (Sl.len x149 : Int)))
 (ixa x149 x151.2.2 fun p155 =>
 ldT H153 T_api_Value.c (p155.1, p155.2 + (x151.2.2 : Int).toNat * 4) fun x160 =>
 nw (T_api_Value.c T_api_Value.zero) (fun b162 H163 =>
 stT (b162, 0) (T_api_Value.c x160) (fun H164 =>
 ldT H164 T_api_Value.c (b162, 0) fun x165 =>
 c_value_item_look C x165 (fun r167 r168 H169 =>
 J152 ((x151.1 && r167), (x151.2.1 && r168), (w .i64 (x151.2.2 + 1))) H169) H164) H163) H153)
 (K x151.1 x151.2.1 H153)))
 (fun J19 => ldI H18 .u8 ((b1, 0).1, (b1, 0).2 + 0) fun x23 =>
 ift ((x23 : Int) == 1)
 (ldI H18 .i64 ((b1, 0).1, (b1, 0).2 + 1) fun x26 =>
 jn (α := Bool) (fun b28 H34 =>
 jn (α := Bool) (fun b35 H41 =>
 jn (α := Bool) (fun b42 H48 =>
 J19 (b42, true) H48)
 (fun J43 => ift b35
 (ldL H41 ((b1, 0).1, (b1, 0).2 + 3) fun x46 =>
 J43 (((Sl.len x46 : Int) : Int) == 0) H41)
 (J43 false H41)))
 (fun J36 => ift b28
 (ldS H34 ((b1, 0).1, (b1, 0).2 + 2) fun x39 =>
 J36 (x39 == ([] : Str)) H34)
 (J36 false H34)))
 (fun J29 => ift ((x26 : Int) == 0)
 (J29 true H18)
 (ldI H18 .i64 ((b1, 0).1, (b1, 0).2 + 1) fun x32 =>
 J29 ((x32 : Int) == 1) H18)))
 (ift ((x23 : Int) == 2)
 (ldS H18 ((b1, 0).1, (b1, 0).2 + 2) fun x50 =>
 jn (α := Bool) (fun b52 H58 =>
 J19 (b52, true) H58)
 (fun J53 => ift (x50 == ([] : Str))
 (ldL H18 ((b1, 0).1, (b1, 0).2 + 3) fun x56 =>
 J53 (((Sl.len x56 : Int) : Int) == 0) H18)
 (J53 false H18)))
 (ift ((x23 : Int) == 3)
 (ldS H18 ((b1, 0).1, (b1, 0).2 + 2) fun x60 =>
 c_value_number C x60 (fun r62 r63 H64 =>
 jn (α := Bool) (fun b65 H71 =>
 jn (α := Bool) (fun b72 H78 =>
 J19 (b72, (decide ((r62 : Int) ≤ 200))) H78)
 (fun J73 => ift b65
 (ldL H71 ((b1, 0).1, (b1, 0).2 + 3) fun x76 =>
 J73 (((Sl.len x76 : Int) : Int) == 0) H71)
 (J73 false H71)))
 (fun J66 => ift r63
 (ldI H64 .i64 ((b1, 0).1, (b1, 0).2 + 1) fun x69 =>
 J66 ((x69 : Int) == 0) H64)
 (J66 false H64))) H18)
 (ift ((x23 : Int) == 4)
 (jn (α := Bool × Bool) (fun x81 H82 =>
 J19 (x81.1, x81.2) H82)
 (fun J80 => dr H18 fun Hs84 =>
 ldI Hs84 .i64 ((b1, 0).1, (b1, 0).2 + 1) fun x86 =>
 ldS Hs84 ((b1, 0).1, (b1, 0).2 + 2) fun x88 =>
 ift ((x86 : Int) == 0)
 (ldL Hs84 ((b1, 0).1, (b1, 0).2 + 3) fun x91 =>
 J80 ((((Sl.len x91 : Int) : Int) == 0), (decide (((List.length x88 : Int) : Int) ≤ 4096))) H18)
 (J80 (false, (decide (((List.length x88 : Int) : Int) ≤ 4096))) H18)))
 (ift ((x23 : Int) == 5)
 (jn (α := Bool × Bool) (fun x95 H96 =>
 J19 (x95.1, x95.2) H96)
 (fun J94 => dr H18 fun Hs98 =>
 ldI Hs98 .i64 ((b1, 0).1, (b1, 0).2 + 1) fun x100 =>
 ldL Hs98 ((b1, 0).1, (b1, 0).2 + 3) fun x102 =>
 ift ((x100 : Int) == 0)
 (ldS Hs98 ((b1, 0).1, (b1, 0).2 + 2) fun x105 =>
 ift (x105 == ([] : Str))
 (ldL Hs98 ((b1, 0).1, (b1, 0).2 + 3) fun x108 =>
 J94 ((((Sl.len x108 : Int) : Int) != 1), (decide (((Sl.len x102 : Int) : Int) ≤ 16))) H18)
 (J94 (false, (decide (((Sl.len x102 : Int) : Int) ≤ 16))) H18))
 (J94 (false, (decide (((Sl.len x102 : Int) : Int) ≤ 16))) H18)))
 (ift ((x23 : Int) == 6)
 (ldS H18 ((b1, 0).1, (b1, 0).2 + 2) fun x111 =>
 c_strings_Cut C x111 [46] (fun r113 r114 r115 H116 =>
 jn (α := Bool × Bool) (fun x118 H119 =>
 J19 (x118.1, x118.2) H119)
 (fun J117 => dr H116 fun Hs121 =>
 ldI Hs121 .i64 ((b1, 0).1, (b1, 0).2 + 1) fun x123 =>
 ldL Hs121 ((b1, 0).1, (b1, 0).2 + 3) fun x125 =>
 ift ((x123 : Int) == 0)
 (c_value_name C r113 (fun r129 H130 =>
 Heap.le Hs121 H130 ∧
 ift r129
 (ift r115
 (c_value_name C r114 (fun r134 H135 =>
 Heap.le Hs121 H135 ∧
 ift r134
 (J117 (true, (decide (((Sl.len x125 : Int) : Int) ≤ 8))) H135)
 (ift (!r115)
 (ldS Hs121 ((b1, 0).1, (b1, 0).2 + 2) fun x138 =>
 ift (!(x138 == ([116, 114, 117, 101] : Str)))
 (ldS Hs121 ((b1, 0).1, (b1, 0).2 + 2) fun x141 =>
 J117 ((!(x141 == ([102, 97, 108, 115, 101] : Str))), (decide (((Sl.len x125 : Int) : Int) ≤ 8))) H135)
 (J117 (false, (decide (((Sl.len x125 : Int) : Int) ≤ 8))) H135))
 (J117 (false, (decide (((Sl.len x125 : Int) : Int) ≤ 8))) H135))) H130)
 (ift (!r115)
 (ldS Hs121 ((b1, 0).1, (b1, 0).2 + 2) fun x144 =>
 ift (!(x144 == ([116, 114, 117, 101] : Str)))
 (ldS Hs121 ((b1, 0).1, (b1, 0).2 + 2) fun x147 =>
 J117 ((!(x147 == ([102, 97, 108, 115, 101] : Str))), (decide (((Sl.len x125 : Int) : Int) ≤ 8))) H130)
 (J117 (false, (decide (((Sl.len x125 : Int) : Int) ≤ 8))) H130))
 (J117 (false, (decide (((Sl.len x125 : Int) : Int) ≤ 8))) H130)))
 (J117 (false, (decide (((Sl.len x125 : Int) : Int) ≤ 8))) H130)) H116)
 (J117 (false, (decide (((Sl.len x125 : Int) : Int) ≤ 8))) H116))) H18)
 (J19 (false, true) H18))))))))
 (fun J13 => ift b5
 (ldL H11 ((b1, 0).1, (b1, 0).2 + 3) fun x16 =>
 J13 (((Sl.len x16 : Int) : Int) == 0) H11)
 (J13 false H11)))
 (fun J6 => ift ((x3 : Int) == 0)
 (ldS H2 ((b1, 0).1, (b1, 0).2 + 2) fun x9 =>
 J6 (x9 == ([] : Str)) H2)
 (J6 false H2))) H

theorem ad_value_item_look (C : Ctx) (p_v : T_api_Value) (K : Bool → Bool → Heap → Prop) (H : Heap) (h : sh_value_item_look C p_v K H) : c_value_item_look C p_v K H := by
  refine Spec.enter Tryd.func29 rfl Tryd.ntmps29 rfl ?_
  refine GC.sub [(0, .agg (T_api_Value.c p_v).toArray)] ⟨rfl, trivial⟩ ?_
  refine GC.seq ?_
  refine GC.region ?_
  refine GL.box (v := .agg (T_api_Value.c p_v).toArray) (cs := T_api_Value.c p_v) h trivial rfl rfl rfl ?_
  intro b1 H2 h
  refine GL.val trivial rfl (OV.assign (v := .bool false) rfl) ?_
  refine GL.val trivial rfl (OV.assign (v := .bool false) rfl) ?_
  refine GL.nil ?_
  refine GC.seq ?_
  refine GC.region ?_
  refine GL.val trivial rfl (OV.fieldAddr (p := (b1, 0)) rfl rfl) ?_
  obtain ⟨x3, hr4, h⟩ := h
  refine GL.val trivial rfl (OV.load (p := ((b1, 0).1, (b1, 0).2 + 1)) rfl rfl hr4) ?_
  refine GL.val trivial rfl (OV.ibin (v := .bool ((x3 : Int) == 0)) rfl rfl rfl) ?_
  refine GL.val trivial rfl (OV.move (v := .bool ((x3 : Int) == 0)) rfl) ?_
  obtain ⟨J6, h, hR7⟩ := h
  refine GL.cut (α := Bool) 4 J6 (fun b5 => [(20, .bool b5), (1, pv (some (b1, 0)))]) ?_ ?_
  · rcases Bool.eq_false_or_eq_true ((x3 : Int) == 0) with hc8 | hc8
    · skip
      replace h := And.left h hc8
      refine GL.val ⟨_, _, rfl, rfl, hc8⟩ rfl (OV.fieldAddr (p := (b1, 0)) rfl rfl) ?_
      obtain ⟨x9, hr10, h⟩ := h
      refine GL.val ⟨_, _, rfl, rfl, hc8⟩ rfl (OV.load (p := ((b1, 0).1, (b1, 0).2 + 2)) rfl rfl hr10) ?_
      refine GL.val ⟨_, _, rfl, rfl, hc8⟩ rfl (OV.sbin (a := x9) (b := ([] : Str)) (v := .bool (x9 == ([] : Str))) rfl rfl rfl) ?_
      refine GL.val trivial rfl (OV.pickT (b := (x3 : Int) == 0) (v := .bool (x9 == ([] : Str))) rfl hc8 rfl) ?_
      exact GL.jump (fun _ _ h => h) (x9 == ([] : Str)) h ⟨rfl, rfl, trivial⟩
    · skip
      replace h := And.right h hc8
      refine GL.skip ⟨_, rfl, .inl ⟨_, rfl, hc8⟩⟩ rfl ?_
      refine GL.skip ⟨_, rfl, .inl ⟨_, rfl, hc8⟩⟩ rfl ?_
      refine GL.skip ⟨_, rfl, .inl ⟨_, rfl, hc8⟩⟩ rfl ?_
      refine GL.val trivial rfl (OV.pickF (b := (x3 : Int) == 0) (v := .bool false) rfl hc8 rfl) ?_
      exact GL.jump (fun _ _ h => h) false h ⟨rfl, rfl, trivial⟩
  intro b5 H11 h
  replace h := hR7 b5 H11 h
  refine GL.val trivial rfl (OV.move (v := .bool b5) rfl) ?_
  obtain ⟨J13, h, hR14⟩ := h
  refine GL.cut (α := Bool) 5 J13 (fun b12 => [(26, .bool b12), (1, pv (some (b1, 0)))]) ?_ ?_
  · rcases Bool.eq_false_or_eq_true b5 with hc15 | hc15
    · skip
      replace h := And.left h hc15
      refine GL.val ⟨_, _, rfl, rfl, hc15⟩ rfl (OV.fieldAddr (p := (b1, 0)) rfl rfl) ?_
      obtain ⟨x16, hr17, h⟩ := h
      refine GL.val ⟨_, _, rfl, rfl, hc15⟩ rfl (OV.load (p := ((b1, 0).1, (b1, 0).2 + 3)) rfl rfl hr17) ?_
      refine GL.val ⟨_, _, rfl, rfl, hc15⟩ rfl (OV.lenSl (s := x16) rfl rfl) ?_
      refine GL.val ⟨_, _, rfl, rfl, hc15⟩ rfl (OV.ibin (v := .bool (((Sl.len x16 : Int) : Int) == 0)) rfl rfl rfl) ?_
      refine GL.val trivial rfl (OV.pickT (b := b5) (v := .bool (((Sl.len x16 : Int) : Int) == 0)) rfl hc15 rfl) ?_
      exact GL.jump (fun _ _ h => h) (((Sl.len x16 : Int) : Int) == 0) h ⟨rfl, rfl, trivial⟩
    · skip
      replace h := And.right h hc15
      refine GL.skip ⟨_, rfl, .inl ⟨_, rfl, hc15⟩⟩ rfl ?_
      refine GL.skip ⟨_, rfl, .inl ⟨_, rfl, hc15⟩⟩ rfl ?_
      refine GL.skip ⟨_, rfl, .inl ⟨_, rfl, hc15⟩⟩ rfl ?_
      refine GL.skip ⟨_, rfl, .inl ⟨_, rfl, hc15⟩⟩ rfl ?_
      refine GL.val trivial rfl (OV.pickF (b := b5) (v := .bool false) rfl hc15 rfl) ?_
      exact GL.jump (fun _ _ h => h) false h ⟨rfl, rfl, trivial⟩
  intro b12 H18 h
  replace h := hR14 b12 H18 h
  refine GL.val trivial rfl (OV.assign (v := .bool b12) rfl) ?_
  refine GL.val trivial rfl (OV.assign (v := .bool true) rfl) ?_
  refine GL.nil ?_
  obtain ⟨J19, h, hR22⟩ := h
  refine GC.join (α := Bool × Bool) J19 (fun x20 => [(2, .bool x20.1), (3, .bool x20.2), (1, pv (some (b1, 0)))]) ?_ ?_
  · skip
    refine GC.seq ?_
    refine GC.region ?_
    refine GL.val trivial rfl (OV.fieldAddr (p := (b1, 0)) rfl rfl) ?_
    obtain ⟨x23, hr24, h⟩ := h
    refine GL.val trivial rfl (OV.load (p := ((b1, 0).1, (b1, 0).2 + 0)) rfl rfl hr24) ?_
    refine GL.nil ?_
    refine GC.block ?_
    refine GC.seq ?_
    refine GC.region ?_
    refine GL.val trivial rfl (OV.ibin (v := .bool ((x23 : Int) == 1)) rfl rfl rfl) ?_
    refine GL.val trivial rfl (OV.assign (v := .bool ((x23 : Int) == 1)) rfl) ?_
    refine GL.nil ?_
    refine GC.cond (b := (x23 : Int) == 1) rfl (fun hc25 => ?_) (fun hc25 => ?_)
    · replace h := And.left h hc25
      refine GC.region ?_
      refine GL.val trivial rfl (OV.fieldAddr (p := (b1, 0)) rfl rfl) ?_
      obtain ⟨x26, hr27, h⟩ := h
      refine GL.val trivial rfl (OV.load (p := ((b1, 0).1, (b1, 0).2 + 1)) rfl rfl hr27) ?_
      refine GL.val trivial rfl (OV.ibin (v := .bool ((x26 : Int) == 0)) rfl rfl rfl) ?_
      refine GL.val trivial rfl (OV.move (v := .bool ((x26 : Int) == 0)) rfl) ?_
      obtain ⟨J29, h, hR30⟩ := h
      refine GL.cut (α := Bool) 4 J29 (fun b28 => [(38, .bool b28), (1, pv (some (b1, 0))), (3, .bool true)]) ?_ ?_
      · rcases Bool.eq_false_or_eq_true ((x26 : Int) == 0) with hc31 | hc31
        · skip
          replace h := And.left h hc31
          refine GL.skip ⟨_, rfl, .inl ⟨_, rfl, hc31⟩⟩ rfl ?_
          refine GL.skip ⟨_, rfl, .inl ⟨_, rfl, hc31⟩⟩ rfl ?_
          refine GL.skip ⟨_, rfl, .inl ⟨_, rfl, hc31⟩⟩ rfl ?_
          refine GL.val trivial rfl (OV.pickT (b := (x26 : Int) == 0) (v := .bool true) rfl hc31 rfl) ?_
          exact GL.jump (fun _ _ h => h) true h ⟨rfl, rfl, rfl, trivial⟩
        · skip
          replace h := And.right h hc31
          refine GL.val ⟨_, _, rfl, rfl, hc31⟩ rfl (OV.fieldAddr (p := (b1, 0)) rfl rfl) ?_
          obtain ⟨x32, hr33, h⟩ := h
          refine GL.val ⟨_, _, rfl, rfl, hc31⟩ rfl (OV.load (p := ((b1, 0).1, (b1, 0).2 + 1)) rfl rfl hr33) ?_
          refine GL.val ⟨_, _, rfl, rfl, hc31⟩ rfl (OV.ibin (v := .bool ((x32 : Int) == 1)) rfl rfl rfl) ?_
          refine GL.val trivial rfl (OV.pickF (b := (x26 : Int) == 0) (v := .bool ((x32 : Int) == 1)) rfl hc31 rfl) ?_
          exact GL.jump (fun _ _ h => h) ((x32 : Int) == 1) h ⟨rfl, rfl, rfl, trivial⟩
      intro b28 H34 h
      replace h := hR30 b28 H34 h
      refine GL.val trivial rfl (OV.move (v := .bool b28) rfl) ?_
      obtain ⟨J36, h, hR37⟩ := h
      refine GL.cut (α := Bool) 4 J36 (fun b35 => [(43, .bool b35), (1, pv (some (b1, 0))), (3, .bool true)]) ?_ ?_
      · rcases Bool.eq_false_or_eq_true b28 with hc38 | hc38
        · skip
          replace h := And.left h hc38
          refine GL.val ⟨_, _, rfl, rfl, hc38⟩ rfl (OV.fieldAddr (p := (b1, 0)) rfl rfl) ?_
          obtain ⟨x39, hr40, h⟩ := h
          refine GL.val ⟨_, _, rfl, rfl, hc38⟩ rfl (OV.load (p := ((b1, 0).1, (b1, 0).2 + 2)) rfl rfl hr40) ?_
          refine GL.val ⟨_, _, rfl, rfl, hc38⟩ rfl (OV.sbin (a := x39) (b := ([] : Str)) (v := .bool (x39 == ([] : Str))) rfl rfl rfl) ?_
          refine GL.val trivial rfl (OV.pickT (b := b28) (v := .bool (x39 == ([] : Str))) rfl hc38 rfl) ?_
          exact GL.jump (fun _ _ h => h) (x39 == ([] : Str)) h ⟨rfl, rfl, rfl, trivial⟩
        · skip
          replace h := And.right h hc38
          refine GL.skip ⟨_, rfl, .inl ⟨_, rfl, hc38⟩⟩ rfl ?_
          refine GL.skip ⟨_, rfl, .inl ⟨_, rfl, hc38⟩⟩ rfl ?_
          refine GL.skip ⟨_, rfl, .inl ⟨_, rfl, hc38⟩⟩ rfl ?_
          refine GL.val trivial rfl (OV.pickF (b := b28) (v := .bool false) rfl hc38 rfl) ?_
          exact GL.jump (fun _ _ h => h) false h ⟨rfl, rfl, rfl, trivial⟩
      intro b35 H41 h
      replace h := hR37 b35 H41 h
      refine GL.val trivial rfl (OV.move (v := .bool b35) rfl) ?_
      obtain ⟨J43, h, hR44⟩ := h
      refine GL.cut (α := Bool) 5 J43 (fun b42 => [(49, .bool b42), (1, pv (some (b1, 0))), (3, .bool true)]) ?_ ?_
      · rcases Bool.eq_false_or_eq_true b35 with hc45 | hc45
        · skip
          replace h := And.left h hc45
          refine GL.val ⟨_, _, rfl, rfl, hc45⟩ rfl (OV.fieldAddr (p := (b1, 0)) rfl rfl) ?_
          obtain ⟨x46, hr47, h⟩ := h
          refine GL.val ⟨_, _, rfl, rfl, hc45⟩ rfl (OV.load (p := ((b1, 0).1, (b1, 0).2 + 3)) rfl rfl hr47) ?_
          refine GL.val ⟨_, _, rfl, rfl, hc45⟩ rfl (OV.lenSl (s := x46) rfl rfl) ?_
          refine GL.val ⟨_, _, rfl, rfl, hc45⟩ rfl (OV.ibin (v := .bool (((Sl.len x46 : Int) : Int) == 0)) rfl rfl rfl) ?_
          refine GL.val trivial rfl (OV.pickT (b := b35) (v := .bool (((Sl.len x46 : Int) : Int) == 0)) rfl hc45 rfl) ?_
          exact GL.jump (fun _ _ h => h) (((Sl.len x46 : Int) : Int) == 0) h ⟨rfl, rfl, rfl, trivial⟩
        · skip
          replace h := And.right h hc45
          refine GL.skip ⟨_, rfl, .inl ⟨_, rfl, hc45⟩⟩ rfl ?_
          refine GL.skip ⟨_, rfl, .inl ⟨_, rfl, hc45⟩⟩ rfl ?_
          refine GL.skip ⟨_, rfl, .inl ⟨_, rfl, hc45⟩⟩ rfl ?_
          refine GL.skip ⟨_, rfl, .inl ⟨_, rfl, hc45⟩⟩ rfl ?_
          refine GL.val trivial rfl (OV.pickF (b := b35) (v := .bool false) rfl hc45 rfl) ?_
          exact GL.jump (fun _ _ h => h) false h ⟨rfl, rfl, rfl, trivial⟩
      intro b42 H48 h
      replace h := hR44 b42 H48 h
      refine GL.val trivial rfl (OV.assign (v := .bool b42) rfl) ?_
      exact GL.jump (fun _ _ h => h) (b42, true) h ⟨rfl, rfl, rfl, trivial⟩
    · replace h := And.right h hc25
      refine GC.seq ?_
      refine GC.region ?_
      refine GL.val trivial rfl (OV.ibin (v := .bool ((x23 : Int) == 2)) rfl rfl rfl) ?_
      refine GL.val trivial rfl (OV.assign (v := .bool ((x23 : Int) == 2)) rfl) ?_
      refine GL.nil ?_
      refine GC.cond (b := (x23 : Int) == 2) rfl (fun hc49 => ?_) (fun hc49 => ?_)
      · replace h := And.left h hc49
        refine GC.region ?_
        refine GL.val trivial rfl (OV.fieldAddr (p := (b1, 0)) rfl rfl) ?_
        obtain ⟨x50, hr51, h⟩ := h
        refine GL.val trivial rfl (OV.load (p := ((b1, 0).1, (b1, 0).2 + 2)) rfl rfl hr51) ?_
        refine GL.val trivial rfl (OV.sbin (a := x50) (b := ([] : Str)) (v := .bool (x50 == ([] : Str))) rfl rfl rfl) ?_
        refine GL.val trivial rfl (OV.move (v := .bool (x50 == ([] : Str))) rfl) ?_
        obtain ⟨J53, h, hR54⟩ := h
        refine GL.cut (α := Bool) 5 J53 (fun b52 => [(60, .bool b52), (1, pv (some (b1, 0))), (3, .bool true)]) ?_ ?_
        · rcases Bool.eq_false_or_eq_true (x50 == ([] : Str)) with hc55 | hc55
          · skip
            replace h := And.left h hc55
            refine GL.val ⟨_, _, rfl, rfl, hc55⟩ rfl (OV.fieldAddr (p := (b1, 0)) rfl rfl) ?_
            obtain ⟨x56, hr57, h⟩ := h
            refine GL.val ⟨_, _, rfl, rfl, hc55⟩ rfl (OV.load (p := ((b1, 0).1, (b1, 0).2 + 3)) rfl rfl hr57) ?_
            refine GL.val ⟨_, _, rfl, rfl, hc55⟩ rfl (OV.lenSl (s := x56) rfl rfl) ?_
            refine GL.val ⟨_, _, rfl, rfl, hc55⟩ rfl (OV.ibin (v := .bool (((Sl.len x56 : Int) : Int) == 0)) rfl rfl rfl) ?_
            refine GL.val trivial rfl (OV.pickT (b := x50 == ([] : Str)) (v := .bool (((Sl.len x56 : Int) : Int) == 0)) rfl hc55 rfl) ?_
            exact GL.jump (fun _ _ h => h) (((Sl.len x56 : Int) : Int) == 0) h ⟨rfl, rfl, rfl, trivial⟩
          · skip
            replace h := And.right h hc55
            refine GL.skip ⟨_, rfl, .inl ⟨_, rfl, hc55⟩⟩ rfl ?_
            refine GL.skip ⟨_, rfl, .inl ⟨_, rfl, hc55⟩⟩ rfl ?_
            refine GL.skip ⟨_, rfl, .inl ⟨_, rfl, hc55⟩⟩ rfl ?_
            refine GL.skip ⟨_, rfl, .inl ⟨_, rfl, hc55⟩⟩ rfl ?_
            refine GL.val trivial rfl (OV.pickF (b := x50 == ([] : Str)) (v := .bool false) rfl hc55 rfl) ?_
            exact GL.jump (fun _ _ h => h) false h ⟨rfl, rfl, rfl, trivial⟩
        intro b52 H58 h
        replace h := hR54 b52 H58 h
        refine GL.val trivial rfl (OV.assign (v := .bool b52) rfl) ?_
        exact GL.jump (fun _ _ h => h) (b52, true) h ⟨rfl, rfl, rfl, trivial⟩
      · replace h := And.right h hc49
        refine GC.seq ?_
        refine GC.region ?_
        refine GL.val trivial rfl (OV.ibin (v := .bool ((x23 : Int) == 3)) rfl rfl rfl) ?_
        refine GL.val trivial rfl (OV.assign (v := .bool ((x23 : Int) == 3)) rfl) ?_
        refine GL.nil ?_
        refine GC.cond (b := (x23 : Int) == 3) rfl (fun hc59 => ?_) (fun hc59 => ?_)
        · replace h := And.left h hc59
          refine GC.seq ?_
          refine GC.region ?_
          refine GL.val trivial rfl (OV.fieldAddr (p := (b1, 0)) rfl rfl) ?_
          obtain ⟨x60, hr61, h⟩ := h
          refine GL.val trivial rfl (OV.load (p := ((b1, 0).1, (b1, 0).2 + 2)) rfl rfl hr61) ?_
          refine GL.call h trivial rfl ok_value_number (vs := [sv x60]) rfl ?_
          rintro _ H64 ⟨r62, r63, rfl, h⟩
          refine GL.val trivial rfl (OV.move (v := .tuple #[.int .i64 r62, .bool r63]) rfl) ?_
          refine GL.val trivial rfl (OV.extract (v := .int .i64 r62) rfl rfl) ?_
          refine GL.val trivial rfl (OV.extract (v := .bool r63) rfl rfl) ?_
          refine GL.val trivial rfl (OV.assign (v := .int .i64 r62) rfl) ?_
          refine GL.val trivial rfl (OV.assign (v := .bool r63) rfl) ?_
          refine GL.nil ?_
          refine GC.region ?_
          refine GL.val trivial rfl (OV.move (v := .bool r63) rfl) ?_
          refine GL.val trivial rfl (OV.move (v := .bool r63) rfl) ?_
          obtain ⟨J66, h, hR67⟩ := h
          refine GL.cut (α := Bool) 4 J66 (fun b65 => [(74, .bool b65), (1, pv (some (b1, 0))), (4, .int .i64 r62)]) ?_ ?_
          · rcases Bool.eq_false_or_eq_true r63 with hc68 | hc68
            · skip
              replace h := And.left h hc68
              refine GL.val ⟨_, _, rfl, rfl, hc68⟩ rfl (OV.fieldAddr (p := (b1, 0)) rfl rfl) ?_
              obtain ⟨x69, hr70, h⟩ := h
              refine GL.val ⟨_, _, rfl, rfl, hc68⟩ rfl (OV.load (p := ((b1, 0).1, (b1, 0).2 + 1)) rfl rfl hr70) ?_
              refine GL.val ⟨_, _, rfl, rfl, hc68⟩ rfl (OV.ibin (v := .bool ((x69 : Int) == 0)) rfl rfl rfl) ?_
              refine GL.val trivial rfl (OV.pickT (b := r63) (v := .bool ((x69 : Int) == 0)) rfl hc68 rfl) ?_
              exact GL.jump (fun _ _ h => h) ((x69 : Int) == 0) h ⟨rfl, rfl, rfl, trivial⟩
            · skip
              replace h := And.right h hc68
              refine GL.skip ⟨_, rfl, .inl ⟨_, rfl, hc68⟩⟩ rfl ?_
              refine GL.skip ⟨_, rfl, .inl ⟨_, rfl, hc68⟩⟩ rfl ?_
              refine GL.skip ⟨_, rfl, .inl ⟨_, rfl, hc68⟩⟩ rfl ?_
              refine GL.val trivial rfl (OV.pickF (b := r63) (v := .bool false) rfl hc68 rfl) ?_
              exact GL.jump (fun _ _ h => h) false h ⟨rfl, rfl, rfl, trivial⟩
          intro b65 H71 h
          replace h := hR67 b65 H71 h
          refine GL.val trivial rfl (OV.move (v := .bool b65) rfl) ?_
          obtain ⟨J73, h, hR74⟩ := h
          refine GL.cut (α := Bool) 5 J73 (fun b72 => [(80, .bool b72), (1, pv (some (b1, 0))), (4, .int .i64 r62)]) ?_ ?_
          · rcases Bool.eq_false_or_eq_true b65 with hc75 | hc75
            · skip
              replace h := And.left h hc75
              refine GL.val ⟨_, _, rfl, rfl, hc75⟩ rfl (OV.fieldAddr (p := (b1, 0)) rfl rfl) ?_
              obtain ⟨x76, hr77, h⟩ := h
              refine GL.val ⟨_, _, rfl, rfl, hc75⟩ rfl (OV.load (p := ((b1, 0).1, (b1, 0).2 + 3)) rfl rfl hr77) ?_
              refine GL.val ⟨_, _, rfl, rfl, hc75⟩ rfl (OV.lenSl (s := x76) rfl rfl) ?_
              refine GL.val ⟨_, _, rfl, rfl, hc75⟩ rfl (OV.ibin (v := .bool (((Sl.len x76 : Int) : Int) == 0)) rfl rfl rfl) ?_
              refine GL.val trivial rfl (OV.pickT (b := b65) (v := .bool (((Sl.len x76 : Int) : Int) == 0)) rfl hc75 rfl) ?_
              exact GL.jump (fun _ _ h => h) (((Sl.len x76 : Int) : Int) == 0) h ⟨rfl, rfl, rfl, trivial⟩
            · skip
              replace h := And.right h hc75
              refine GL.skip ⟨_, rfl, .inl ⟨_, rfl, hc75⟩⟩ rfl ?_
              refine GL.skip ⟨_, rfl, .inl ⟨_, rfl, hc75⟩⟩ rfl ?_
              refine GL.skip ⟨_, rfl, .inl ⟨_, rfl, hc75⟩⟩ rfl ?_
              refine GL.skip ⟨_, rfl, .inl ⟨_, rfl, hc75⟩⟩ rfl ?_
              refine GL.val trivial rfl (OV.pickF (b := b65) (v := .bool false) rfl hc75 rfl) ?_
              exact GL.jump (fun _ _ h => h) false h ⟨rfl, rfl, rfl, trivial⟩
          intro b72 H78 h
          replace h := hR74 b72 H78 h
          refine GL.val trivial rfl (OV.move (v := .int .i64 r62) rfl) ?_
          refine GL.val trivial rfl (OV.ibin (v := .bool (decide ((r62 : Int) ≤ 200))) rfl rfl rfl) ?_
          refine GL.val trivial rfl (OV.assign (v := .bool b72) rfl) ?_
          refine GL.val trivial rfl (OV.assign (v := .bool (decide ((r62 : Int) ≤ 200))) rfl) ?_
          exact GL.jump (fun _ _ h => h) (b72, (decide ((r62 : Int) ≤ 200))) h ⟨rfl, rfl, rfl, trivial⟩
        · replace h := And.right h hc59
          refine GC.seq ?_
          refine GC.region ?_
          refine GL.val trivial rfl (OV.ibin (v := .bool ((x23 : Int) == 4)) rfl rfl rfl) ?_
          refine GL.val trivial rfl (OV.assign (v := .bool ((x23 : Int) == 4)) rfl) ?_
          refine GL.nil ?_
          refine GC.cond (b := (x23 : Int) == 4) rfl (fun hc79 => ?_) (fun hc79 => ?_)
          · replace h := And.left h hc79
            obtain ⟨J80, h, hR83⟩ := h
            refine GC.meet (α := Bool × Bool) J80 (fun x81 => [(2, .bool x81.1), (3, .bool x81.2), (1, pv (some (b1, 0)))]) ?_ ?_
            · skip
              obtain ⟨Hs84, hle85, h⟩ := h
              refine GC.any (Hs := Hs84) (by kernel_rfl) hle85 ?_
              refine GA.take 0 rfl (by kernel_rfl) (by kernel_rfl) (by kernel_rfl) (fun _ _ _ h => False.elim h) trivial rfl (OV.fieldAddr (p := (b1, 0)) rfl rfl) ?_
              obtain ⟨x86, hr87, h⟩ := h
              refine GA.take 1 rfl (by kernel_rfl) (by kernel_rfl) (by kernel_rfl) (fun _ _ _ h => False.elim h) trivial rfl (OV.load (p := ((b1, 0).1, (b1, 0).2 + 1)) rfl rfl hr87) ?_
              refine GA.take 2 rfl (by kernel_rfl) (by kernel_rfl) (by kernel_rfl) (fun _ _ _ h => False.elim h) trivial rfl (OV.ibin (v := .bool ((x86 : Int) == 0)) rfl rfl rfl) ?_
              refine GA.take 3 rfl (by kernel_rfl) (by kernel_rfl) (by kernel_rfl) (fun _ _ _ h => False.elim h) trivial rfl (OV.move (v := .bool ((x86 : Int) == 0)) rfl) ?_
              refine GA.take 9 rfl (by kernel_rfl) (by kernel_rfl) (by kernel_rfl) (fun _ _ _ h => False.elim h) trivial rfl (OV.fieldAddr (p := (b1, 0)) rfl rfl) ?_
              obtain ⟨x88, hr89, h⟩ := h
              refine GA.take 10 rfl (by kernel_rfl) (by kernel_rfl) (by kernel_rfl) (fun _ _ _ h => False.elim h) trivial rfl (OV.load (p := ((b1, 0).1, (b1, 0).2 + 2)) rfl rfl hr89) ?_
              refine GA.take 11 rfl (by kernel_rfl) (by kernel_rfl) (by kernel_rfl) (fun _ _ _ h => False.elim h) trivial rfl (OV.lenStr (s := x88) rfl rfl) ?_
              refine GA.take 12 rfl (by kernel_rfl) (by kernel_rfl) (by kernel_rfl) (fun _ _ _ h => False.elim h) trivial rfl (OV.ibin (v := .bool (decide (((List.length x88 : Int) : Int) ≤ 4096))) rfl rfl rfl) ?_
              rcases Bool.eq_false_or_eq_true ((x86 : Int) == 0) with hc90 | hc90
              · replace h := And.left h hc90
                refine GA.take 4 rfl (by kernel_rfl) (by kernel_rfl) (by kernel_rfl) (fun _ _ _ h => False.elim h) ⟨_, _, rfl, rfl, hc90⟩ rfl (OV.fieldAddr (p := (b1, 0)) rfl rfl) ?_
                obtain ⟨x91, hr92, h⟩ := h
                refine GA.take 5 rfl (by kernel_rfl) (by kernel_rfl) (by kernel_rfl) (fun _ _ _ h => False.elim h) ⟨_, _, rfl, rfl, hc90⟩ rfl (OV.load (p := ((b1, 0).1, (b1, 0).2 + 3)) rfl rfl hr92) ?_
                refine GA.take 6 rfl (by kernel_rfl) (by kernel_rfl) (by kernel_rfl) (fun _ _ _ h => False.elim h) ⟨_, _, rfl, rfl, hc90⟩ rfl (OV.lenSl (s := x91) rfl rfl) ?_
                refine GA.take 7 rfl (by kernel_rfl) (by kernel_rfl) (by kernel_rfl) (fun _ _ _ h => False.elim h) ⟨_, _, rfl, rfl, hc90⟩ rfl (OV.ibin (v := .bool (((Sl.len x91 : Int) : Int) == 0)) rfl rfl rfl) ?_
                refine GA.take 8 rfl (by kernel_rfl) (by kernel_rfl) (by kernel_rfl) (fun _ _ _ h => False.elim h) trivial rfl (OV.pickT (b := (x86 : Int) == 0) (v := .bool (((Sl.len x91 : Int) : Int) == 0)) rfl hc90 rfl) ?_
                refine GA.take 13 rfl (by kernel_rfl) (by kernel_rfl) (by kernel_rfl) (fun _ _ _ h => False.elim h) trivial rfl (OV.assign (v := .bool (((Sl.len x91 : Int) : Int) == 0)) rfl) ?_
                refine GA.take 14 rfl (by kernel_rfl) (by kernel_rfl) (by kernel_rfl) (fun _ _ _ h => False.elim h) trivial rfl (OV.assign (v := .bool (decide (((List.length x88 : Int) : Int) ≤ 4096))) rfl) ?_
                refine GA.done (by kernel_rfl) ?_
                exact GL.jump (fun _ _ h => h) ((((Sl.len x91 : Int) : Int) == 0), (decide (((List.length x88 : Int) : Int) ≤ 4096))) h ⟨rfl, rfl, rfl, trivial⟩
              · replace h := And.right h hc90
                refine GA.skip 4 rfl (by kernel_rfl) (by kernel_rfl) (by kernel_rfl) (fun _ _ _ h => False.elim h) ⟨_, rfl, .inl ⟨_, rfl, hc90⟩⟩ rfl ?_
                refine GA.skip 5 rfl (by kernel_rfl) (by kernel_rfl) (by kernel_rfl) (fun _ _ _ h => False.elim h) ⟨_, rfl, .inl ⟨_, rfl, hc90⟩⟩ rfl ?_
                refine GA.skip 6 rfl (by kernel_rfl) (by kernel_rfl) (by kernel_rfl) (fun _ _ _ h => False.elim h) ⟨_, rfl, .inl ⟨_, rfl, hc90⟩⟩ rfl ?_
                refine GA.skip 7 rfl (by kernel_rfl) (by kernel_rfl) (by kernel_rfl) (fun _ _ _ h => False.elim h) ⟨_, rfl, .inl ⟨_, rfl, hc90⟩⟩ rfl ?_
                refine GA.take 8 rfl (by kernel_rfl) (by kernel_rfl) (by kernel_rfl) (fun _ _ _ h => False.elim h) trivial rfl (OV.pickF (b := (x86 : Int) == 0) (v := .bool false) rfl hc90 rfl) ?_
                refine GA.take 13 rfl (by kernel_rfl) (by kernel_rfl) (by kernel_rfl) (fun _ _ _ h => False.elim h) trivial rfl (OV.assign (v := .bool false) rfl) ?_
                refine GA.take 14 rfl (by kernel_rfl) (by kernel_rfl) (by kernel_rfl) (fun _ _ _ h => False.elim h) trivial rfl (OV.assign (v := .bool (decide (((List.length x88 : Int) : Int) ≤ 4096))) rfl) ?_
                refine GA.done (by kernel_rfl) ?_
                exact GL.jump (fun _ _ h => h) (false, (decide (((List.length x88 : Int) : Int) ≤ 4096))) h ⟨rfl, rfl, rfl, trivial⟩
            · intro x81 H82 h
              replace h := hR83 x81 H82 h
              exact GL.jump (fun _ _ h => h) (x81.1, x81.2) h ⟨rfl, rfl, rfl, trivial⟩
          · replace h := And.right h hc79
            refine GC.seq ?_
            refine GC.region ?_
            refine GL.val trivial rfl (OV.ibin (v := .bool ((x23 : Int) == 5)) rfl rfl rfl) ?_
            refine GL.val trivial rfl (OV.assign (v := .bool ((x23 : Int) == 5)) rfl) ?_
            refine GL.nil ?_
            refine GC.cond (b := (x23 : Int) == 5) rfl (fun hc93 => ?_) (fun hc93 => ?_)
            · replace h := And.left h hc93
              obtain ⟨J94, h, hR97⟩ := h
              refine GC.meet (α := Bool × Bool) J94 (fun x95 => [(2, .bool x95.1), (3, .bool x95.2), (1, pv (some (b1, 0)))]) ?_ ?_
              · skip
                obtain ⟨Hs98, hle99, h⟩ := h
                refine GC.any (Hs := Hs98) (by kernel_rfl) hle99 ?_
                refine GA.take 0 rfl (by kernel_rfl) (by kernel_rfl) (by kernel_rfl) (fun _ _ _ h => False.elim h) trivial rfl (OV.fieldAddr (p := (b1, 0)) rfl rfl) ?_
                obtain ⟨x100, hr101, h⟩ := h
                refine GA.take 1 rfl (by kernel_rfl) (by kernel_rfl) (by kernel_rfl) (fun _ _ _ h => False.elim h) trivial rfl (OV.load (p := ((b1, 0).1, (b1, 0).2 + 1)) rfl rfl hr101) ?_
                refine GA.take 2 rfl (by kernel_rfl) (by kernel_rfl) (by kernel_rfl) (fun _ _ _ h => False.elim h) trivial rfl (OV.ibin (v := .bool ((x100 : Int) == 0)) rfl rfl rfl) ?_
                refine GA.take 3 rfl (by kernel_rfl) (by kernel_rfl) (by kernel_rfl) (fun _ _ _ h => False.elim h) trivial rfl (OV.move (v := .bool ((x100 : Int) == 0)) rfl) ?_
                refine GA.take 14 rfl (by kernel_rfl) (by kernel_rfl) (by kernel_rfl) (fun _ _ _ h => False.elim h) trivial rfl (OV.fieldAddr (p := (b1, 0)) rfl rfl) ?_
                obtain ⟨x102, hr103, h⟩ := h
                refine GA.take 15 rfl (by kernel_rfl) (by kernel_rfl) (by kernel_rfl) (fun _ _ _ h => False.elim h) trivial rfl (OV.load (p := ((b1, 0).1, (b1, 0).2 + 3)) rfl rfl hr103) ?_
                refine GA.take 16 rfl (by kernel_rfl) (by kernel_rfl) (by kernel_rfl) (fun _ _ _ h => False.elim h) trivial rfl (OV.lenSl (s := x102) rfl rfl) ?_
                refine GA.take 17 rfl (by kernel_rfl) (by kernel_rfl) (by kernel_rfl) (fun _ _ _ h => False.elim h) trivial rfl (OV.ibin (v := .bool (decide (((Sl.len x102 : Int) : Int) ≤ 16))) rfl rfl rfl) ?_
                rcases Bool.eq_false_or_eq_true ((x100 : Int) == 0) with hc104 | hc104
                · replace h := And.left h hc104
                  refine GA.take 4 rfl (by kernel_rfl) (by kernel_rfl) (by kernel_rfl) (fun _ _ _ h => False.elim h) ⟨_, _, rfl, rfl, hc104⟩ rfl (OV.fieldAddr (p := (b1, 0)) rfl rfl) ?_
                  obtain ⟨x105, hr106, h⟩ := h
                  refine GA.take 5 rfl (by kernel_rfl) (by kernel_rfl) (by kernel_rfl) (fun _ _ _ h => False.elim h) ⟨_, _, rfl, rfl, hc104⟩ rfl (OV.load (p := ((b1, 0).1, (b1, 0).2 + 2)) rfl rfl hr106) ?_
                  refine GA.take 6 rfl (by kernel_rfl) (by kernel_rfl) (by kernel_rfl) (fun _ _ _ h => False.elim h) ⟨_, _, rfl, rfl, hc104⟩ rfl (OV.sbin (a := x105) (b := ([] : Str)) (v := .bool (x105 == ([] : Str))) rfl rfl rfl) ?_
                  refine GA.take 7 rfl (by kernel_rfl) (by kernel_rfl) (by kernel_rfl) (fun _ _ _ h => False.elim h) trivial rfl (OV.pickT (b := (x100 : Int) == 0) (v := .bool (x105 == ([] : Str))) rfl hc104 rfl) ?_
                  refine GA.take 8 rfl (by kernel_rfl) (by kernel_rfl) (by kernel_rfl) (fun _ _ _ h => False.elim h) trivial rfl (OV.move (v := .bool (x105 == ([] : Str))) rfl) ?_
                  rcases Bool.eq_false_or_eq_true (x105 == ([] : Str)) with hc107 | hc107
                  · replace h := And.left h hc107
                    refine GA.take 9 rfl (by kernel_rfl) (by kernel_rfl) (by kernel_rfl) (fun _ _ _ h => False.elim h) ⟨_, _, rfl, rfl, hc107⟩ rfl (OV.fieldAddr (p := (b1, 0)) rfl rfl) ?_
                    obtain ⟨x108, hr109, h⟩ := h
                    refine GA.take 10 rfl (by kernel_rfl) (by kernel_rfl) (by kernel_rfl) (fun _ _ _ h => False.elim h) ⟨_, _, rfl, rfl, hc107⟩ rfl (OV.load (p := ((b1, 0).1, (b1, 0).2 + 3)) rfl rfl hr109) ?_
                    refine GA.take 11 rfl (by kernel_rfl) (by kernel_rfl) (by kernel_rfl) (fun _ _ _ h => False.elim h) ⟨_, _, rfl, rfl, hc107⟩ rfl (OV.lenSl (s := x108) rfl rfl) ?_
                    refine GA.take 12 rfl (by kernel_rfl) (by kernel_rfl) (by kernel_rfl) (fun _ _ _ h => False.elim h) ⟨_, _, rfl, rfl, hc107⟩ rfl (OV.ibin (v := .bool (((Sl.len x108 : Int) : Int) != 1)) rfl rfl rfl) ?_
                    refine GA.take 13 rfl (by kernel_rfl) (by kernel_rfl) (by kernel_rfl) (fun _ _ _ h => False.elim h) trivial rfl (OV.pickT (b := x105 == ([] : Str)) (v := .bool (((Sl.len x108 : Int) : Int) != 1)) rfl hc107 rfl) ?_
                    refine GA.take 18 rfl (by kernel_rfl) (by kernel_rfl) (by kernel_rfl) (fun _ _ _ h => False.elim h) trivial rfl (OV.assign (v := .bool (((Sl.len x108 : Int) : Int) != 1)) rfl) ?_
                    refine GA.take 19 rfl (by kernel_rfl) (by kernel_rfl) (by kernel_rfl) (fun _ _ _ h => False.elim h) trivial rfl (OV.assign (v := .bool (decide (((Sl.len x102 : Int) : Int) ≤ 16))) rfl) ?_
                    refine GA.done (by kernel_rfl) ?_
                    exact GL.jump (fun _ _ h => h) ((((Sl.len x108 : Int) : Int) != 1), (decide (((Sl.len x102 : Int) : Int) ≤ 16))) h ⟨rfl, rfl, rfl, trivial⟩
                  · replace h := And.right h hc107
                    refine GA.skip 9 rfl (by kernel_rfl) (by kernel_rfl) (by kernel_rfl) (fun _ _ _ h => False.elim h) ⟨_, rfl, .inl ⟨_, rfl, hc107⟩⟩ rfl ?_
                    refine GA.skip 10 rfl (by kernel_rfl) (by kernel_rfl) (by kernel_rfl) (fun _ _ _ h => False.elim h) ⟨_, rfl, .inl ⟨_, rfl, hc107⟩⟩ rfl ?_
                    refine GA.skip 11 rfl (by kernel_rfl) (by kernel_rfl) (by kernel_rfl) (fun _ _ _ h => False.elim h) ⟨_, rfl, .inl ⟨_, rfl, hc107⟩⟩ rfl ?_
                    refine GA.skip 12 rfl (by kernel_rfl) (by kernel_rfl) (by kernel_rfl) (fun _ _ _ h => False.elim h) ⟨_, rfl, .inl ⟨_, rfl, hc107⟩⟩ rfl ?_
                    refine GA.take 13 rfl (by kernel_rfl) (by kernel_rfl) (by kernel_rfl) (fun _ _ _ h => False.elim h) trivial rfl (OV.pickF (b := x105 == ([] : Str)) (v := .bool false) rfl hc107 rfl) ?_
                    refine GA.take 18 rfl (by kernel_rfl) (by kernel_rfl) (by kernel_rfl) (fun _ _ _ h => False.elim h) trivial rfl (OV.assign (v := .bool false) rfl) ?_
                    refine GA.take 19 rfl (by kernel_rfl) (by kernel_rfl) (by kernel_rfl) (fun _ _ _ h => False.elim h) trivial rfl (OV.assign (v := .bool (decide (((Sl.len x102 : Int) : Int) ≤ 16))) rfl) ?_
                    refine GA.done (by kernel_rfl) ?_
                    exact GL.jump (fun _ _ h => h) (false, (decide (((Sl.len x102 : Int) : Int) ≤ 16))) h ⟨rfl, rfl, rfl, trivial⟩
                · replace h := And.right h hc104
                  refine GA.skip 4 rfl (by kernel_rfl) (by kernel_rfl) (by kernel_rfl) (fun _ _ _ h => False.elim h) ⟨_, rfl, .inl ⟨_, rfl, hc104⟩⟩ rfl ?_
                  refine GA.skip 5 rfl (by kernel_rfl) (by kernel_rfl) (by kernel_rfl) (fun _ _ _ h => False.elim h) ⟨_, rfl, .inl ⟨_, rfl, hc104⟩⟩ rfl ?_
                  refine GA.skip 6 rfl (by kernel_rfl) (by kernel_rfl) (by kernel_rfl) (fun _ _ _ h => False.elim h) ⟨_, rfl, .inl ⟨_, rfl, hc104⟩⟩ rfl ?_
                  refine GA.take 7 rfl (by kernel_rfl) (by kernel_rfl) (by kernel_rfl) (fun _ _ _ h => False.elim h) trivial rfl (OV.pickF (b := (x100 : Int) == 0) (v := .bool false) rfl hc104 rfl) ?_
                  refine GA.take 8 rfl (by kernel_rfl) (by kernel_rfl) (by kernel_rfl) (fun _ _ _ h => False.elim h) trivial rfl (OV.move (v := .bool false) rfl) ?_
                  refine GA.skip 9 rfl (by kernel_rfl) (by kernel_rfl) (by kernel_rfl) (fun _ _ _ h => False.elim h) ⟨_, rfl, .inl ⟨_, rfl, rfl⟩⟩ rfl ?_
                  refine GA.skip 10 rfl (by kernel_rfl) (by kernel_rfl) (by kernel_rfl) (fun _ _ _ h => False.elim h) ⟨_, rfl, .inl ⟨_, rfl, rfl⟩⟩ rfl ?_
                  refine GA.skip 11 rfl (by kernel_rfl) (by kernel_rfl) (by kernel_rfl) (fun _ _ _ h => False.elim h) ⟨_, rfl, .inl ⟨_, rfl, rfl⟩⟩ rfl ?_
                  refine GA.skip 12 rfl (by kernel_rfl) (by kernel_rfl) (by kernel_rfl) (fun _ _ _ h => False.elim h) ⟨_, rfl, .inl ⟨_, rfl, rfl⟩⟩ rfl ?_
                  refine GA.take 13 rfl (by kernel_rfl) (by kernel_rfl) (by kernel_rfl) (fun _ _ _ h => False.elim h) trivial rfl (OV.pickF (b := false) (v := .bool false) rfl rfl rfl) ?_
                  refine GA.take 18 rfl (by kernel_rfl) (by kernel_rfl) (by kernel_rfl) (fun _ _ _ h => False.elim h) trivial rfl (OV.assign (v := .bool false) rfl) ?_
                  refine GA.take 19 rfl (by kernel_rfl) (by kernel_rfl) (by kernel_rfl) (fun _ _ _ h => False.elim h) trivial rfl (OV.assign (v := .bool (decide (((Sl.len x102 : Int) : Int) ≤ 16))) rfl) ?_
                  refine GA.done (by kernel_rfl) ?_
                  exact GL.jump (fun _ _ h => h) (false, (decide (((Sl.len x102 : Int) : Int) ≤ 16))) h ⟨rfl, rfl, rfl, trivial⟩
              · intro x95 H96 h
                replace h := hR97 x95 H96 h
                exact GL.jump (fun _ _ h => h) (x95.1, x95.2) h ⟨rfl, rfl, rfl, trivial⟩
            · replace h := And.right h hc93
              refine GC.seq ?_
              refine GC.region ?_
              refine GL.val trivial rfl (OV.ibin (v := .bool ((x23 : Int) == 6)) rfl rfl rfl) ?_
              refine GL.val trivial rfl (OV.assign (v := .bool ((x23 : Int) == 6)) rfl) ?_
              refine GL.nil ?_
              refine GC.cond (b := (x23 : Int) == 6) rfl (fun hc110 => ?_) (fun hc110 => ?_)
              · replace h := And.left h hc110
                refine GC.seq ?_
                refine GC.region ?_
                refine GL.val trivial rfl (OV.fieldAddr (p := (b1, 0)) rfl rfl) ?_
                obtain ⟨x111, hr112, h⟩ := h
                refine GL.val trivial rfl (OV.load (p := ((b1, 0).1, (b1, 0).2 + 2)) rfl rfl hr112) ?_
                refine GL.call h trivial rfl ok_strings_Cut (vs := [sv x111, sv [46]]) rfl ?_
                rintro _ H116 ⟨r113, r114, r115, rfl, h⟩
                refine GL.val trivial rfl (OV.move (v := .tuple #[sv r113, sv r114, .bool r115]) rfl) ?_
                refine GL.val trivial rfl (OV.extract (v := sv r113) rfl rfl) ?_
                refine GL.val trivial rfl (OV.extract (v := sv r114) rfl rfl) ?_
                refine GL.val trivial rfl (OV.extract (v := .bool r115) rfl rfl) ?_
                refine GL.val trivial rfl (OV.assign (v := sv r113) rfl) ?_
                refine GL.val trivial rfl (OV.assign (v := sv r114) rfl) ?_
                refine GL.val trivial rfl (OV.assign (v := .bool r115) rfl) ?_
                refine GL.nil ?_
                obtain ⟨J117, h, hR120⟩ := h
                refine GC.meet (α := Bool × Bool) J117 (fun x118 => [(2, .bool x118.1), (3, .bool x118.2), (1, pv (some (b1, 0)))]) ?_ ?_
                · skip
                  obtain ⟨Hs121, hle122, h⟩ := h
                  refine GC.any (Hs := Hs121) (by kernel_rfl) hle122 ?_
                  refine GA.take 0 rfl (by kernel_rfl) (by kernel_rfl) (by kernel_rfl) (fun _ _ _ h => False.elim h) trivial rfl (OV.fieldAddr (p := (b1, 0)) rfl rfl) ?_
                  obtain ⟨x123, hr124, h⟩ := h
                  refine GA.take 1 rfl (by kernel_rfl) (by kernel_rfl) (by kernel_rfl) (fun _ _ _ h => False.elim h) trivial rfl (OV.load (p := ((b1, 0).1, (b1, 0).2 + 1)) rfl rfl hr124) ?_
                  refine GA.take 2 rfl (by kernel_rfl) (by kernel_rfl) (by kernel_rfl) (fun _ _ _ h => False.elim h) trivial rfl (OV.ibin (v := .bool ((x123 : Int) == 0)) rfl rfl rfl) ?_
                  refine GA.take 3 rfl (by kernel_rfl) (by kernel_rfl) (by kernel_rfl) (fun _ _ _ h => False.elim h) trivial rfl (OV.move (v := .bool ((x123 : Int) == 0)) rfl) ?_
                  refine GA.take 28 rfl (by kernel_rfl) (by kernel_rfl) (by kernel_rfl) (fun _ _ _ h => False.elim h) trivial rfl (OV.fieldAddr (p := (b1, 0)) rfl rfl) ?_
                  obtain ⟨x125, hr126, h⟩ := h
                  refine GA.take 29 rfl (by kernel_rfl) (by kernel_rfl) (by kernel_rfl) (fun _ _ _ h => False.elim h) trivial rfl (OV.load (p := ((b1, 0).1, (b1, 0).2 + 3)) rfl rfl hr126) ?_
                  refine GA.take 30 rfl (by kernel_rfl) (by kernel_rfl) (by kernel_rfl) (fun _ _ _ h => False.elim h) trivial rfl (OV.lenSl (s := x125) rfl rfl) ?_
                  refine GA.take 31 rfl (by kernel_rfl) (by kernel_rfl) (by kernel_rfl) (fun _ _ _ h => False.elim h) trivial rfl (OV.ibin (v := .bool (decide (((Sl.len x125 : Int) : Int) ≤ 8))) rfl rfl rfl) ?_
                  rcases Bool.eq_false_or_eq_true ((x123 : Int) == 0) with hc127 | hc127
                  · replace h := And.left h hc127
                    refine GA.take 4 rfl (by kernel_rfl) (by kernel_rfl) (by kernel_rfl) (fun _ _ _ h => False.elim h) ⟨_, _, rfl, rfl, hc127⟩ rfl (OV.move (v := sv r113) rfl) ?_
                    refine GA.eff 5 rfl (by kernel_rfl) ?_
                    refine GL.call h ⟨_, _, rfl, rfl, hc127⟩ rfl ok_value_name (vs := [sv r113]) rfl ?_
                    rintro _ H130 ⟨r129, rfl, h⟩
                    obtain ⟨hle128, h⟩ := h
                    refine GA.back hle128 ?_
                    refine GA.take 6 rfl (by kernel_rfl) (by kernel_rfl) (by kernel_rfl) (fun _ _ _ h => False.elim h) trivial rfl (OV.pickT (b := (x123 : Int) == 0) (v := .bool r129) rfl hc127 rfl) ?_
                    refine GA.take 7 rfl (by kernel_rfl) (by kernel_rfl) (by kernel_rfl) (fun _ _ _ h => False.elim h) trivial rfl (OV.move (v := .bool r129) rfl) ?_
                    rcases Bool.eq_false_or_eq_true r129 with hc131 | hc131
                    · replace h := And.left h hc131
                      refine GA.take 8 rfl (by kernel_rfl) (by kernel_rfl) (by kernel_rfl) (fun _ _ _ h => False.elim h) ⟨_, _, rfl, rfl, hc131⟩ rfl (OV.move (v := .bool r115) rfl) ?_
                      refine GA.take 9 rfl (by kernel_rfl) (by kernel_rfl) (by kernel_rfl) (fun _ _ _ h => False.elim h) ⟨_, _, rfl, rfl, hc131⟩ rfl (OV.move (v := .bool r115) rfl) ?_
                      rcases Bool.eq_false_or_eq_true r115 with hc132 | hc132
                      · replace h := And.left h hc132
                        refine GA.take 10 rfl (by kernel_rfl) (by kernel_rfl) (by kernel_rfl) (fun _ _ _ h => False.elim h) ⟨_, _, rfl, rfl, hc132⟩ rfl (OV.move (v := sv r114) rfl) ?_
                        refine GA.eff 11 rfl (by kernel_rfl) ?_
                        refine GL.call h ⟨_, _, rfl, rfl, hc132⟩ rfl ok_value_name (vs := [sv r114]) rfl ?_
                        rintro _ H135 ⟨r134, rfl, h⟩
                        obtain ⟨hle133, h⟩ := h
                        refine GA.back hle133 ?_
                        refine GA.take 12 rfl (by kernel_rfl) (by kernel_rfl) (by kernel_rfl) (fun _ _ _ h => False.elim h) ⟨_, _, rfl, rfl, hc131⟩ rfl (OV.pickT (b := r115) (v := .bool r134) rfl hc132 rfl) ?_
                        refine GA.take 13 rfl (by kernel_rfl) (by kernel_rfl) (by kernel_rfl) (fun _ _ _ h => False.elim h) ⟨_, _, rfl, rfl, hc131⟩ rfl (OV.move (v := .bool r134) rfl) ?_
                        rcases Bool.eq_false_or_eq_true r134 with hc136 | hc136
                        · replace h := And.left h hc136
                          refine GA.skip 14 rfl (by kernel_rfl) (by kernel_rfl) (by kernel_rfl) (fun _ _ _ h => False.elim h) ⟨_, rfl, .inl ⟨_, rfl, hc136⟩⟩ rfl ?_
                          refine GA.skip 15 rfl (by kernel_rfl) (by kernel_rfl) (by kernel_rfl) (fun _ _ _ h => False.elim h) ⟨_, rfl, .inl ⟨_, rfl, hc136⟩⟩ rfl ?_
                          refine GA.skip 16 rfl (by kernel_rfl) (by kernel_rfl) (by kernel_rfl) (fun _ _ _ h => False.elim h) ⟨_, rfl, .inl ⟨_, rfl, hc136⟩⟩ rfl ?_
                          refine GA.skip 17 rfl (by kernel_rfl) (by kernel_rfl) (by kernel_rfl) (fun _ _ _ h => False.elim h) ⟨_, rfl, .inr rfl⟩ rfl ?_
                          refine GA.skip 18 rfl (by kernel_rfl) (by kernel_rfl) (by kernel_rfl) (fun _ _ _ h => False.elim h) ⟨_, rfl, .inr rfl⟩ rfl ?_
                          refine GA.skip 19 rfl (by kernel_rfl) (by kernel_rfl) (by kernel_rfl) (fun _ _ _ h => False.elim h) ⟨_, rfl, .inr rfl⟩ rfl ?_
                          refine GA.skip 20 rfl (by kernel_rfl) (by kernel_rfl) (by kernel_rfl) (fun _ _ _ h => False.elim h) ⟨_, rfl, .inl ⟨_, rfl, hc136⟩⟩ rfl ?_
                          refine GA.skip 21 rfl (by kernel_rfl) (by kernel_rfl) (by kernel_rfl) (fun _ _ _ h => False.elim h) ⟨_, rfl, .inl ⟨_, rfl, hc136⟩⟩ rfl ?_
                          refine GA.skip 22 rfl (by kernel_rfl) (by kernel_rfl) (by kernel_rfl) (fun _ _ _ h => False.elim h) ⟨_, rfl, .inr rfl⟩ rfl ?_
                          refine GA.skip 23 rfl (by kernel_rfl) (by kernel_rfl) (by kernel_rfl) (fun _ _ _ h => False.elim h) ⟨_, rfl, .inr rfl⟩ rfl ?_
                          refine GA.skip 24 rfl (by kernel_rfl) (by kernel_rfl) (by kernel_rfl) (fun _ _ _ h => False.elim h) ⟨_, rfl, .inr rfl⟩ rfl ?_
                          refine GA.skip 25 rfl (by kernel_rfl) (by kernel_rfl) (by kernel_rfl) (fun _ _ _ h => False.elim h) ⟨_, rfl, .inl ⟨_, rfl, hc136⟩⟩ rfl ?_
                          refine GA.take 26 rfl (by kernel_rfl) (by kernel_rfl) (by kernel_rfl) (fun _ _ _ h => False.elim h) ⟨_, _, rfl, rfl, hc131⟩ rfl (OV.pickT (b := r134) (v := .bool true) rfl hc136 rfl) ?_
                          refine GA.take 27 rfl (by kernel_rfl) (by kernel_rfl) (by kernel_rfl) (fun _ _ _ h => False.elim h) trivial rfl (OV.pickT (b := r129) (v := .bool true) rfl hc131 rfl) ?_
                          refine GA.take 32 rfl (by kernel_rfl) (by kernel_rfl) (by kernel_rfl) (fun _ _ _ h => False.elim h) trivial rfl (OV.assign (v := .bool true) rfl) ?_
                          refine GA.take 33 rfl (by kernel_rfl) (by kernel_rfl) (by kernel_rfl) (fun _ _ _ h => False.elim h) trivial rfl (OV.assign (v := .bool (decide (((Sl.len x125 : Int) : Int) ≤ 8))) rfl) ?_
                          refine GA.done (by kernel_rfl) ?_
                          exact GL.jump (fun _ _ h => h) (true, (decide (((Sl.len x125 : Int) : Int) ≤ 8))) h ⟨rfl, rfl, rfl, trivial⟩
                        · replace h := And.right h hc136
                          refine GA.take 14 rfl (by kernel_rfl) (by kernel_rfl) (by kernel_rfl) (fun _ _ _ h => False.elim h) ⟨_, _, rfl, rfl, hc136⟩ rfl (OV.move (v := .bool r115) rfl) ?_
                          refine GA.take 15 rfl (by kernel_rfl) (by kernel_rfl) (by kernel_rfl) (fun _ _ _ h => False.elim h) ⟨_, _, rfl, rfl, hc136⟩ rfl (OV.not rfl) ?_
                          refine GA.take 16 rfl (by kernel_rfl) (by kernel_rfl) (by kernel_rfl) (fun _ _ _ h => False.elim h) ⟨_, _, rfl, rfl, hc136⟩ rfl (OV.move (v := .bool (!r115)) rfl) ?_
                          rcases Bool.eq_false_or_eq_true (!r115) with hc137 | hc137
                          · replace h := And.left h hc137
                            refine GA.take 17 rfl (by kernel_rfl) (by kernel_rfl) (by kernel_rfl) (fun _ _ _ h => False.elim h) ⟨_, _, rfl, rfl, hc137⟩ rfl (OV.fieldAddr (p := (b1, 0)) rfl rfl) ?_
                            obtain ⟨x138, hr139, h⟩ := h
                            refine GA.take 18 rfl (by kernel_rfl) (by kernel_rfl) (by kernel_rfl) (fun _ _ _ h => False.elim h) ⟨_, _, rfl, rfl, hc137⟩ rfl (OV.load (p := ((b1, 0).1, (b1, 0).2 + 2)) rfl rfl hr139) ?_
                            refine GA.take 19 rfl (by kernel_rfl) (by kernel_rfl) (by kernel_rfl) (fun _ _ _ h => False.elim h) ⟨_, _, rfl, rfl, hc137⟩ rfl (OV.sbin (a := x138) (b := ([116, 114, 117, 101] : Str)) (v := .bool (!(x138 == ([116, 114, 117, 101] : Str)))) rfl rfl rfl) ?_
                            refine GA.take 20 rfl (by kernel_rfl) (by kernel_rfl) (by kernel_rfl) (fun _ _ _ h => False.elim h) ⟨_, _, rfl, rfl, hc136⟩ rfl (OV.pickT (b := !r115) (v := .bool (!(x138 == ([116, 114, 117, 101] : Str)))) rfl hc137 rfl) ?_
                            refine GA.take 21 rfl (by kernel_rfl) (by kernel_rfl) (by kernel_rfl) (fun _ _ _ h => False.elim h) ⟨_, _, rfl, rfl, hc136⟩ rfl (OV.move (v := .bool (!(x138 == ([116, 114, 117, 101] : Str)))) rfl) ?_
                            rcases Bool.eq_false_or_eq_true (!(x138 == ([116, 114, 117, 101] : Str))) with hc140 | hc140
                            · replace h := And.left h hc140
                              refine GA.take 22 rfl (by kernel_rfl) (by kernel_rfl) (by kernel_rfl) (fun _ _ _ h => False.elim h) ⟨_, _, rfl, rfl, hc140⟩ rfl (OV.fieldAddr (p := (b1, 0)) rfl rfl) ?_
                              obtain ⟨x141, hr142, h⟩ := h
                              refine GA.take 23 rfl (by kernel_rfl) (by kernel_rfl) (by kernel_rfl) (fun _ _ _ h => False.elim h) ⟨_, _, rfl, rfl, hc140⟩ rfl (OV.load (p := ((b1, 0).1, (b1, 0).2 + 2)) rfl rfl hr142) ?_
                              refine GA.take 24 rfl (by kernel_rfl) (by kernel_rfl) (by kernel_rfl) (fun _ _ _ h => False.elim h) ⟨_, _, rfl, rfl, hc140⟩ rfl (OV.sbin (a := x141) (b := ([102, 97, 108, 115, 101] : Str)) (v := .bool (!(x141 == ([102, 97, 108, 115, 101] : Str)))) rfl rfl rfl) ?_
                              refine GA.take 25 rfl (by kernel_rfl) (by kernel_rfl) (by kernel_rfl) (fun _ _ _ h => False.elim h) ⟨_, _, rfl, rfl, hc136⟩ rfl (OV.pickT (b := !(x138 == ([116, 114, 117, 101] : Str))) (v := .bool (!(x141 == ([102, 97, 108, 115, 101] : Str)))) rfl hc140 rfl) ?_
                              refine GA.take 26 rfl (by kernel_rfl) (by kernel_rfl) (by kernel_rfl) (fun _ _ _ h => False.elim h) ⟨_, _, rfl, rfl, hc131⟩ rfl (OV.pickF (b := r134) (v := .bool (!(x141 == ([102, 97, 108, 115, 101] : Str)))) rfl hc136 rfl) ?_
                              refine GA.take 27 rfl (by kernel_rfl) (by kernel_rfl) (by kernel_rfl) (fun _ _ _ h => False.elim h) trivial rfl (OV.pickT (b := r129) (v := .bool (!(x141 == ([102, 97, 108, 115, 101] : Str)))) rfl hc131 rfl) ?_
                              refine GA.take 32 rfl (by kernel_rfl) (by kernel_rfl) (by kernel_rfl) (fun _ _ _ h => False.elim h) trivial rfl (OV.assign (v := .bool (!(x141 == ([102, 97, 108, 115, 101] : Str)))) rfl) ?_
                              refine GA.take 33 rfl (by kernel_rfl) (by kernel_rfl) (by kernel_rfl) (fun _ _ _ h => False.elim h) trivial rfl (OV.assign (v := .bool (decide (((Sl.len x125 : Int) : Int) ≤ 8))) rfl) ?_
                              refine GA.done (by kernel_rfl) ?_
                              exact GL.jump (fun _ _ h => h) ((!(x141 == ([102, 97, 108, 115, 101] : Str))), (decide (((Sl.len x125 : Int) : Int) ≤ 8))) h ⟨rfl, rfl, rfl, trivial⟩
                            · replace h := And.right h hc140
                              refine GA.skip 22 rfl (by kernel_rfl) (by kernel_rfl) (by kernel_rfl) (fun _ _ _ h => False.elim h) ⟨_, rfl, .inl ⟨_, rfl, hc140⟩⟩ rfl ?_
                              refine GA.skip 23 rfl (by kernel_rfl) (by kernel_rfl) (by kernel_rfl) (fun _ _ _ h => False.elim h) ⟨_, rfl, .inl ⟨_, rfl, hc140⟩⟩ rfl ?_
                              refine GA.skip 24 rfl (by kernel_rfl) (by kernel_rfl) (by kernel_rfl) (fun _ _ _ h => False.elim h) ⟨_, rfl, .inl ⟨_, rfl, hc140⟩⟩ rfl ?_
                              refine GA.take 25 rfl (by kernel_rfl) (by kernel_rfl) (by kernel_rfl) (fun _ _ _ h => False.elim h) ⟨_, _, rfl, rfl, hc136⟩ rfl (OV.pickF (b := !(x138 == ([116, 114, 117, 101] : Str))) (v := .bool false) rfl hc140 rfl) ?_
                              refine GA.take 26 rfl (by kernel_rfl) (by kernel_rfl) (by kernel_rfl) (fun _ _ _ h => False.elim h) ⟨_, _, rfl, rfl, hc131⟩ rfl (OV.pickF (b := r134) (v := .bool false) rfl hc136 rfl) ?_
                              refine GA.take 27 rfl (by kernel_rfl) (by kernel_rfl) (by kernel_rfl) (fun _ _ _ h => False.elim h) trivial rfl (OV.pickT (b := r129) (v := .bool false) rfl hc131 rfl) ?_
                              refine GA.take 32 rfl (by kernel_rfl) (by kernel_rfl) (by kernel_rfl) (fun _ _ _ h => False.elim h) trivial rfl (OV.assign (v := .bool false) rfl) ?_
                              refine GA.take 33 rfl (by kernel_rfl) (by kernel_rfl) (by kernel_rfl) (fun _ _ _ h => False.elim h) trivial rfl (OV.assign (v := .bool (decide (((Sl.len x125 : Int) : Int) ≤ 8))) rfl) ?_
                              refine GA.done (by kernel_rfl) ?_
                              exact GL.jump (fun _ _ h => h) (false, (decide (((Sl.len x125 : Int) : Int) ≤ 8))) h ⟨rfl, rfl, rfl, trivial⟩
                          · replace h := And.right h hc137
                            refine GA.skip 17 rfl (by kernel_rfl) (by kernel_rfl) (by kernel_rfl) (fun _ _ _ h => False.elim h) ⟨_, rfl, .inl ⟨_, rfl, hc137⟩⟩ rfl ?_
                            refine GA.skip 18 rfl (by kernel_rfl) (by kernel_rfl) (by kernel_rfl) (fun _ _ _ h => False.elim h) ⟨_, rfl, .inl ⟨_, rfl, hc137⟩⟩ rfl ?_
                            refine GA.skip 19 rfl (by kernel_rfl) (by kernel_rfl) (by kernel_rfl) (fun _ _ _ h => False.elim h) ⟨_, rfl, .inl ⟨_, rfl, hc137⟩⟩ rfl ?_
                            refine GA.take 20 rfl (by kernel_rfl) (by kernel_rfl) (by kernel_rfl) (fun _ _ _ h => False.elim h) ⟨_, _, rfl, rfl, hc136⟩ rfl (OV.pickF (b := !r115) (v := .bool false) rfl hc137 rfl) ?_
                            refine GA.take 21 rfl (by kernel_rfl) (by kernel_rfl) (by kernel_rfl) (fun _ _ _ h => False.elim h) ⟨_, _, rfl, rfl, hc136⟩ rfl (OV.move (v := .bool false) rfl) ?_
                            refine GA.skip 22 rfl (by kernel_rfl) (by kernel_rfl) (by kernel_rfl) (fun _ _ _ h => False.elim h) ⟨_, rfl, .inl ⟨_, rfl, rfl⟩⟩ rfl ?_
                            refine GA.skip 23 rfl (by kernel_rfl) (by kernel_rfl) (by kernel_rfl) (fun _ _ _ h => False.elim h) ⟨_, rfl, .inl ⟨_, rfl, rfl⟩⟩ rfl ?_
                            refine GA.skip 24 rfl (by kernel_rfl) (by kernel_rfl) (by kernel_rfl) (fun _ _ _ h => False.elim h) ⟨_, rfl, .inl ⟨_, rfl, rfl⟩⟩ rfl ?_
                            refine GA.take 25 rfl (by kernel_rfl) (by kernel_rfl) (by kernel_rfl) (fun _ _ _ h => False.elim h) ⟨_, _, rfl, rfl, hc136⟩ rfl (OV.pickF (b := false) (v := .bool false) rfl rfl rfl) ?_
                            refine GA.take 26 rfl (by kernel_rfl) (by kernel_rfl) (by kernel_rfl) (fun _ _ _ h => False.elim h) ⟨_, _, rfl, rfl, hc131⟩ rfl (OV.pickF (b := r134) (v := .bool false) rfl hc136 rfl) ?_
                            refine GA.take 27 rfl (by kernel_rfl) (by kernel_rfl) (by kernel_rfl) (fun _ _ _ h => False.elim h) trivial rfl (OV.pickT (b := r129) (v := .bool false) rfl hc131 rfl) ?_
                            refine GA.take 32 rfl (by kernel_rfl) (by kernel_rfl) (by kernel_rfl) (fun _ _ _ h => False.elim h) trivial rfl (OV.assign (v := .bool false) rfl) ?_
                            refine GA.take 33 rfl (by kernel_rfl) (by kernel_rfl) (by kernel_rfl) (fun _ _ _ h => False.elim h) trivial rfl (OV.assign (v := .bool (decide (((Sl.len x125 : Int) : Int) ≤ 8))) rfl) ?_
                            refine GA.done (by kernel_rfl) ?_
                            exact GL.jump (fun _ _ h => h) (false, (decide (((Sl.len x125 : Int) : Int) ≤ 8))) h ⟨rfl, rfl, rfl, trivial⟩
                      · replace h := And.right h hc132
                        refine GA.skip 10 rfl (by kernel_rfl) (by kernel_rfl) (by kernel_rfl) (fun _ _ _ h => False.elim h) ⟨_, rfl, .inl ⟨_, rfl, hc132⟩⟩ rfl ?_
                        refine GA.skip 11 rfl (by kernel_rfl) (by kernel_rfl) (by kernel_rfl) (fun _ _ _ h => False.elim h) ⟨_, rfl, .inl ⟨_, rfl, hc132⟩⟩ rfl ?_
                        refine GA.take 12 rfl (by kernel_rfl) (by kernel_rfl) (by kernel_rfl) (fun _ _ _ h => False.elim h) ⟨_, _, rfl, rfl, hc131⟩ rfl (OV.pickF (b := r115) (v := .bool false) rfl hc132 rfl) ?_
                        refine GA.take 13 rfl (by kernel_rfl) (by kernel_rfl) (by kernel_rfl) (fun _ _ _ h => False.elim h) ⟨_, _, rfl, rfl, hc131⟩ rfl (OV.move (v := .bool false) rfl) ?_
                        refine GA.take 14 rfl (by kernel_rfl) (by kernel_rfl) (by kernel_rfl) (fun _ _ _ h => False.elim h) ⟨_, _, rfl, rfl, rfl⟩ rfl (OV.move (v := .bool r115) rfl) ?_
                        refine GA.take 15 rfl (by kernel_rfl) (by kernel_rfl) (by kernel_rfl) (fun _ _ _ h => False.elim h) ⟨_, _, rfl, rfl, rfl⟩ rfl (OV.not rfl) ?_
                        refine GA.take 16 rfl (by kernel_rfl) (by kernel_rfl) (by kernel_rfl) (fun _ _ _ h => False.elim h) ⟨_, _, rfl, rfl, rfl⟩ rfl (OV.move (v := .bool (!r115)) rfl) ?_
                        rcases Bool.eq_false_or_eq_true (!r115) with hc143 | hc143
                        · replace h := And.left h hc143
                          refine GA.take 17 rfl (by kernel_rfl) (by kernel_rfl) (by kernel_rfl) (fun _ _ _ h => False.elim h) ⟨_, _, rfl, rfl, hc143⟩ rfl (OV.fieldAddr (p := (b1, 0)) rfl rfl) ?_
                          obtain ⟨x144, hr145, h⟩ := h
                          refine GA.take 18 rfl (by kernel_rfl) (by kernel_rfl) (by kernel_rfl) (fun _ _ _ h => False.elim h) ⟨_, _, rfl, rfl, hc143⟩ rfl (OV.load (p := ((b1, 0).1, (b1, 0).2 + 2)) rfl rfl hr145) ?_
                          refine GA.take 19 rfl (by kernel_rfl) (by kernel_rfl) (by kernel_rfl) (fun _ _ _ h => False.elim h) ⟨_, _, rfl, rfl, hc143⟩ rfl (OV.sbin (a := x144) (b := ([116, 114, 117, 101] : Str)) (v := .bool (!(x144 == ([116, 114, 117, 101] : Str)))) rfl rfl rfl) ?_
                          refine GA.take 20 rfl (by kernel_rfl) (by kernel_rfl) (by kernel_rfl) (fun _ _ _ h => False.elim h) ⟨_, _, rfl, rfl, rfl⟩ rfl (OV.pickT (b := !r115) (v := .bool (!(x144 == ([116, 114, 117, 101] : Str)))) rfl hc143 rfl) ?_
                          refine GA.take 21 rfl (by kernel_rfl) (by kernel_rfl) (by kernel_rfl) (fun _ _ _ h => False.elim h) ⟨_, _, rfl, rfl, rfl⟩ rfl (OV.move (v := .bool (!(x144 == ([116, 114, 117, 101] : Str)))) rfl) ?_
                          rcases Bool.eq_false_or_eq_true (!(x144 == ([116, 114, 117, 101] : Str))) with hc146 | hc146
                          · replace h := And.left h hc146
                            refine GA.take 22 rfl (by kernel_rfl) (by kernel_rfl) (by kernel_rfl) (fun _ _ _ h => False.elim h) ⟨_, _, rfl, rfl, hc146⟩ rfl (OV.fieldAddr (p := (b1, 0)) rfl rfl) ?_
                            obtain ⟨x147, hr148, h⟩ := h
                            refine GA.take 23 rfl (by kernel_rfl) (by kernel_rfl) (by kernel_rfl) (fun _ _ _ h => False.elim h) ⟨_, _, rfl, rfl, hc146⟩ rfl (OV.load (p := ((b1, 0).1, (b1, 0).2 + 2)) rfl rfl hr148) ?_
                            refine GA.take 24 rfl (by kernel_rfl) (by kernel_rfl) (by kernel_rfl) (fun _ _ _ h => False.elim h) ⟨_, _, rfl, rfl, hc146⟩ rfl (OV.sbin (a := x147) (b := ([102, 97, 108, 115, 101] : Str)) (v := .bool (!(x147 == ([102, 97, 108, 115, 101] : Str)))) rfl rfl rfl) ?_
                            refine GA.take 25 rfl (by kernel_rfl) (by kernel_rfl) (by kernel_rfl) (fun _ _ _ h => False.elim h) ⟨_, _, rfl, rfl, rfl⟩ rfl (OV.pickT (b := !(x144 == ([116, 114, 117, 101] : Str))) (v := .bool (!(x147 == ([102, 97, 108, 115, 101] : Str)))) rfl hc146 rfl) ?_
                            refine GA.take 26 rfl (by kernel_rfl) (by kernel_rfl) (by kernel_rfl) (fun _ _ _ h => False.elim h) ⟨_, _, rfl, rfl, hc131⟩ rfl (OV.pickF (b := false) (v := .bool (!(x147 == ([102, 97, 108, 115, 101] : Str)))) rfl rfl rfl) ?_
                            refine GA.take 27 rfl (by kernel_rfl) (by kernel_rfl) (by kernel_rfl) (fun _ _ _ h => False.elim h) trivial rfl (OV.pickT (b := r129) (v := .bool (!(x147 == ([102, 97, 108, 115, 101] : Str)))) rfl hc131 rfl) ?_
                            refine GA.take 32 rfl (by kernel_rfl) (by kernel_rfl) (by kernel_rfl) (fun _ _ _ h => False.elim h) trivial rfl (OV.assign (v := .bool (!(x147 == ([102, 97, 108, 115, 101] : Str)))) rfl) ?_
                            refine GA.take 33 rfl (by kernel_rfl) (by kernel_rfl) (by kernel_rfl) (fun _ _ _ h => False.elim h) trivial rfl (OV.assign (v := .bool (decide (((Sl.len x125 : Int) : Int) ≤ 8))) rfl) ?_
                            refine GA.done (by kernel_rfl) ?_
                            exact GL.jump (fun _ _ h => h) ((!(x147 == ([102, 97, 108, 115, 101] : Str))), (decide (((Sl.len x125 : Int) : Int) ≤ 8))) h ⟨rfl, rfl, rfl, trivial⟩
                          · replace h := And.right h hc146
                            refine GA.skip 22 rfl (by kernel_rfl) (by kernel_rfl) (by kernel_rfl) (fun _ _ _ h => False.elim h) ⟨_, rfl, .inl ⟨_, rfl, hc146⟩⟩ rfl ?_
                            refine GA.skip 23 rfl (by kernel_rfl) (by kernel_rfl) (by kernel_rfl) (fun _ _ _ h => False.elim h) ⟨_, rfl, .inl ⟨_, rfl, hc146⟩⟩ rfl ?_
                            refine GA.skip 24 rfl (by kernel_rfl) (by kernel_rfl) (by kernel_rfl) (fun _ _ _ h => False.elim h) ⟨_, rfl, .inl ⟨_, rfl, hc146⟩⟩ rfl ?_
                            refine GA.take 25 rfl (by kernel_rfl) (by kernel_rfl) (by kernel_rfl) (fun _ _ _ h => False.elim h) ⟨_, _, rfl, rfl, rfl⟩ rfl (OV.pickF (b := !(x144 == ([116, 114, 117, 101] : Str))) (v := .bool false) rfl hc146 rfl) ?_
                            refine GA.take 26 rfl (by kernel_rfl) (by kernel_rfl) (by kernel_rfl) (fun _ _ _ h => False.elim h) ⟨_, _, rfl, rfl, hc131⟩ rfl (OV.pickF (b := false) (v := .bool false) rfl rfl rfl) ?_
                            refine GA.take 27 rfl (by kernel_rfl) (by kernel_rfl) (by kernel_rfl) (fun _ _ _ h => False.elim h) trivial rfl (OV.pickT (b := r129) (v := .bool false) rfl hc131 rfl) ?_
                            refine GA.take 32 rfl (by kernel_rfl) (by kernel_rfl) (by kernel_rfl) (fun _ _ _ h => False.elim h) trivial rfl (OV.assign (v := .bool false) rfl) ?_
                            refine GA.take 33 rfl (by kernel_rfl) (by kernel_rfl) (by kernel_rfl) (fun _ _ _ h => False.elim h) trivial rfl (OV.assign (v := .bool (decide (((Sl.len x125 : Int) : Int) ≤ 8))) rfl) ?_
                            refine GA.done (by kernel_rfl) ?_
                            exact GL.jump (fun _ _ h => h) (false, (decide (((Sl.len x125 : Int) : Int) ≤ 8))) h ⟨rfl, rfl, rfl, trivial⟩
                        · replace h := And.right h hc143
                          refine GA.skip 17 rfl (by kernel_rfl) (by kernel_rfl) (by kernel_rfl) (fun _ _ _ h => False.elim h) ⟨_, rfl, .inl ⟨_, rfl, hc143⟩⟩ rfl ?_
                          refine GA.skip 18 rfl (by kernel_rfl) (by kernel_rfl) (by kernel_rfl) (fun _ _ _ h => False.elim h) ⟨_, rfl, .inl ⟨_, rfl, hc143⟩⟩ rfl ?_
                          refine GA.skip 19 rfl (by kernel_rfl) (by kernel_rfl) (by kernel_rfl) (fun _ _ _ h => False.elim h) ⟨_, rfl, .inl ⟨_, rfl, hc143⟩⟩ rfl ?_
                          refine GA.take 20 rfl (by kernel_rfl) (by kernel_rfl) (by kernel_rfl) (fun _ _ _ h => False.elim h) ⟨_, _, rfl, rfl, rfl⟩ rfl (OV.pickF (b := !r115) (v := .bool false) rfl hc143 rfl) ?_
                          refine GA.take 21 rfl (by kernel_rfl) (by kernel_rfl) (by kernel_rfl) (fun _ _ _ h => False.elim h) ⟨_, _, rfl, rfl, rfl⟩ rfl (OV.move (v := .bool false) rfl) ?_
                          refine GA.skip 22 rfl (by kernel_rfl) (by kernel_rfl) (by kernel_rfl) (fun _ _ _ h => False.elim h) ⟨_, rfl, .inl ⟨_, rfl, rfl⟩⟩ rfl ?_
                          refine GA.skip 23 rfl (by kernel_rfl) (by kernel_rfl) (by kernel_rfl) (fun _ _ _ h => False.elim h) ⟨_, rfl, .inl ⟨_, rfl, rfl⟩⟩ rfl ?_
                          refine GA.skip 24 rfl (by kernel_rfl) (by kernel_rfl) (by kernel_rfl) (fun _ _ _ h => False.elim h) ⟨_, rfl, .inl ⟨_, rfl, rfl⟩⟩ rfl ?_
                          refine GA.take 25 rfl (by kernel_rfl) (by kernel_rfl) (by kernel_rfl) (fun _ _ _ h => False.elim h) ⟨_, _, rfl, rfl, rfl⟩ rfl (OV.pickF (b := false) (v := .bool false) rfl rfl rfl) ?_
                          refine GA.take 26 rfl (by kernel_rfl) (by kernel_rfl) (by kernel_rfl) (fun _ _ _ h => False.elim h) ⟨_, _, rfl, rfl, hc131⟩ rfl (OV.pickF (b := false) (v := .bool false) rfl rfl rfl) ?_
                          refine GA.take 27 rfl (by kernel_rfl) (by kernel_rfl) (by kernel_rfl) (fun _ _ _ h => False.elim h) trivial rfl (OV.pickT (b := r129) (v := .bool false) rfl hc131 rfl) ?_
                          refine GA.take 32 rfl (by kernel_rfl) (by kernel_rfl) (by kernel_rfl) (fun _ _ _ h => False.elim h) trivial rfl (OV.assign (v := .bool false) rfl) ?_
                          refine GA.take 33 rfl (by kernel_rfl) (by kernel_rfl) (by kernel_rfl) (fun _ _ _ h => False.elim h) trivial rfl (OV.assign (v := .bool (decide (((Sl.len x125 : Int) : Int) ≤ 8))) rfl) ?_
                          refine GA.done (by kernel_rfl) ?_
                          exact GL.jump (fun _ _ h => h) (false, (decide (((Sl.len x125 : Int) : Int) ≤ 8))) h ⟨rfl, rfl, rfl, trivial⟩
                    · replace h := And.right h hc131
                      refine GA.skip 8 rfl (by kernel_rfl) (by kernel_rfl) (by kernel_rfl) (fun _ _ _ h => False.elim h) ⟨_, rfl, .inl ⟨_, rfl, hc131⟩⟩ rfl ?_
                      refine GA.skip 9 rfl (by kernel_rfl) (by kernel_rfl) (by kernel_rfl) (fun _ _ _ h => False.elim h) ⟨_, rfl, .inl ⟨_, rfl, hc131⟩⟩ rfl ?_
                      refine GA.skip 10 rfl (by kernel_rfl) (by kernel_rfl) (by kernel_rfl) (fun _ _ _ h => False.elim h) ⟨_, rfl, .inr rfl⟩ rfl ?_
                      refine GA.skip 11 rfl (by kernel_rfl) (by kernel_rfl) (by kernel_rfl) (fun _ _ _ h => False.elim h) ⟨_, rfl, .inr rfl⟩ rfl ?_
                      refine GA.skip 12 rfl (by kernel_rfl) (by kernel_rfl) (by kernel_rfl) (fun _ _ _ h => False.elim h) ⟨_, rfl, .inl ⟨_, rfl, hc131⟩⟩ rfl ?_
                      refine GA.skip 13 rfl (by kernel_rfl) (by kernel_rfl) (by kernel_rfl) (fun _ _ _ h => False.elim h) ⟨_, rfl, .inl ⟨_, rfl, hc131⟩⟩ rfl ?_
                      refine GA.skip 14 rfl (by kernel_rfl) (by kernel_rfl) (by kernel_rfl) (fun _ _ _ h => False.elim h) ⟨_, rfl, .inr rfl⟩ rfl ?_
                      refine GA.skip 15 rfl (by kernel_rfl) (by kernel_rfl) (by kernel_rfl) (fun _ _ _ h => False.elim h) ⟨_, rfl, .inr rfl⟩ rfl ?_
                      refine GA.skip 16 rfl (by kernel_rfl) (by kernel_rfl) (by kernel_rfl) (fun _ _ _ h => False.elim h) ⟨_, rfl, .inr rfl⟩ rfl ?_
                      refine GA.skip 17 rfl (by kernel_rfl) (by kernel_rfl) (by kernel_rfl) (fun _ _ _ h => False.elim h) ⟨_, rfl, .inr rfl⟩ rfl ?_
                      refine GA.skip 18 rfl (by kernel_rfl) (by kernel_rfl) (by kernel_rfl) (fun _ _ _ h => False.elim h) ⟨_, rfl, .inr rfl⟩ rfl ?_
                      refine GA.skip 19 rfl (by kernel_rfl) (by kernel_rfl) (by kernel_rfl) (fun _ _ _ h => False.elim h) ⟨_, rfl, .inr rfl⟩ rfl ?_
                      refine GA.skip 20 rfl (by kernel_rfl) (by kernel_rfl) (by kernel_rfl) (fun _ _ _ h => False.elim h) ⟨_, rfl, .inr rfl⟩ rfl ?_
                      refine GA.skip 21 rfl (by kernel_rfl) (by kernel_rfl) (by kernel_rfl) (fun _ _ _ h => False.elim h) ⟨_, rfl, .inr rfl⟩ rfl ?_
                      refine GA.skip 22 rfl (by kernel_rfl) (by kernel_rfl) (by kernel_rfl) (fun _ _ _ h => False.elim h) ⟨_, rfl, .inr rfl⟩ rfl ?_
                      refine GA.skip 23 rfl (by kernel_rfl) (by kernel_rfl) (by kernel_rfl) (fun _ _ _ h => False.elim h) ⟨_, rfl, .inr rfl⟩ rfl ?_
                      refine GA.skip 24 rfl (by kernel_rfl) (by kernel_rfl) (by kernel_rfl) (fun _ _ _ h => False.elim h) ⟨_, rfl, .inr rfl⟩ rfl ?_
                      refine GA.skip 25 rfl (by kernel_rfl) (by kernel_rfl) (by kernel_rfl) (fun _ _ _ h => False.elim h) ⟨_, rfl, .inr rfl⟩ rfl ?_
                      refine GA.skip 26 rfl (by kernel_rfl) (by kernel_rfl) (by kernel_rfl) (fun _ _ _ h => False.elim h) ⟨_, rfl, .inl ⟨_, rfl, hc131⟩⟩ rfl ?_
                      refine GA.take 27 rfl (by kernel_rfl) (by kernel_rfl) (by kernel_rfl) (fun _ _ _ h => False.elim h) trivial rfl (OV.pickF (b := r129) (v := .bool false) rfl hc131 rfl) ?_
                      refine GA.take 32 rfl (by kernel_rfl) (by kernel_rfl) (by kernel_rfl) (fun _ _ _ h => False.elim h) trivial rfl (OV.assign (v := .bool false) rfl) ?_
                      refine GA.take 33 rfl (by kernel_rfl) (by kernel_rfl) (by kernel_rfl) (fun _ _ _ h => False.elim h) trivial rfl (OV.assign (v := .bool (decide (((Sl.len x125 : Int) : Int) ≤ 8))) rfl) ?_
                      refine GA.done (by kernel_rfl) ?_
                      exact GL.jump (fun _ _ h => h) (false, (decide (((Sl.len x125 : Int) : Int) ≤ 8))) h ⟨rfl, rfl, rfl, trivial⟩
                  · replace h := And.right h hc127
                    refine GA.skip 4 rfl (by kernel_rfl) (by kernel_rfl) (by kernel_rfl) (fun _ _ _ h => False.elim h) ⟨_, rfl, .inl ⟨_, rfl, hc127⟩⟩ rfl ?_
                    refine GA.skip 5 rfl (by kernel_rfl) (by kernel_rfl) (by kernel_rfl) (fun _ _ _ h => False.elim h) ⟨_, rfl, .inl ⟨_, rfl, hc127⟩⟩ rfl ?_
                    refine GA.take 6 rfl (by kernel_rfl) (by kernel_rfl) (by kernel_rfl) (fun _ _ _ h => False.elim h) trivial rfl (OV.pickF (b := (x123 : Int) == 0) (v := .bool false) rfl hc127 rfl) ?_
                    refine GA.take 7 rfl (by kernel_rfl) (by kernel_rfl) (by kernel_rfl) (fun _ _ _ h => False.elim h) trivial rfl (OV.move (v := .bool false) rfl) ?_
                    refine GA.skip 8 rfl (by kernel_rfl) (by kernel_rfl) (by kernel_rfl) (fun _ _ _ h => False.elim h) ⟨_, rfl, .inl ⟨_, rfl, rfl⟩⟩ rfl ?_
                    refine GA.skip 9 rfl (by kernel_rfl) (by kernel_rfl) (by kernel_rfl) (fun _ _ _ h => False.elim h) ⟨_, rfl, .inl ⟨_, rfl, rfl⟩⟩ rfl ?_
                    refine GA.skip 10 rfl (by kernel_rfl) (by kernel_rfl) (by kernel_rfl) (fun _ _ _ h => False.elim h) ⟨_, rfl, .inr rfl⟩ rfl ?_
                    refine GA.skip 11 rfl (by kernel_rfl) (by kernel_rfl) (by kernel_rfl) (fun _ _ _ h => False.elim h) ⟨_, rfl, .inr rfl⟩ rfl ?_
                    refine GA.skip 12 rfl (by kernel_rfl) (by kernel_rfl) (by kernel_rfl) (fun _ _ _ h => False.elim h) ⟨_, rfl, .inl ⟨_, rfl, rfl⟩⟩ rfl ?_
                    refine GA.skip 13 rfl (by kernel_rfl) (by kernel_rfl) (by kernel_rfl) (fun _ _ _ h => False.elim h) ⟨_, rfl, .inl ⟨_, rfl, rfl⟩⟩ rfl ?_
                    refine GA.skip 14 rfl (by kernel_rfl) (by kernel_rfl) (by kernel_rfl) (fun _ _ _ h => False.elim h) ⟨_, rfl, .inr rfl⟩ rfl ?_
                    refine GA.skip 15 rfl (by kernel_rfl) (by kernel_rfl) (by kernel_rfl) (fun _ _ _ h => False.elim h) ⟨_, rfl, .inr rfl⟩ rfl ?_
                    refine GA.skip 16 rfl (by kernel_rfl) (by kernel_rfl) (by kernel_rfl) (fun _ _ _ h => False.elim h) ⟨_, rfl, .inr rfl⟩ rfl ?_
                    refine GA.skip 17 rfl (by kernel_rfl) (by kernel_rfl) (by kernel_rfl) (fun _ _ _ h => False.elim h) ⟨_, rfl, .inr rfl⟩ rfl ?_
                    refine GA.skip 18 rfl (by kernel_rfl) (by kernel_rfl) (by kernel_rfl) (fun _ _ _ h => False.elim h) ⟨_, rfl, .inr rfl⟩ rfl ?_
                    refine GA.skip 19 rfl (by kernel_rfl) (by kernel_rfl) (by kernel_rfl) (fun _ _ _ h => False.elim h) ⟨_, rfl, .inr rfl⟩ rfl ?_
                    refine GA.skip 20 rfl (by kernel_rfl) (by kernel_rfl) (by kernel_rfl) (fun _ _ _ h => False.elim h) ⟨_, rfl, .inr rfl⟩ rfl ?_
                    refine GA.skip 21 rfl (by kernel_rfl) (by kernel_rfl) (by kernel_rfl) (fun _ _ _ h => False.elim h) ⟨_, rfl, .inr rfl⟩ rfl ?_
                    refine GA.skip 22 rfl (by kernel_rfl) (by kernel_rfl) (by kernel_rfl) (fun _ _ _ h => False.elim h) ⟨_, rfl, .inr rfl⟩ rfl ?_
                    refine GA.skip 23 rfl (by kernel_rfl) (by kernel_rfl) (by kernel_rfl) (fun _ _ _ h => False.elim h) ⟨_, rfl, .inr rfl⟩ rfl ?_
                    refine GA.skip 24 rfl (by kernel_rfl) (by kernel_rfl) (by kernel_rfl) (fun _ _ _ h => False.elim h) ⟨_, rfl, .inr rfl⟩ rfl ?_
                    refine GA.skip 25 rfl (by kernel_rfl) (by kernel_rfl) (by kernel_rfl) (fun _ _ _ h => False.elim h) ⟨_, rfl, .inr rfl⟩ rfl ?_
                    refine GA.skip 26 rfl (by kernel_rfl) (by kernel_rfl) (by kernel_rfl) (fun _ _ _ h => False.elim h) ⟨_, rfl, .inl ⟨_, rfl, rfl⟩⟩ rfl ?_
                    refine GA.take 27 rfl (by kernel_rfl) (by kernel_rfl) (by kernel_rfl) (fun _ _ _ h => False.elim h) trivial rfl (OV.pickF (b := false) (v := .bool false) rfl rfl rfl) ?_
                    refine GA.take 32 rfl (by kernel_rfl) (by kernel_rfl) (by kernel_rfl) (fun _ _ _ h => False.elim h) trivial rfl (OV.assign (v := .bool false) rfl) ?_
                    refine GA.take 33 rfl (by kernel_rfl) (by kernel_rfl) (by kernel_rfl) (fun _ _ _ h => False.elim h) trivial rfl (OV.assign (v := .bool (decide (((Sl.len x125 : Int) : Int) ≤ 8))) rfl) ?_
                    refine GA.done (by kernel_rfl) ?_
                    exact GL.jump (fun _ _ h => h) (false, (decide (((Sl.len x125 : Int) : Int) ≤ 8))) h ⟨rfl, rfl, rfl, trivial⟩
                · intro x118 H119 h
                  replace h := hR120 x118 H119 h
                  exact GL.jump (fun _ _ h => h) (x118.1, x118.2) h ⟨rfl, rfl, rfl, trivial⟩
              · replace h := And.right h hc110
                refine GC.region ?_
                refine GL.val trivial rfl (OV.assign (v := .bool false) rfl) ?_
                exact GL.jump (fun _ _ h => h) (false, true) h ⟨rfl, rfl, rfl, trivial⟩
  · intro x20 H21 h
    replace h := hR22 x20 H21 h
    refine GC.seq ?_
    refine GC.seq ?_
    refine GC.region ?_
    refine GL.val trivial rfl (OV.fieldAddr (p := (b1, 0)) rfl rfl) ?_
    obtain ⟨x149, hr150, h⟩ := h
    refine GL.val trivial rfl (OV.load (p := ((b1, 0).1, (b1, 0).2 + 3)) rfl rfl hr150) ?_
    refine GL.val trivial rfl (OV.lenSl (s := x149) rfl rfl) ?_
    refine GL.val trivial rfl (OV.move (v := .int .i64 0) rfl) ?_
    refine GL.nil ?_
    refine GC.block ?_
    refine GC.loop (α := Bool × Bool × Int) h (fun x151 => [(2, .bool x151.1), (3, .bool x151.2.1), (162, .int .i64 x151.2.2), (160, slv x149), (161, .int .i64 (Sl.len x149 : Int))]) ⟨rfl, rfl, rfl, rfl, rfl, trivial⟩ ?_
    intro x151 H153 J152 h
    refine GC.seq ?_
    refine GC.region ?_
    refine GL.val trivial rfl (OV.ibin (v := .bool (decide ((x151.2.2 : Int) < (Sl.len x149 : Int)))) rfl rfl rfl) ?_
    refine GL.nil ?_
    refine GC.seq ?_
    refine GC.cond (b := decide ((x151.2.2 : Int) < (Sl.len x149 : Int))) rfl (fun hc154 => ?_) (fun hc154 => ?_)
    · replace h := And.left h hc154
      refine GC.skip ?_
      refine GC.seq ?_
      refine GC.block ?_
      refine GC.seq ?_
      refine GC.region ?_
      obtain ⟨p155, ha156, hb157, hc158, hd159, h⟩ := h
      refine GL.val trivial rfl (OV.indexAddr (s := x149) rfl rfl rfl rfl ha156 hb157 hc158 hd159) ?_
      obtain ⟨x160, hr161, h⟩ := h
      refine GL.val trivial rfl (OV.loadT (p := (p155.1, p155.2 + (x151.2.2 : Int).toNat * 4)) (cs := T_api_Value.c x160) rfl rfl rfl hr161) ?_
      refine GL.alloc (cs := T_api_Value.c T_api_Value.zero) h trivial rfl rfl rfl ?_
      intro b162 H163 h
      refine GL.storeT (p := (b162, 0)) (vs := T_api_Value.c x160) h trivial rfl rfl rfl rfl ?_
      intro H164 h
      refine GL.nil ?_
      refine GC.seq ?_
      refine GC.region ?_
      obtain ⟨x165, hr166, h⟩ := h
      refine GL.val trivial rfl (OV.loadT (p := (b162, 0)) (cs := T_api_Value.c x165) rfl rfl rfl hr166) ?_
      refine GL.call h trivial rfl ok_value_item_look (vs := [.agg (T_api_Value.c x165).toArray]) rfl ?_
      rintro _ H169 ⟨r167, r168, rfl, h⟩
      refine GL.val trivial rfl (OV.move (v := .tuple #[.bool r167, .bool r168]) rfl) ?_
      refine GL.val trivial rfl (OV.extract (v := .bool r167) rfl rfl) ?_
      refine GL.val trivial rfl (OV.extract (v := .bool r168) rfl rfl) ?_
      refine GL.val trivial rfl (OV.assign (v := .bool r167) rfl) ?_
      refine GL.val trivial rfl (OV.assign (v := .bool r168) rfl) ?_
      refine GL.nil ?_
      refine GC.region ?_
      refine GL.val trivial rfl (OV.move (v := .bool x151.1) rfl) ?_
      refine GL.val trivial rfl (OV.move (v := .bool x151.1) rfl) ?_
      refine GL.cut0 2 [(174, .bool (x151.1 && r167)), (3, .bool x151.2.1), (12, .bool r168), (160, slv x149), (161, .int .i64 (Sl.len x149 : Int)), (162, .int .i64 x151.2.2)] ?_ ?_
      · rcases Bool.eq_false_or_eq_true x151.1 with hc170 | hc170
        · skip
          refine GL.val ⟨_, _, rfl, rfl, hc170⟩ rfl (OV.move (v := .bool r167) rfl) ?_
          refine GL.val trivial rfl (OV.pickT (b := x151.1) (v := .bool r167) rfl hc170 rfl) ?_
          exact GL.jump0 (fun _ _ h => h) () rfl ⟨(by rw [hc170]; rfl), rfl, rfl, rfl, rfl, rfl, trivial⟩
        · skip
          refine GL.skip ⟨_, rfl, .inl ⟨_, rfl, hc170⟩⟩ rfl ?_
          refine GL.val trivial rfl (OV.pickF (b := x151.1) (v := .bool false) rfl hc170 rfl) ?_
          exact GL.jump0 (fun _ _ h => h) () rfl ⟨(by rw [hc170]; rfl), rfl, rfl, rfl, rfl, rfl, trivial⟩
      refine GL.val trivial rfl (OV.move (v := .bool x151.2.1) rfl) ?_
      refine GL.val trivial rfl (OV.move (v := .bool x151.2.1) rfl) ?_
      refine GL.cut0 2 [(178, .bool (x151.2.1 && r168)), (160, slv x149), (161, .int .i64 (Sl.len x149 : Int)), (162, .int .i64 x151.2.2), (174, .bool (x151.1 && r167))] ?_ ?_
      · rcases Bool.eq_false_or_eq_true x151.2.1 with hc171 | hc171
        · skip
          refine GL.val ⟨_, _, rfl, rfl, hc171⟩ rfl (OV.move (v := .bool r168) rfl) ?_
          refine GL.val trivial rfl (OV.pickT (b := x151.2.1) (v := .bool r168) rfl hc171 rfl) ?_
          exact GL.jump0 (fun _ _ h => h) () rfl ⟨(by rw [hc171]; rfl), rfl, rfl, rfl, rfl, trivial⟩
        · skip
          refine GL.skip ⟨_, rfl, .inl ⟨_, rfl, hc171⟩⟩ rfl ?_
          refine GL.val trivial rfl (OV.pickF (b := x151.2.1) (v := .bool false) rfl hc171 rfl) ?_
          exact GL.jump0 (fun _ _ h => h) () rfl ⟨(by rw [hc171]; rfl), rfl, rfl, rfl, rfl, trivial⟩
      refine GL.val trivial rfl (OV.assign (v := .bool (x151.1 && r167)) rfl) ?_
      refine GL.val trivial rfl (OV.assign (v := .bool (x151.2.1 && r168)) rfl) ?_
      refine GL.nil_to (fun _ _ h => h) ?_
      refine GC.region ?_
      refine GL.val trivial rfl (OV.ibin (v := .int .i64 (w .i64 (x151.2.2 + 1))) rfl rfl rfl) ?_
      refine GL.val trivial rfl (OV.move (v := .int .i64 (w .i64 (x151.2.2 + 1))) rfl) ?_
      exact GL.jump (fun _ _ h => h) ((x151.1 && r167), (x151.2.1 && r168), (w .i64 (x151.2.2 + 1))) h ⟨rfl, rfl, rfl, rfl, rfl, trivial⟩
    · replace h := And.right h hc154
      refine GC.exit_to (fun _ _ h => h) ?_
      refine GC.seq ?_
      refine GC.region ?_
      refine GL.val trivial rfl (OV.move (v := .bool x151.1) rfl) ?_
      refine GL.val trivial rfl (OV.move (v := .bool x151.2.1) rfl) ?_
      refine GL.val trivial rfl (OV.assign (v := .bool x151.1) rfl) ?_
      refine GL.val trivial rfl (OV.assign (v := .bool x151.2.1) rfl) ?_
      refine GL.nil ?_
      exact GC.ret (fun _ _ hf hs => post_tmp2 rfl rfl rfl hf hs ⟨x151.1, x151.2.1, rfl, h⟩)

def sh_ref02_Check (C : Ctx) (p_v : T_api_Value) (K : Int → Heap → Prop) (H : Heap) : Prop :=
  nw (T_api_Value.c p_v) (fun b1 H2 =>
 ldT H2 T_api_Value.c (b1, 0) fun x3 =>
 c_ref02_Depth C x3 (fun r5 H6 =>
 ift (decide ((r5 : Int) > 64))
 (K 65 H6)
 (ldT H6 T_api_Value.c (b1, 0) fun x8 =>
 c_ref02_form C x8 (fun r10 H11 =>
 ift (!r10)
 (K 4 H11)
 (ldT H11 T_api_Value.c (b1, 0) fun x13 =>
 c_ref02_fits C x13 (fun r15 H16 =>
 ift (!r15)
 (K 40 H16)
 (K 0 H16)) H11)) H6)) H2) H

theorem ad_ref02_Check (C : Ctx) (p_v : T_api_Value) (K : Int → Heap → Prop) (H : Heap) (h : sh_ref02_Check C p_v K H) : c_ref02_Check C p_v K H := by
  refine Spec.enter Tryd.func30 rfl Tryd.ntmps30 rfl ?_
  refine GC.sub [(0, .agg (T_api_Value.c p_v).toArray)] ⟨rfl, trivial⟩ ?_
  refine GC.seq ?_
  refine GC.region ?_
  refine GL.box (v := .agg (T_api_Value.c p_v).toArray) (cs := T_api_Value.c p_v) h trivial rfl rfl rfl ?_
  intro b1 H2 h
  refine GL.val trivial rfl (OV.assign (v := .int .i64 0) rfl) ?_
  refine GL.nil ?_
  refine GC.seq ?_
  refine GC.seq ?_
  refine GC.region ?_
  obtain ⟨x3, hr4, h⟩ := h
  refine GL.val trivial rfl (OV.loadT (p := (b1, 0)) (cs := T_api_Value.c x3) rfl rfl rfl hr4) ?_
  refine GL.call h trivial rfl ok_ref02_Depth (vs := [.agg (T_api_Value.c x3).toArray]) rfl ?_
  rintro _ H6 ⟨r5, rfl, h⟩
  refine GL.val trivial rfl (OV.ibin (v := .bool (decide ((r5 : Int) > 64))) rfl rfl rfl) ?_
  refine GL.nil ?_
  refine GC.cond (b := decide ((r5 : Int) > 64)) rfl (fun hc7 => ?_) (fun hc7 => ?_)
  · replace h := And.left h hc7
    refine GC.seq ?_
    refine GC.region ?_
    refine GL.val trivial rfl (OV.assign (v := .int .i64 65) rfl) ?_
    refine GL.nil ?_
    exact GC.ret (fun _ _ hf hs => post_tmp1 rfl rfl hf hs ⟨65, rfl, h⟩)
  · replace h := And.right h hc7
    refine GC.skip ?_
    refine GC.seq ?_
    refine GC.seq ?_
    refine GC.region ?_
    obtain ⟨x8, hr9, h⟩ := h
    refine GL.val trivial rfl (OV.loadT (p := (b1, 0)) (cs := T_api_Value.c x8) rfl rfl rfl hr9) ?_
    refine GL.call h trivial rfl ok_ref02_form (vs := [.agg (T_api_Value.c x8).toArray]) rfl ?_
    rintro _ H11 ⟨r10, rfl, h⟩
    refine GL.val trivial rfl (OV.not rfl) ?_
    refine GL.nil ?_
    refine GC.cond (b := !r10) rfl (fun hc12 => ?_) (fun hc12 => ?_)
    · replace h := And.left h hc12
      refine GC.seq ?_
      refine GC.region ?_
      refine GL.val trivial rfl (OV.assign (v := .int .i64 4) rfl) ?_
      refine GL.nil ?_
      exact GC.ret (fun _ _ hf hs => post_tmp1 rfl rfl hf hs ⟨4, rfl, h⟩)
    · replace h := And.right h hc12
      refine GC.skip ?_
      refine GC.seq ?_
      refine GC.seq ?_
      refine GC.region ?_
      obtain ⟨x13, hr14, h⟩ := h
      refine GL.val trivial rfl (OV.loadT (p := (b1, 0)) (cs := T_api_Value.c x13) rfl rfl rfl hr14) ?_
      refine GL.call h trivial rfl ok_ref02_fits (vs := [.agg (T_api_Value.c x13).toArray]) rfl ?_
      rintro _ H16 ⟨r15, rfl, h⟩
      refine GL.val trivial rfl (OV.not rfl) ?_
      refine GL.nil ?_
      refine GC.cond (b := !r15) rfl (fun hc17 => ?_) (fun hc17 => ?_)
      · replace h := And.left h hc17
        refine GC.seq ?_
        refine GC.region ?_
        refine GL.val trivial rfl (OV.assign (v := .int .i64 40) rfl) ?_
        refine GL.nil ?_
        exact GC.ret (fun _ _ hf hs => post_tmp1 rfl rfl hf hs ⟨40, rfl, h⟩)
      · replace h := And.right h hc17
        refine GC.skip ?_
        refine GC.seq ?_
        refine GC.region ?_
        refine GL.val trivial rfl (OV.assign (v := .int .i64 0) rfl) ?_
        refine GL.nil ?_
        exact GC.ret (fun _ _ hf hs => post_tmp1 rfl rfl hf hs ⟨0, rfl, h⟩)

def sh_value_Show_1 (C : Ctx) (p_l : Sl) (v0 : Nat × Nat) (v1 : Nat × Nat) (K : Heap → Prop) (H : Heap) : Prop :=
  c_strings_Builder_WriteByte C (some v0) 40 (fun r1 H2 =>
 lp (α := Int) 0 H2 (fun x3 J4 H5 =>
 ift (decide ((x3 : Int) < (Sl.len p_l : Int)))
 (ixa p_l x3 fun p7 =>
 ldT H5 T_api_Value.c (p7.1, p7.2 + (x3 : Int).toNat * 4) fun x12 =>
 nw (T_api_Value.c T_api_Value.zero) (fun b14 H15 =>
 stT (b14, 0) (T_api_Value.c x12) (fun H16 =>
 jn (α := Unit) (fun x18 H19 =>
 ldV H19 v1 fun x25 =>
 ldT H19 T_api_Value.c (b14, 0) fun x27 =>
 callU Tryd.prog C x25 [.agg (T_api_Value.c x27).toArray] H19 (fun v H29 => v = .tuple #[] ∧
 J4 (w .i64 (x3 + 1)) H29))
 (fun J17 => ift (decide ((x3 : Int) > 0))
 (c_strings_Builder_WriteString C (some v0) [44, 32] (fun r22 r23 H24 =>
 J17 () H24) H16)
 (J17 () H16))) H15) H5)
 (c_strings_Builder_WriteByte C (some v0) 41 (fun r30 H31 =>
 K H31) H5))) H

theorem ad_value_Show_1 (C : Ctx) (p_l : Sl) (v0 : Nat × Nat) (v1 : Nat × Nat) (K : Heap → Prop) (H : Heap) (h : sh_value_Show_1 C p_l v0 v1 K H) : c_value_Show_1 C p_l v0 v1 K H := by
  refine Spec.enter Tryd.func31 rfl Tryd.ntmps31 rfl ?_
  refine GC.sub [(0, slv p_l), (1, pv (some v0)), (2, pv (some v1))] ⟨rfl, rfl, rfl, trivial⟩ ?_
  refine GC.seq ?_
  refine GC.region ?_
  refine GL.call h trivial rfl ok_strings_Builder_WriteByte (vs := [pv (some v0), .int .u8 40]) rfl ?_
  rintro _ H2 ⟨r1, rfl, h⟩
  refine GL.nil ?_
  refine GC.seq ?_
  refine GC.seq ?_
  refine GC.region ?_
  refine GL.val trivial rfl (OV.move (v := slv p_l) rfl) ?_
  refine GL.val trivial rfl (OV.lenSl (s := p_l) rfl rfl) ?_
  refine GL.val trivial rfl (OV.move (v := .int .i64 0) rfl) ?_
  refine GL.nil ?_
  refine GC.block ?_
  refine GC.loop (α := Int) h (fun x3 => [(9, .int .i64 x3), (1, pv (some v0)), (2, pv (some v1)), (7, slv p_l), (8, .int .i64 (Sl.len p_l : Int))]) ⟨rfl, rfl, rfl, rfl, rfl, trivial⟩ ?_
  intro x3 H5 J4 h
  refine GC.seq ?_
  refine GC.region ?_
  refine GL.val trivial rfl (OV.ibin (v := .bool (decide ((x3 : Int) < (Sl.len p_l : Int)))) rfl rfl rfl) ?_
  refine GL.nil ?_
  refine GC.seq ?_
  refine GC.cond (b := decide ((x3 : Int) < (Sl.len p_l : Int))) rfl (fun hc6 => ?_) (fun hc6 => ?_)
  · replace h := And.left h hc6
    refine GC.skip ?_
    refine GC.seq ?_
    refine GC.block ?_
    refine GC.seq ?_
    refine GC.region ?_
    refine GL.val trivial rfl (OV.move (v := .int .i64 x3) rfl) ?_
    obtain ⟨p7, ha8, hb9, hc10, hd11, h⟩ := h
    refine GL.val trivial rfl (OV.indexAddr (s := p_l) rfl rfl rfl rfl ha8 hb9 hc10 hd11) ?_
    obtain ⟨x12, hr13, h⟩ := h
    refine GL.val trivial rfl (OV.loadT (p := (p7.1, p7.2 + (x3 : Int).toNat * 4)) (cs := T_api_Value.c x12) rfl rfl rfl hr13) ?_
    refine GL.alloc (cs := T_api_Value.c T_api_Value.zero) h trivial rfl rfl rfl ?_
    intro b14 H15 h
    refine GL.val trivial rfl (OV.assign (v := .int .i64 x3) rfl) ?_
    refine GL.storeT (p := (b14, 0)) (vs := T_api_Value.c x12) h trivial rfl rfl rfl rfl ?_
    intro H16 h
    refine GL.nil ?_
    obtain ⟨J17, h, hR20⟩ := h
    refine GC.join (α := Unit) J17 (fun _ => [(1, pv (some v0)), (2, pv (some v1)), (5, pv (some (b14, 0))), (7, slv p_l), (8, .int .i64 (Sl.len p_l : Int)), (9, .int .i64 x3)]) ?_ ?_
    · skip
      refine GC.seq ?_
      refine GC.region ?_
      refine GL.val trivial rfl (OV.move (v := .int .i64 x3) rfl) ?_
      refine GL.val trivial rfl (OV.ibin (v := .bool (decide ((x3 : Int) > 0))) rfl rfl rfl) ?_
      refine GL.nil ?_
      refine GC.cond (b := decide ((x3 : Int) > 0)) rfl (fun hc21 => ?_) (fun hc21 => ?_)
      · replace h := And.left h hc21
        refine GC.region ?_
        refine GL.call h trivial rfl ok_strings_Builder_WriteString (vs := [pv (some v0), sv [44, 32]]) rfl ?_
        rintro _ H24 ⟨r22, r23, rfl, h⟩
        exact GL.jump (fun _ _ h => h) () h ⟨rfl, rfl, rfl, rfl, rfl, rfl, trivial⟩
      · replace h := And.right h hc21
        exact GC.jump (fun _ _ h => h) () h ⟨rfl, rfl, rfl, rfl, rfl, rfl, trivial⟩
    · intro x18 H19 h
      replace h := hR20 x18 H19 h
      refine GC.region ?_
      obtain ⟨x25, hr26, h⟩ := h
      refine GL.val trivial rfl (OV.load (p := v1) rfl rfl hr26) ?_
      obtain ⟨x27, hr28, h⟩ := h
      refine GL.val trivial rfl (OV.loadT (p := (b14, 0)) (cs := T_api_Value.c x27) rfl rfl rfl hr28) ?_
      refine GL.callU (xv := x25) (vs := [.agg (T_api_Value.c x27).toArray]) h trivial rfl rfl rfl ?_
      rintro _ H29 ⟨rfl, h⟩
      refine GL.nil_to (fun _ _ h => h) ?_
      refine GC.region ?_
      refine GL.val trivial rfl (OV.ibin (v := .int .i64 (w .i64 (x3 + 1))) rfl rfl rfl) ?_
      refine GL.val trivial rfl (OV.move (v := .int .i64 (w .i64 (x3 + 1))) rfl) ?_
      exact GL.jump (fun _ _ h => h) (w .i64 (x3 + 1)) h ⟨rfl, rfl, rfl, rfl, rfl, trivial⟩
  · replace h := And.right h hc6
    refine GC.exit_to (fun _ _ h => h) ?_
    refine GC.region ?_
    refine GL.call h trivial rfl ok_strings_Builder_WriteByte (vs := [pv (some v0), .int .u8 41]) rfl ?_
    rintro _ H31 ⟨r30, rfl, h⟩
    exact GL.ends (fun _ _ hf hs => post_tmp0 rfl hf hs ⟨rfl, h⟩)

def sh_strings_Builder_WriteByte (C : Ctx) (p_b : Option (Nat × Nat)) (p_c : Int) (K : Value → Heap → Prop) (H : Heap) : Prop :=
  c_strings_Builder_copyCheck C p_b (fun H1 =>
 nck p_b fun p2 =>
 ldL H1 (p2.1, p2.2 + 1) fun x4 =>
 apdG 5 ([.int .u8 0]) 1 x4 ([.int .u8 p_c]) 1 (fun r6 H7 =>
 nck p_b fun p8 =>
 sttG (p8.1, p8.2 + 1) (slv r6) (fun H10 =>
 K .nilIface H10) H7) H1) H

theorem ad_strings_Builder_WriteByte (C : Ctx) (p_b : Option (Nat × Nat)) (p_c : Int) (K : Value → Heap → Prop) (H : Heap) (h : sh_strings_Builder_WriteByte C p_b p_c K H) : c_strings_Builder_WriteByte C p_b p_c K H := by
  refine Spec.enter Tryd.func32 rfl Tryd.ntmps32 rfl ?_
  refine GC.sub [(0, pv p_b), (1, .int .u8 p_c)] ⟨rfl, rfl, trivial⟩ ?_
  refine GC.seq ?_
  refine GC.region ?_
  refine GL.val trivial rfl (OV.assign (v := .nilIface) rfl) ?_
  refine GL.nil ?_
  refine GC.seq ?_
  refine GC.region ?_
  refine GL.val trivial rfl (OV.move (v := pv p_b) rfl) ?_
  refine GL.call h trivial rfl ok_strings_Builder_copyCheck (vs := [pv p_b]) rfl ?_
  rintro _ H1 ⟨rfl, h⟩
  refine GL.nil ?_
  refine GC.seq ?_
  refine GC.region ?_
  refine GL.val trivial rfl (OV.move (v := pv p_b) rfl) ?_
  refine GL.val trivial rfl (OV.move (v := pv p_b) rfl) ?_
  obtain ⟨p2, hp3, h⟩ := h
  refine GL.val trivial rfl (OV.nilCheck (q := p_b) rfl hp3) ?_
  refine GL.val trivial rfl (OV.fieldAddr (p := p2) rfl rfl) ?_
  obtain ⟨x4, hr5, h⟩ := h
  refine GL.val trivial rfl (OV.load (p := (p2.1, p2.2 + 1)) rfl rfl hr5) ?_
  refine GL.val trivial rfl (OV.move (v := .int .u8 p_c) rfl) ?_
  refine GL.appendGLit (e := 5) (s := x4) (ys := [.int .u8 p_c]) (zc := [.int .u8 0]) (bytes := 1) h trivial rfl (fun _ => trivial) rfl (fun _ => rfl) (fun _ => rfl) (vs := [(0, .int .u8 p_c)]) rfl ⟨5, fun _ => by kernel_rfl⟩ ⟨⟨_, _, rfl, rfl, rfl, rfl, rfl, rfl⟩⟩ rfl rfl ?_
  intro _ r6 H7 h
  obtain ⟨p8, hp9, h⟩ := h
  refine GL.val trivial rfl (OV.nilCheck (q := p_b) rfl hp9) ?_
  refine GL.val trivial rfl (OV.fieldAddr (p := p8) rfl rfl) ?_
  refine GL.storeG (p := (p8.1, p8.2 + 1)) (v := slv r6) h trivial rfl rfl rfl rfl ?_
  intro H10 h
  refine GL.nil ?_
  refine GC.seq ?_
  refine GC.region ?_
  refine GL.val trivial rfl (OV.assign (v := .nilIface) rfl) ?_
  refine GL.nil ?_
  exact GC.ret (fun _ _ hf hs => post_tmp1 rfl rfl hf hs ⟨.nilIface, rfl, h⟩)

def sh_strings_Builder_WriteString (C : Ctx) (p_b : Option (Nat × Nat)) (p_s : Str) (K : Int → Value → Heap → Prop) (H : Heap) : Prop :=
  c_strings_Builder_copyCheck C p_b (fun H1 =>
 nck p_b fun p2 =>
 ldL H1 (p2.1, p2.2 + 1) fun x4 =>
 apdG 5 [.int .u8 0] 1 x4 (bytesV p_s) (List.length p_s) (fun r6 H7 =>
 nck p_b fun p8 =>
 sttG (p8.1, p8.2 + 1) (slv r6) (fun H10 =>
 K (List.length p_s : Int) .nilIface H10) H7) H1) H

theorem ad_strings_Builder_WriteString (C : Ctx) (p_b : Option (Nat × Nat)) (p_s : Str) (K : Int → Value → Heap → Prop) (H : Heap) (h : sh_strings_Builder_WriteString C p_b p_s K H) : c_strings_Builder_WriteString C p_b p_s K H := by
  refine Spec.enter Tryd.func33 rfl Tryd.ntmps33 rfl ?_
  refine GC.sub [(0, pv p_b), (1, sv p_s)] ⟨rfl, rfl, trivial⟩ ?_
  refine GC.seq ?_
  refine GC.region ?_
  refine GL.val trivial rfl (OV.assign (v := .int .i64 0) rfl) ?_
  refine GL.val trivial rfl (OV.assign (v := .nilIface) rfl) ?_
  refine GL.nil ?_
  refine GC.seq ?_
  refine GC.region ?_
  refine GL.val trivial rfl (OV.move (v := pv p_b) rfl) ?_
  refine GL.call h trivial rfl ok_strings_Builder_copyCheck (vs := [pv p_b]) rfl ?_
  rintro _ H1 ⟨rfl, h⟩
  refine GL.nil ?_
  refine GC.seq ?_
  refine GC.region ?_
  refine GL.val trivial rfl (OV.move (v := pv p_b) rfl) ?_
  refine GL.val trivial rfl (OV.move (v := pv p_b) rfl) ?_
  obtain ⟨p2, hp3, h⟩ := h
  refine GL.val trivial rfl (OV.nilCheck (q := p_b) rfl hp3) ?_
  refine GL.val trivial rfl (OV.fieldAddr (p := p2) rfl rfl) ?_
  obtain ⟨x4, hr5, h⟩ := h
  refine GL.val trivial rfl (OV.load (p := (p2.1, p2.2 + 1)) rfl rfl hr5) ?_
  refine GL.val trivial rfl (OV.move (v := sv p_s) rfl) ?_
  refine GL.appendGStr (e := 5) (s := x4) (u := p_s) (bytes := 1) h trivial rfl rfl rfl ⟨⟨_, _, rfl, rfl, rfl, rfl, rfl, rfl⟩⟩ rfl ?_
  intro r6 H7 h
  obtain ⟨p8, hp9, h⟩ := h
  refine GL.val trivial rfl (OV.nilCheck (q := p_b) rfl hp9) ?_
  refine GL.val trivial rfl (OV.fieldAddr (p := p8) rfl rfl) ?_
  refine GL.storeG (p := (p8.1, p8.2 + 1)) (v := slv r6) h trivial rfl rfl rfl rfl ?_
  intro H10 h
  refine GL.nil ?_
  refine GC.seq ?_
  refine GC.region ?_
  refine GL.val trivial rfl (OV.move (v := sv p_s) rfl) ?_
  refine GL.val trivial rfl (OV.lenStr (s := p_s) rfl rfl) ?_
  refine GL.val trivial rfl (OV.assign (v := .int .i64 (List.length p_s : Int)) rfl) ?_
  refine GL.val trivial rfl (OV.assign (v := .nilIface) rfl) ?_
  refine GL.nil ?_
  exact GC.ret (fun _ _ hf hs => post_tmp2 rfl rfl rfl hf hs ⟨(List.length p_s : Int), .nilIface, rfl, h⟩)

def sh_value_Show_2 (C : Ctx) (p_v : T_api_Value) (v0 : Nat × Nat) (v1 : Nat × Nat) (K : Heap → Prop) (H : Heap) : Prop :=
  nw (T_api_Value.c p_v) (fun b1 H2 =>
 ldI H2 .u8 ((b1, 0).1, (b1, 0).2 + 0) fun x3 =>
 ift ((x3 : Int) == 1)
 (ldI H2 .i64 ((b1, 0).1, (b1, 0).2 + 1) fun x6 =>
 c_strconv_FormatBool C ((x6 : Int) == 1) (fun r8 H9 =>
 c_strings_Builder_WriteString C (some v0) r8 (fun r10 r11 H12 =>
 K H12) H9) H2)
 (ift ((x3 : Int) == 2)
 (ldI H2 .i64 ((b1, 0).1, (b1, 0).2 + 1) fun x14 =>
 c_strconv_FormatInt C x14 10 (fun r16 H17 =>
 c_strings_Builder_WriteString C (some v0) r16 (fun r18 r19 H20 =>
 K H20) H17) H2)
 (ift ((x3 : Int) == 3)
 (ldS H2 ((b1, 0).1, (b1, 0).2 + 2) fun x22 =>
 c_strings_Builder_WriteString C (some v0) x22 (fun r24 r25 H26 =>
 c_strings_Builder_WriteByte C (some v0) 98 (fun r27 H28 =>
 K H28) H26) H2)
 (ift ((x3 : Int) == 4)
 (ldS H2 ((b1, 0).1, (b1, 0).2 + 2) fun x30 =>
 c_value_quote C (some v0) x30 (fun H32 =>
 K H32) H2)
 (ift ((x3 : Int) == 5)
 (ldV H2 v1 fun x34 =>
 ldL H2 ((b1, 0).1, (b1, 0).2 + 3) fun x36 =>
 callU Tryd.prog C x34 [slv x36] H2 (fun v H38 => v = .tuple #[] ∧
 K H38))
 (ldS H2 ((b1, 0).1, (b1, 0).2 + 2) fun x39 =>
 c_strings_Builder_WriteString C (some v0) x39 (fun r41 r42 H43 =>
 ldL H43 ((b1, 0).1, (b1, 0).2 + 3) fun x44 =>
 ift (decide (((Sl.len x44 : Int) : Int) > 0))
 (ldV H43 v1 fun x47 =>
 ldL H43 ((b1, 0).1, (b1, 0).2 + 3) fun x49 =>
 callU Tryd.prog C x47 [slv x49] H43 (fun v H51 => v = .tuple #[] ∧
 K H51))
 (K H43)) H2)))))) H

theorem ad_value_Show_2 (C : Ctx) (p_v : T_api_Value) (v0 : Nat × Nat) (v1 : Nat × Nat) (K : Heap → Prop) (H : Heap) (h : sh_value_Show_2 C p_v v0 v1 K H) : c_value_Show_2 C p_v v0 v1 K H := by
  refine Spec.enter Tryd.func34 rfl Tryd.ntmps34 rfl ?_
  refine GC.sub [(0, .agg (T_api_Value.c p_v).toArray), (1, pv (some v0)), (2, pv (some v1))] ⟨rfl, rfl, rfl, trivial⟩ ?_
  refine GC.seq ?_
  refine GC.region ?_
  refine GL.box (v := .agg (T_api_Value.c p_v).toArray) (cs := T_api_Value.c p_v) h trivial rfl rfl rfl ?_
  intro b1 H2 h
  refine GL.nil ?_
  refine GC.seq ?_
  refine GC.region ?_
  refine GL.val trivial rfl (OV.fieldAddr (p := (b1, 0)) rfl rfl) ?_
  obtain ⟨x3, hr4, h⟩ := h
  refine GL.val trivial rfl (OV.load (p := ((b1, 0).1, (b1, 0).2 + 0)) rfl rfl hr4) ?_
  refine GL.nil ?_
  refine GC.block ?_
  refine GC.seq ?_
  refine GC.region ?_
  refine GL.val trivial rfl (OV.ibin (v := .bool ((x3 : Int) == 1)) rfl rfl rfl) ?_
  refine GL.val trivial rfl (OV.assign (v := .bool ((x3 : Int) == 1)) rfl) ?_
  refine GL.nil ?_
  refine GC.cond (b := (x3 : Int) == 1) rfl (fun hc5 => ?_) (fun hc5 => ?_)
  · replace h := And.left h hc5
    refine GC.region ?_
    refine GL.val trivial rfl (OV.fieldAddr (p := (b1, 0)) rfl rfl) ?_
    obtain ⟨x6, hr7, h⟩ := h
    refine GL.val trivial rfl (OV.load (p := ((b1, 0).1, (b1, 0).2 + 1)) rfl rfl hr7) ?_
    refine GL.val trivial rfl (OV.ibin (v := .bool ((x6 : Int) == 1)) rfl rfl rfl) ?_
    refine GL.call h trivial rfl ok_strconv_FormatBool (vs := [.bool ((x6 : Int) == 1)]) rfl ?_
    rintro _ H9 ⟨r8, rfl, h⟩
    refine GL.call h trivial rfl ok_strings_Builder_WriteString (vs := [pv (some v0), sv r8]) rfl ?_
    rintro _ H12 ⟨r10, r11, rfl, h⟩
    exact GL.ends (fun _ _ hf hs => post_tmp0 rfl hf hs ⟨rfl, h⟩)
  · replace h := And.right h hc5
    refine GC.seq ?_
    refine GC.region ?_
    refine GL.val trivial rfl (OV.ibin (v := .bool ((x3 : Int) == 2)) rfl rfl rfl) ?_
    refine GL.val trivial rfl (OV.assign (v := .bool ((x3 : Int) == 2)) rfl) ?_
    refine GL.nil ?_
    refine GC.cond (b := (x3 : Int) == 2) rfl (fun hc13 => ?_) (fun hc13 => ?_)
    · replace h := And.left h hc13
      refine GC.region ?_
      refine GL.val trivial rfl (OV.fieldAddr (p := (b1, 0)) rfl rfl) ?_
      obtain ⟨x14, hr15, h⟩ := h
      refine GL.val trivial rfl (OV.load (p := ((b1, 0).1, (b1, 0).2 + 1)) rfl rfl hr15) ?_
      refine GL.call h trivial rfl ok_strconv_FormatInt (vs := [.int .i64 x14, .int .i64 10]) rfl ?_
      rintro _ H17 ⟨r16, rfl, h⟩
      refine GL.call h trivial rfl ok_strings_Builder_WriteString (vs := [pv (some v0), sv r16]) rfl ?_
      rintro _ H20 ⟨r18, r19, rfl, h⟩
      exact GL.ends (fun _ _ hf hs => post_tmp0 rfl hf hs ⟨rfl, h⟩)
    · replace h := And.right h hc13
      refine GC.seq ?_
      refine GC.region ?_
      refine GL.val trivial rfl (OV.ibin (v := .bool ((x3 : Int) == 3)) rfl rfl rfl) ?_
      refine GL.val trivial rfl (OV.assign (v := .bool ((x3 : Int) == 3)) rfl) ?_
      refine GL.nil ?_
      refine GC.cond (b := (x3 : Int) == 3) rfl (fun hc21 => ?_) (fun hc21 => ?_)
      · replace h := And.left h hc21
        refine GC.seq ?_
        refine GC.region ?_
        refine GL.val trivial rfl (OV.fieldAddr (p := (b1, 0)) rfl rfl) ?_
        obtain ⟨x22, hr23, h⟩ := h
        refine GL.val trivial rfl (OV.load (p := ((b1, 0).1, (b1, 0).2 + 2)) rfl rfl hr23) ?_
        refine GL.call h trivial rfl ok_strings_Builder_WriteString (vs := [pv (some v0), sv x22]) rfl ?_
        rintro _ H26 ⟨r24, r25, rfl, h⟩
        refine GL.nil ?_
        refine GC.region ?_
        refine GL.call h trivial rfl ok_strings_Builder_WriteByte (vs := [pv (some v0), .int .u8 98]) rfl ?_
        rintro _ H28 ⟨r27, rfl, h⟩
        exact GL.ends (fun _ _ hf hs => post_tmp0 rfl hf hs ⟨rfl, h⟩)
      · replace h := And.right h hc21
        refine GC.seq ?_
        refine GC.region ?_
        refine GL.val trivial rfl (OV.ibin (v := .bool ((x3 : Int) == 4)) rfl rfl rfl) ?_
        refine GL.val trivial rfl (OV.assign (v := .bool ((x3 : Int) == 4)) rfl) ?_
        refine GL.nil ?_
        refine GC.cond (b := (x3 : Int) == 4) rfl (fun hc29 => ?_) (fun hc29 => ?_)
        · replace h := And.left h hc29
          refine GC.region ?_
          refine GL.val trivial rfl (OV.fieldAddr (p := (b1, 0)) rfl rfl) ?_
          obtain ⟨x30, hr31, h⟩ := h
          refine GL.val trivial rfl (OV.load (p := ((b1, 0).1, (b1, 0).2 + 2)) rfl rfl hr31) ?_
          refine GL.call h trivial rfl ok_value_quote (vs := [pv (some v0), sv x30]) rfl ?_
          rintro _ H32 ⟨rfl, h⟩
          exact GL.ends (fun _ _ hf hs => post_tmp0 rfl hf hs ⟨rfl, h⟩)
        · replace h := And.right h hc29
          refine GC.seq ?_
          refine GC.region ?_
          refine GL.val trivial rfl (OV.ibin (v := .bool ((x3 : Int) == 5)) rfl rfl rfl) ?_
          refine GL.val trivial rfl (OV.assign (v := .bool ((x3 : Int) == 5)) rfl) ?_
          refine GL.nil ?_
          refine GC.cond (b := (x3 : Int) == 5) rfl (fun hc33 => ?_) (fun hc33 => ?_)
          · replace h := And.left h hc33
            refine GC.region ?_
            obtain ⟨x34, hr35, h⟩ := h
            refine GL.val trivial rfl (OV.load (p := v1) rfl rfl hr35) ?_
            refine GL.val trivial rfl (OV.fieldAddr (p := (b1, 0)) rfl rfl) ?_
            obtain ⟨x36, hr37, h⟩ := h
            refine GL.val trivial rfl (OV.load (p := ((b1, 0).1, (b1, 0).2 + 3)) rfl rfl hr37) ?_
            refine GL.callU (xv := x34) (vs := [slv x36]) h trivial rfl rfl rfl ?_
            rintro _ H38 ⟨rfl, h⟩
            exact GL.ends (fun _ _ hf hs => post_tmp0 rfl hf hs ⟨rfl, h⟩)
          · replace h := And.right h hc33
            refine GC.seq ?_
            refine GC.region ?_
            refine GL.val trivial rfl (OV.fieldAddr (p := (b1, 0)) rfl rfl) ?_
            obtain ⟨x39, hr40, h⟩ := h
            refine GL.val trivial rfl (OV.load (p := ((b1, 0).1, (b1, 0).2 + 2)) rfl rfl hr40) ?_
            refine GL.call h trivial rfl ok_strings_Builder_WriteString (vs := [pv (some v0), sv x39]) rfl ?_
            rintro _ H43 ⟨r41, r42, rfl, h⟩
            refine GL.nil ?_
            refine GC.seq ?_
            refine GC.region ?_
            refine GL.val trivial rfl (OV.fieldAddr (p := (b1, 0)) rfl rfl) ?_
            obtain ⟨x44, hr45, h⟩ := h
            refine GL.val trivial rfl (OV.load (p := ((b1, 0).1, (b1, 0).2 + 3)) rfl rfl hr45) ?_
            refine GL.val trivial rfl (OV.lenSl (s := x44) rfl rfl) ?_
            refine GL.val trivial rfl (OV.ibin (v := .bool (decide (((Sl.len x44 : Int) : Int) > 0))) rfl rfl rfl) ?_
            refine GL.nil ?_
            refine GC.cond (b := decide (((Sl.len x44 : Int) : Int) > 0)) rfl (fun hc46 => ?_) (fun hc46 => ?_)
            · replace h := And.left h hc46
              refine GC.region ?_
              obtain ⟨x47, hr48, h⟩ := h
              refine GL.val trivial rfl (OV.load (p := v1) rfl rfl hr48) ?_
              refine GL.val trivial rfl (OV.fieldAddr (p := (b1, 0)) rfl rfl) ?_
              obtain ⟨x49, hr50, h⟩ := h
              refine GL.val trivial rfl (OV.load (p := ((b1, 0).1, (b1, 0).2 + 3)) rfl rfl hr50) ?_
              refine GL.callU (xv := x47) (vs := [slv x49]) h trivial rfl rfl rfl ?_
              rintro _ H51 ⟨rfl, h⟩
              exact GL.ends (fun _ _ hf hs => post_tmp0 rfl hf hs ⟨rfl, h⟩)
            · replace h := And.right h hc46
              exact GC.ends (fun _ _ hf hs => post_tmp0 rfl hf hs ⟨rfl, h⟩)

def sh_strconv_FormatBool (C : Ctx) (p_b : Bool) (K : Str → Heap → Prop) (H : Heap) : Prop :=
  c_internal_strconv_FormatBool C p_b (fun r1 H2 =>
 K r1 H2) H

theorem ad_strconv_FormatBool (C : Ctx) (p_b : Bool) (K : Str → Heap → Prop) (H : Heap) (h : sh_strconv_FormatBool C p_b K H) : c_strconv_FormatBool C p_b K H := by
  refine Spec.enter Tryd.func35 rfl Tryd.ntmps35 rfl ?_
  refine GC.sub [(0, .bool p_b)] ⟨rfl, trivial⟩ ?_
  refine GC.seq ?_
  refine GC.region ?_
  refine GL.val trivial rfl (OV.assign (v := sv []) rfl) ?_
  refine GL.nil ?_
  refine GC.seq ?_
  refine GC.region ?_
  refine GL.val trivial rfl (OV.move (v := .bool p_b) rfl) ?_
  refine GL.call h trivial rfl ok_internal_strconv_FormatBool (vs := [.bool p_b]) rfl ?_
  rintro _ H2 ⟨r1, rfl, h⟩
  refine GL.val trivial rfl (OV.assign (v := sv r1) rfl) ?_
  refine GL.nil ?_
  exact GC.ret (fun _ _ hf hs => post_tmp1 rfl rfl hf hs ⟨r1, rfl, h⟩)

def sh_value_quote (C : Ctx) (p_b : Option (Nat × Nat)) (p_s : Str) (K : Heap → Prop) (H : Heap) : Prop :=
  c_strings_Builder_WriteByte C p_b 34 (fun r1 H2 =>
 lp (α := Int) 0 H2 (fun x3 J4 H5 =>
 ift (decide ((x3 : Int) < (List.length p_s : Int)))
 (jn (α := Unit) (fun x8 H9 =>
 J4 (w .i64 (x3 + 1)) H9)
 (fun J7 => ixs p_s x3 fun c11 =>
 ift ((((c11.toNat : Int) : Int) == 34) || (((c11.toNat : Int) : Int) == 92))
 (c_strings_Builder_WriteByte C p_b 92 (fun r16 H17 =>
 c_strings_Builder_WriteByte C p_b (c11.toNat : Int) (fun r18 H19 =>
 J7 () H19) H17) H5)
 (ift (((c11.toNat : Int) : Int) == 10)
 (c_strings_Builder_WriteString C p_b [92, 110] (fun r21 r22 H23 =>
 J7 () H23) H5)
 (ift (((c11.toNat : Int) : Int) == 9)
 (c_strings_Builder_WriteString C p_b [92, 116] (fun r25 r26 H27 =>
 J7 () H27) H5)
 (ift ((decide (((c11.toNat : Int) : Int) ≥ 32)) && (decide (((c11.toNat : Int) : Int) ≤ 126)))
 (c_strings_Builder_WriteByte C p_b (c11.toNat : Int) (fun r30 H31 =>
 J7 () H31) H5)
 (c_strings_Builder_WriteString C p_b [92, 120] (fun r32 r33 H34 =>
 ixs [48, 49, 50, 51, 52, 53, 54, 55, 56, 57, 97, 98, 99, 100, 101, 102] (sShr .u8 (c11.toNat : Int) 4) fun c35 =>
 c_strings_Builder_WriteByte C p_b (c35.toNat : Int) (fun r38 H39 =>
 ixs [48, 49, 50, 51, 52, 53, 54, 55, 56, 57, 97, 98, 99, 100, 101, 102] (bAnd .u8 (c11.toNat : Int) 15) fun c40 =>
 c_strings_Builder_WriteByte C p_b (c40.toNat : Int) (fun r43 H44 =>
 J7 () H44) H39) H34) H5))))))
 (c_strings_Builder_WriteByte C p_b 34 (fun r45 H46 =>
 K H46) H5))) H

theorem ad_value_quote (C : Ctx) (p_b : Option (Nat × Nat)) (p_s : Str) (K : Heap → Prop) (H : Heap) (h : sh_value_quote C p_b p_s K H) : c_value_quote C p_b p_s K H := by
  refine Spec.enter Tryd.func37 rfl Tryd.ntmps37 rfl ?_
  refine GC.sub [(0, pv p_b), (1, sv p_s)] ⟨rfl, rfl, trivial⟩ ?_
  refine GC.seq ?_
  refine GC.region ?_
  refine GL.val trivial rfl (OV.move (v := pv p_b) rfl) ?_
  refine GL.call h trivial rfl ok_strings_Builder_WriteByte (vs := [pv p_b, .int .u8 34]) rfl ?_
  rintro _ H2 ⟨r1, rfl, h⟩
  refine GL.nil ?_
  refine GC.seq ?_
  refine GC.seq ?_
  refine GC.region ?_
  refine GL.val trivial rfl (OV.move (v := sv p_s) rfl) ?_
  refine GL.val trivial rfl (OV.lenStr (s := p_s) rfl rfl) ?_
  refine GL.val trivial rfl (OV.move (v := .int .i64 0) rfl) ?_
  refine GL.nil ?_
  refine GC.block ?_
  refine GC.loop (α := Int) h (fun x3 => [(10, .int .i64 x3), (0, pv p_b), (1, sv p_s), (9, .int .i64 (List.length p_s : Int))]) ⟨rfl, rfl, rfl, rfl, trivial⟩ ?_
  intro x3 H5 J4 h
  refine GC.seq ?_
  refine GC.region ?_
  refine GL.val trivial rfl (OV.ibin (v := .bool (decide ((x3 : Int) < (List.length p_s : Int)))) rfl rfl rfl) ?_
  refine GL.nil ?_
  refine GC.seq ?_
  refine GC.cond (b := decide ((x3 : Int) < (List.length p_s : Int))) rfl (fun hc6 => ?_) (fun hc6 => ?_)
  · replace h := And.left h hc6
    refine GC.skip ?_
    obtain ⟨J7, h, hR10⟩ := h
    refine GC.join (α := Unit) J7 (fun _ => [(0, pv p_b), (1, sv p_s), (9, .int .i64 (List.length p_s : Int)), (10, .int .i64 x3)]) ?_ ?_
    · skip
      refine GC.block ?_
      refine GC.seq ?_
      refine GC.region ?_
      refine GL.val trivial rfl (OV.move (v := .int .i64 x3) rfl) ?_
      refine GL.val trivial rfl (OV.assign (v := .int .i64 x3) rfl) ?_
      refine GL.nil ?_
      refine GC.seq ?_
      refine GC.region ?_
      refine GL.val trivial rfl (OV.move (v := sv p_s) rfl) ?_
      refine GL.val trivial rfl (OV.move (v := .int .i64 x3) rfl) ?_
      obtain ⟨c11, ha12, hb13, h⟩ := h
      refine GL.val trivial rfl (OV.indexStr (s := p_s) rfl rfl rfl ha12 hb13) ?_
      refine GL.val trivial rfl (OV.assign (v := .int .u8 (c11.toNat : Int)) rfl) ?_
      refine GL.nil ?_
      refine GC.block ?_
      refine GC.seq ?_
      refine GC.region ?_
      refine GL.val trivial rfl (OV.move (v := .int .u8 (c11.toNat : Int)) rfl) ?_
      refine GL.val trivial rfl (OV.ibin (v := .bool (((c11.toNat : Int) : Int) == 34)) rfl rfl rfl) ?_
      refine GL.val trivial rfl (OV.move (v := .bool (((c11.toNat : Int) : Int) == 34)) rfl) ?_
      refine GL.cut0 3 [(34, .bool ((((c11.toNat : Int) : Int) == 34) || (((c11.toNat : Int) : Int) == 92))), (0, pv p_b), (1, sv p_s), (5, .int .u8 (c11.toNat : Int)), (9, .int .i64 (List.length p_s : Int)), (10, .int .i64 x3)] ?_ ?_
      · rcases Bool.eq_false_or_eq_true (((c11.toNat : Int) : Int) == 34) with hc14 | hc14
        · skip
          refine GL.skip ⟨_, rfl, .inl ⟨_, rfl, hc14⟩⟩ rfl ?_
          refine GL.skip ⟨_, rfl, .inl ⟨_, rfl, hc14⟩⟩ rfl ?_
          refine GL.val trivial rfl (OV.pickT (b := ((c11.toNat : Int) : Int) == 34) (v := .bool true) rfl hc14 rfl) ?_
          exact GL.jump0 (fun _ _ h => h) () rfl ⟨(by rw [hc14]; rfl), rfl, rfl, rfl, rfl, rfl, trivial⟩
        · skip
          refine GL.val ⟨_, _, rfl, rfl, hc14⟩ rfl (OV.move (v := .int .u8 (c11.toNat : Int)) rfl) ?_
          refine GL.val ⟨_, _, rfl, rfl, hc14⟩ rfl (OV.ibin (v := .bool (((c11.toNat : Int) : Int) == 92)) rfl rfl rfl) ?_
          refine GL.val trivial rfl (OV.pickF (b := ((c11.toNat : Int) : Int) == 34) (v := .bool (((c11.toNat : Int) : Int) == 92)) rfl hc14 rfl) ?_
          exact GL.jump0 (fun _ _ h => h) () rfl ⟨(by rw [hc14]; rfl), rfl, rfl, rfl, rfl, rfl, trivial⟩
      refine GL.val trivial rfl (OV.assign (v := .bool ((((c11.toNat : Int) : Int) == 34) || (((c11.toNat : Int) : Int) == 92))) rfl) ?_
      refine GL.nil ?_
      refine GC.cond (b := (((c11.toNat : Int) : Int) == 34) || (((c11.toNat : Int) : Int) == 92)) rfl (fun hc15 => ?_) (fun hc15 => ?_)
      · replace h := And.left h hc15
        refine GC.seq ?_
        refine GC.region ?_
        refine GL.val trivial rfl (OV.move (v := pv p_b) rfl) ?_
        refine GL.call h trivial rfl ok_strings_Builder_WriteByte (vs := [pv p_b, .int .u8 92]) rfl ?_
        rintro _ H17 ⟨r16, rfl, h⟩
        refine GL.nil ?_
        refine GC.region ?_
        refine GL.val trivial rfl (OV.move (v := pv p_b) rfl) ?_
        refine GL.val trivial rfl (OV.move (v := .int .u8 (c11.toNat : Int)) rfl) ?_
        refine GL.call h trivial rfl ok_strings_Builder_WriteByte (vs := [pv p_b, .int .u8 (c11.toNat : Int)]) rfl ?_
        rintro _ H19 ⟨r18, rfl, h⟩
        exact GL.jump (fun _ _ h => h) () h ⟨rfl, rfl, rfl, rfl, trivial⟩
      · replace h := And.right h hc15
        refine GC.seq ?_
        refine GC.region ?_
        refine GL.val trivial rfl (OV.move (v := .int .u8 (c11.toNat : Int)) rfl) ?_
        refine GL.val trivial rfl (OV.ibin (v := .bool (((c11.toNat : Int) : Int) == 10)) rfl rfl rfl) ?_
        refine GL.val trivial rfl (OV.assign (v := .bool (((c11.toNat : Int) : Int) == 10)) rfl) ?_
        refine GL.nil ?_
        refine GC.cond (b := ((c11.toNat : Int) : Int) == 10) rfl (fun hc20 => ?_) (fun hc20 => ?_)
        · replace h := And.left h hc20
          refine GC.region ?_
          refine GL.val trivial rfl (OV.move (v := pv p_b) rfl) ?_
          refine GL.call h trivial rfl ok_strings_Builder_WriteString (vs := [pv p_b, sv [92, 110]]) rfl ?_
          rintro _ H23 ⟨r21, r22, rfl, h⟩
          exact GL.jump (fun _ _ h => h) () h ⟨rfl, rfl, rfl, rfl, trivial⟩
        · replace h := And.right h hc20
          refine GC.seq ?_
          refine GC.region ?_
          refine GL.val trivial rfl (OV.move (v := .int .u8 (c11.toNat : Int)) rfl) ?_
          refine GL.val trivial rfl (OV.ibin (v := .bool (((c11.toNat : Int) : Int) == 9)) rfl rfl rfl) ?_
          refine GL.val trivial rfl (OV.assign (v := .bool (((c11.toNat : Int) : Int) == 9)) rfl) ?_
          refine GL.nil ?_
          refine GC.cond (b := ((c11.toNat : Int) : Int) == 9) rfl (fun hc24 => ?_) (fun hc24 => ?_)
          · replace h := And.left h hc24
            refine GC.region ?_
            refine GL.val trivial rfl (OV.move (v := pv p_b) rfl) ?_
            refine GL.call h trivial rfl ok_strings_Builder_WriteString (vs := [pv p_b, sv [92, 116]]) rfl ?_
            rintro _ H27 ⟨r25, r26, rfl, h⟩
            exact GL.jump (fun _ _ h => h) () h ⟨rfl, rfl, rfl, rfl, trivial⟩
          · replace h := And.right h hc24
            refine GC.seq ?_
            refine GC.region ?_
            refine GL.val trivial rfl (OV.move (v := .int .u8 (c11.toNat : Int)) rfl) ?_
            refine GL.val trivial rfl (OV.ibin (v := .bool (decide (((c11.toNat : Int) : Int) ≥ 32))) rfl rfl rfl) ?_
            refine GL.val trivial rfl (OV.move (v := .bool (decide (((c11.toNat : Int) : Int) ≥ 32))) rfl) ?_
            refine GL.cut0 3 [(56, .bool ((decide (((c11.toNat : Int) : Int) ≥ 32)) && (decide (((c11.toNat : Int) : Int) ≤ 126)))), (0, pv p_b), (1, sv p_s), (5, .int .u8 (c11.toNat : Int)), (9, .int .i64 (List.length p_s : Int)), (10, .int .i64 x3)] ?_ ?_
            · rcases Bool.eq_false_or_eq_true (decide (((c11.toNat : Int) : Int) ≥ 32)) with hc28 | hc28
              · skip
                refine GL.val ⟨_, _, rfl, rfl, hc28⟩ rfl (OV.move (v := .int .u8 (c11.toNat : Int)) rfl) ?_
                refine GL.val ⟨_, _, rfl, rfl, hc28⟩ rfl (OV.ibin (v := .bool (decide (((c11.toNat : Int) : Int) ≤ 126))) rfl rfl rfl) ?_
                refine GL.val trivial rfl (OV.pickT (b := decide (((c11.toNat : Int) : Int) ≥ 32)) (v := .bool (decide (((c11.toNat : Int) : Int) ≤ 126))) rfl hc28 rfl) ?_
                exact GL.jump0 (fun _ _ h => h) () rfl ⟨(by rw [hc28]; rfl), rfl, rfl, rfl, rfl, rfl, trivial⟩
              · skip
                refine GL.skip ⟨_, rfl, .inl ⟨_, rfl, hc28⟩⟩ rfl ?_
                refine GL.skip ⟨_, rfl, .inl ⟨_, rfl, hc28⟩⟩ rfl ?_
                refine GL.val trivial rfl (OV.pickF (b := decide (((c11.toNat : Int) : Int) ≥ 32)) (v := .bool false) rfl hc28 rfl) ?_
                exact GL.jump0 (fun _ _ h => h) () rfl ⟨(by rw [hc28]; rfl), rfl, rfl, rfl, rfl, rfl, trivial⟩
            refine GL.val trivial rfl (OV.assign (v := .bool ((decide (((c11.toNat : Int) : Int) ≥ 32)) && (decide (((c11.toNat : Int) : Int) ≤ 126)))) rfl) ?_
            refine GL.nil ?_
            refine GC.cond (b := (decide (((c11.toNat : Int) : Int) ≥ 32)) && (decide (((c11.toNat : Int) : Int) ≤ 126))) rfl (fun hc29 => ?_) (fun hc29 => ?_)
            · replace h := And.left h hc29
              refine GC.region ?_
              refine GL.val trivial rfl (OV.move (v := pv p_b) rfl) ?_
              refine GL.val trivial rfl (OV.move (v := .int .u8 (c11.toNat : Int)) rfl) ?_
              refine GL.call h trivial rfl ok_strings_Builder_WriteByte (vs := [pv p_b, .int .u8 (c11.toNat : Int)]) rfl ?_
              rintro _ H31 ⟨r30, rfl, h⟩
              exact GL.jump (fun _ _ h => h) () h ⟨rfl, rfl, rfl, rfl, trivial⟩
            · replace h := And.right h hc29
              refine GC.seq ?_
              refine GC.region ?_
              refine GL.val trivial rfl (OV.move (v := pv p_b) rfl) ?_
              refine GL.call h trivial rfl ok_strings_Builder_WriteString (vs := [pv p_b, sv [92, 120]]) rfl ?_
              rintro _ H34 ⟨r32, r33, rfl, h⟩
              refine GL.nil ?_
              refine GC.seq ?_
              refine GC.region ?_
              refine GL.val trivial rfl (OV.move (v := pv p_b) rfl) ?_
              refine GL.val trivial rfl (OV.move (v := .int .u8 (c11.toNat : Int)) rfl) ?_
              refine GL.val trivial rfl (OV.shr rfl rfl (by decide)) ?_
              obtain ⟨c35, ha36, hb37, h⟩ := h
              refine GL.val trivial rfl (OV.indexStr (s := [48, 49, 50, 51, 52, 53, 54, 55, 56, 57, 97, 98, 99, 100, 101, 102]) rfl rfl rfl ha36 hb37) ?_
              refine GL.call h trivial rfl ok_strings_Builder_WriteByte (vs := [pv p_b, .int .u8 (c35.toNat : Int)]) rfl ?_
              rintro _ H39 ⟨r38, rfl, h⟩
              refine GL.nil ?_
              refine GC.region ?_
              refine GL.val trivial rfl (OV.move (v := pv p_b) rfl) ?_
              refine GL.val trivial rfl (OV.move (v := .int .u8 (c11.toNat : Int)) rfl) ?_
              refine GL.val trivial rfl (OV.ibin (v := .int .u8 (bAnd .u8 (c11.toNat : Int) 15)) rfl rfl rfl) ?_
              obtain ⟨c40, ha41, hb42, h⟩ := h
              refine GL.val trivial rfl (OV.indexStr (s := [48, 49, 50, 51, 52, 53, 54, 55, 56, 57, 97, 98, 99, 100, 101, 102]) rfl rfl rfl ha41 hb42) ?_
              refine GL.call h trivial rfl ok_strings_Builder_WriteByte (vs := [pv p_b, .int .u8 (c40.toNat : Int)]) rfl ?_
              rintro _ H44 ⟨r43, rfl, h⟩
              exact GL.jump (fun _ _ h => h) () h ⟨rfl, rfl, rfl, rfl, trivial⟩
    · intro x8 H9 h
      replace h := hR10 x8 H9 h
      refine GC.region ?_
      refine GL.val trivial rfl (OV.ibin (v := .int .i64 (w .i64 (x3 + 1))) rfl rfl rfl) ?_
      refine GL.val trivial rfl (OV.move (v := .int .i64 (w .i64 (x3 + 1))) rfl) ?_
      exact GL.jump (fun _ _ h => h) (w .i64 (x3 + 1)) h ⟨rfl, rfl, rfl, rfl, trivial⟩
  · replace h := And.right h hc6
    refine GC.exit_to (fun _ _ h => h) ?_
    refine GC.region ?_
    refine GL.val trivial rfl (OV.move (v := pv p_b) rfl) ?_
    refine GL.call h trivial rfl ok_strings_Builder_WriteByte (vs := [pv p_b, .int .u8 34]) rfl ?_
    rintro _ H46 ⟨r45, rfl, h⟩
    exact GL.ends (fun _ _ hf hs => post_tmp0 rfl hf hs ⟨rfl, h⟩)

def sh_strings_Builder_String (C : Ctx) (p_b : Option (Nat × Nat)) (K : Str → Heap → Prop) (H : Heap) : Prop :=
  dr H fun Hs1 =>
 nck p_b fun p3 =>
 ldL Hs1 (p3.1, p3.2 + 1) fun x5 =>
 ((Sl.p x5 = none ∨ Sl.cap x5 ≠ 0) ∧ Sl.x x5 = none) ∧
 nck p_b fun p9 =>
 ldL Hs1 (p9.1, p9.2 + 1) fun x11 =>
 ust 5 (Sl.p x5) (Sl.len x11 : Int) (fun r14 H15 =>
 Heap.le Hs1 H15 ∧
 K r14 H15) H

theorem ad_strings_Builder_String (C : Ctx) (p_b : Option (Nat × Nat)) (K : Str → Heap → Prop) (H : Heap) (h : sh_strings_Builder_String C p_b K H) : c_strings_Builder_String C p_b K H := by
  refine Spec.enter Tryd.func38 rfl Tryd.ntmps38 rfl ?_
  refine GC.sub [(0, pv p_b)] ⟨rfl, trivial⟩ ?_
  refine GC.seq ?_
  refine GC.region ?_
  refine GL.val trivial rfl (OV.assign (v := sv []) rfl) ?_
  refine GL.nil ?_
  refine GC.seq ?_
  obtain ⟨Hs1, hle2, h⟩ := h
  refine GC.any (Hs := Hs1) (by kernel_rfl) hle2 ?_
  refine GA.take 0 rfl (by kernel_rfl) (by kernel_rfl) (by kernel_rfl) (fun _ _ _ h => False.elim h) trivial rfl (OV.move (v := pv p_b) rfl) ?_
  obtain ⟨p3, hp4, h⟩ := h
  refine GA.take 1 rfl (by kernel_rfl) (by kernel_rfl) (by kernel_rfl) (fun _ _ _ h => False.elim h) trivial rfl (OV.nilCheck (q := p_b) rfl hp4) ?_
  refine GA.take 2 rfl (by kernel_rfl) (by kernel_rfl) (by kernel_rfl) (fun _ _ _ h => False.elim h) trivial rfl (OV.fieldAddr (p := p3) rfl rfl) ?_
  obtain ⟨x5, hr6, h⟩ := h
  refine GA.take 3 rfl (by kernel_rfl) (by kernel_rfl) (by kernel_rfl) (fun _ _ _ h => False.elim h) trivial rfl (OV.load (p := (p3.1, p3.2 + 1)) rfl rfl hr6) ?_
  obtain ⟨⟨h7, h8⟩, h⟩ := h
  refine GA.take 4 rfl (by kernel_rfl) (by kernel_rfl) (by kernel_rfl) (fun _ _ _ h => False.elim h) trivial rfl (OV.usd (s := x5) h7 h8 rfl) ?_
  refine GA.take 5 rfl (by kernel_rfl) (by kernel_rfl) (by kernel_rfl) (fun _ _ _ h => False.elim h) trivial rfl (OV.move (v := pv p_b) rfl) ?_
  obtain ⟨p9, hp10, h⟩ := h
  refine GA.take 6 rfl (by kernel_rfl) (by kernel_rfl) (by kernel_rfl) (fun _ _ _ h => False.elim h) trivial rfl (OV.nilCheck (q := p_b) rfl hp10) ?_
  refine GA.take 7 rfl (by kernel_rfl) (by kernel_rfl) (by kernel_rfl) (fun _ _ _ h => False.elim h) trivial rfl (OV.fieldAddr (p := p9) rfl rfl) ?_
  obtain ⟨x11, hr12, h⟩ := h
  refine GA.take 8 rfl (by kernel_rfl) (by kernel_rfl) (by kernel_rfl) (fun _ _ _ h => False.elim h) trivial rfl (OV.load (p := (p9.1, p9.2 + 1)) rfl rfl hr12) ?_
  refine GA.take 9 rfl (by kernel_rfl) (by kernel_rfl) (by kernel_rfl) (fun _ _ _ h => False.elim h) trivial rfl (OV.lenSl (s := x11) rfl rfl) ?_
  refine GA.eff 10 rfl (by kernel_rfl) ?_
  refine GL.ust (e := 5) (p := (Sl.p x5)) (m := (Sl.len x11 : Int)) h trivial rfl rfl rfl rfl (by kernel_rfl) ?_
  intro r14 H15 h
  obtain ⟨hle13, h⟩ := h
  refine GA.back hle13 ?_
  refine GA.take 11 rfl (by kernel_rfl) (by kernel_rfl) (by kernel_rfl) (fun _ _ _ h => False.elim h) trivial rfl (OV.assign (v := sv r14) rfl) ?_
  refine GA.done (by kernel_rfl) ?_
  refine GL.nil ?_
  exact GC.ret (fun _ _ hf hs => post_tmp1 rfl rfl hf hs ⟨r14, rfl, h⟩)

def sh_value_number (C : Ctx) (p_s : Str) (K : Int → Bool → Heap → Prop) (H : Heap) : Prop :=
  c_strings_TrimPrefix C p_s [45] (fun r1 H2 =>
 jn (α := Bool) (fun b3 H9 =>
 jn (α := Bool) (fun b10 H18 =>
 ift b10
 (K 0 false H18)
 (K (List.length r1 : Int) true H18))
 (fun J11 => ift b3
 (J11 true H9)
 (ixs r1 0 fun c14 =>
 J11 ((((c14.toNat : Int) : Int) == 48) && (!(p_s == ([48] : Str)))) H9)))
 (fun J4 => ift (r1 == ([] : Str))
 (J4 true H2)
 (c_strings_Trim C r1 [48, 49, 50, 51, 52, 53, 54, 55, 56, 57] (fun r7 H8 =>
 J4 (!(r7 == ([] : Str))) H8) H2))) H

theorem ad_value_number (C : Ctx) (p_s : Str) (K : Int → Bool → Heap → Prop) (H : Heap) (h : sh_value_number C p_s K H) : c_value_number C p_s K H := by
  refine Spec.enter Tryd.func39 rfl Tryd.ntmps39 rfl ?_
  refine GC.sub [(0, sv p_s)] ⟨rfl, trivial⟩ ?_
  refine GC.seq ?_
  refine GC.region ?_
  refine GL.val trivial rfl (OV.assign (v := .int .i64 0) rfl) ?_
  refine GL.val trivial rfl (OV.assign (v := .bool false) rfl) ?_
  refine GL.nil ?_
  refine GC.seq ?_
  refine GC.region ?_
  refine GL.val trivial rfl (OV.move (v := sv p_s) rfl) ?_
  refine GL.call h trivial rfl ok_strings_TrimPrefix (vs := [sv p_s, sv [45]]) rfl ?_
  rintro _ H2 ⟨r1, rfl, h⟩
  refine GL.val trivial rfl (OV.assign (v := sv r1) rfl) ?_
  refine GL.nil ?_
  refine GC.seq ?_
  refine GC.seq ?_
  refine GC.region ?_
  refine GL.val trivial rfl (OV.move (v := sv r1) rfl) ?_
  refine GL.val trivial rfl (OV.sbin (a := r1) (b := ([] : Str)) (v := .bool (r1 == ([] : Str))) rfl rfl rfl) ?_
  refine GL.val trivial rfl (OV.move (v := .bool (r1 == ([] : Str))) rfl) ?_
  obtain ⟨J4, h, hR5⟩ := h
  refine GL.cut (α := Bool) 4 J4 (fun b3 => [(13, .bool b3), (0, sv p_s), (4, sv r1)]) ?_ ?_
  · rcases Bool.eq_false_or_eq_true (r1 == ([] : Str)) with hc6 | hc6
    · skip
      replace h := And.left h hc6
      refine GL.skip ⟨_, rfl, .inl ⟨_, rfl, hc6⟩⟩ rfl ?_
      refine GL.skip ⟨_, rfl, .inl ⟨_, rfl, hc6⟩⟩ rfl ?_
      refine GL.skip ⟨_, rfl, .inl ⟨_, rfl, hc6⟩⟩ rfl ?_
      refine GL.val trivial rfl (OV.pickT (b := r1 == ([] : Str)) (v := .bool true) rfl hc6 rfl) ?_
      exact GL.jump (fun _ _ h => h) true h ⟨rfl, rfl, rfl, trivial⟩
    · skip
      replace h := And.right h hc6
      refine GL.val ⟨_, _, rfl, rfl, hc6⟩ rfl (OV.move (v := sv r1) rfl) ?_
      refine GL.call h ⟨_, _, rfl, rfl, hc6⟩ rfl ok_strings_Trim (vs := [sv r1, sv [48, 49, 50, 51, 52, 53, 54, 55, 56, 57]]) rfl ?_
      rintro _ H8 ⟨r7, rfl, h⟩
      refine GL.val ⟨_, _, rfl, rfl, hc6⟩ rfl (OV.sbin (a := r7) (b := ([] : Str)) (v := .bool (!(r7 == ([] : Str)))) rfl rfl rfl) ?_
      refine GL.val trivial rfl (OV.pickF (b := r1 == ([] : Str)) (v := .bool (!(r7 == ([] : Str)))) rfl hc6 rfl) ?_
      exact GL.jump (fun _ _ h => h) (!(r7 == ([] : Str))) h ⟨rfl, rfl, rfl, trivial⟩
  intro b3 H9 h
  replace h := hR5 b3 H9 h
  refine GL.val trivial rfl (OV.move (v := .bool b3) rfl) ?_
  obtain ⟨J11, h, hR12⟩ := h
  refine GL.cut (α := Bool) 8 J11 (fun b10 => [(22, .bool b10), (4, sv r1)]) ?_ ?_
  · rcases Bool.eq_false_or_eq_true b3 with hc13 | hc13
    · skip
      replace h := And.left h hc13
      refine GL.skip ⟨_, rfl, .inl ⟨_, rfl, hc13⟩⟩ rfl ?_
      refine GL.skip ⟨_, rfl, .inl ⟨_, rfl, hc13⟩⟩ rfl ?_
      refine GL.skip ⟨_, rfl, .inl ⟨_, rfl, hc13⟩⟩ rfl ?_
      refine GL.skip ⟨_, rfl, .inl ⟨_, rfl, hc13⟩⟩ rfl ?_
      refine GL.skip ⟨_, rfl, .inr rfl⟩ rfl ?_
      refine GL.skip ⟨_, rfl, .inr rfl⟩ rfl ?_
      refine GL.skip ⟨_, rfl, .inl ⟨_, rfl, hc13⟩⟩ rfl ?_
      refine GL.val trivial rfl (OV.pickT (b := b3) (v := .bool true) rfl hc13 rfl) ?_
      exact GL.jump (fun _ _ h => h) true h ⟨rfl, rfl, trivial⟩
    · skip
      replace h := And.right h hc13
      refine GL.val ⟨_, _, rfl, rfl, hc13⟩ rfl (OV.move (v := sv r1) rfl) ?_
      obtain ⟨c14, ha15, hb16, h⟩ := h
      refine GL.val ⟨_, _, rfl, rfl, hc13⟩ rfl (OV.indexStr (s := r1) rfl rfl rfl ha15 hb16) ?_
      refine GL.val ⟨_, _, rfl, rfl, hc13⟩ rfl (OV.ibin (v := .bool (((c14.toNat : Int) : Int) == 48)) rfl rfl rfl) ?_
      refine GL.val ⟨_, _, rfl, rfl, hc13⟩ rfl (OV.move (v := .bool (((c14.toNat : Int) : Int) == 48)) rfl) ?_
      refine GL.cut0 3 [(21, .bool ((((c14.toNat : Int) : Int) == 48) && (!(p_s == ([48] : Str))))), (4, sv r1), (14, .bool b3)] ?_ ?_
      · rcases Bool.eq_false_or_eq_true (((c14.toNat : Int) : Int) == 48) with hc17 | hc17
        · skip
          refine GL.val ⟨_, _, rfl, rfl, hc17⟩ rfl (OV.move (v := sv p_s) rfl) ?_
          refine GL.val ⟨_, _, rfl, rfl, hc17⟩ rfl (OV.sbin (a := p_s) (b := ([48] : Str)) (v := .bool (!(p_s == ([48] : Str)))) rfl rfl rfl) ?_
          refine GL.val ⟨_, _, rfl, rfl, hc13⟩ rfl (OV.pickT (b := ((c14.toNat : Int) : Int) == 48) (v := .bool (!(p_s == ([48] : Str)))) rfl hc17 rfl) ?_
          exact GL.jump0 (fun _ _ h => h) () rfl ⟨(by rw [hc17]; rfl), rfl, rfl, trivial⟩
        · skip
          refine GL.skip ⟨_, rfl, .inl ⟨_, rfl, hc17⟩⟩ rfl ?_
          refine GL.skip ⟨_, rfl, .inl ⟨_, rfl, hc17⟩⟩ rfl ?_
          refine GL.val ⟨_, _, rfl, rfl, hc13⟩ rfl (OV.pickF (b := ((c14.toNat : Int) : Int) == 48) (v := .bool false) rfl hc17 rfl) ?_
          exact GL.jump0 (fun _ _ h => h) () rfl ⟨(by rw [hc17]; rfl), rfl, rfl, trivial⟩
      refine GL.val trivial rfl (OV.pickF (b := b3) (v := .bool ((((c14.toNat : Int) : Int) == 48) && (!(p_s == ([48] : Str))))) rfl hc13 rfl) ?_
      exact GL.jump (fun _ _ h => h) ((((c14.toNat : Int) : Int) == 48) && (!(p_s == ([48] : Str)))) h ⟨rfl, rfl, trivial⟩
  intro b10 H18 h
  replace h := hR12 b10 H18 h
  refine GL.nil ?_
  refine GC.cond (b := b10) rfl (fun hc19 => ?_) (fun hc19 => ?_)
  · replace h := And.left h hc19
    refine GC.seq ?_
    refine GC.region ?_
    refine GL.val trivial rfl (OV.assign (v := .int .i64 0) rfl) ?_
    refine GL.val trivial rfl (OV.assign (v := .bool false) rfl) ?_
    refine GL.nil ?_
    exact GC.ret (fun _ _ hf hs => post_tmp2 rfl rfl rfl hf hs ⟨0, false, rfl, h⟩)
  · replace h := And.right h hc19
    refine GC.skip ?_
    refine GC.seq ?_
    refine GC.region ?_
    refine GL.val trivial rfl (OV.move (v := sv r1) rfl) ?_
    refine GL.val trivial rfl (OV.lenStr (s := r1) rfl rfl) ?_
    refine GL.val trivial rfl (OV.assign (v := .int .i64 (List.length r1 : Int)) rfl) ?_
    refine GL.val trivial rfl (OV.assign (v := .bool true) rfl) ?_
    refine GL.nil ?_
    exact GC.ret (fun _ _ hf hs => post_tmp2 rfl rfl rfl hf hs ⟨(List.length r1 : Int), true, rfl, h⟩)

def sh_strings_Cut (C : Ctx) (p_s : Str) (p_sep : Str) (K : Str → Str → Bool → Heap → Prop) (H : Heap) : Prop :=
  c_internal_stringslite_Cut C p_s p_sep (fun r1 r2 r3 H4 =>
 K r1 r2 r3 H4) H

theorem ad_strings_Cut (C : Ctx) (p_s : Str) (p_sep : Str) (K : Str → Str → Bool → Heap → Prop) (H : Heap) (h : sh_strings_Cut C p_s p_sep K H) : c_strings_Cut C p_s p_sep K H := by
  refine Spec.enter Tryd.func40 rfl Tryd.ntmps40 rfl ?_
  refine GC.sub [(0, sv p_s), (1, sv p_sep)] ⟨rfl, rfl, trivial⟩ ?_
  refine GC.seq ?_
  refine GC.region ?_
  refine GL.val trivial rfl (OV.assign (v := sv []) rfl) ?_
  refine GL.val trivial rfl (OV.assign (v := sv []) rfl) ?_
  refine GL.val trivial rfl (OV.assign (v := .bool false) rfl) ?_
  refine GL.nil ?_
  refine GC.seq ?_
  refine GC.region ?_
  refine GL.val trivial rfl (OV.move (v := sv p_s) rfl) ?_
  refine GL.val trivial rfl (OV.move (v := sv p_sep) rfl) ?_
  refine GL.call h trivial rfl ok_internal_stringslite_Cut (vs := [sv p_s, sv p_sep]) rfl ?_
  rintro _ H4 ⟨r1, r2, r3, rfl, h⟩
  refine GL.val trivial rfl (OV.extract (v := sv r1) rfl rfl) ?_
  refine GL.val trivial rfl (OV.extract (v := sv r2) rfl rfl) ?_
  refine GL.val trivial rfl (OV.extract (v := .bool r3) rfl rfl) ?_
  refine GL.val trivial rfl (OV.assign (v := sv r1) rfl) ?_
  refine GL.val trivial rfl (OV.assign (v := sv r2) rfl) ?_
  refine GL.val trivial rfl (OV.assign (v := .bool r3) rfl) ?_
  refine GL.nil ?_
  exact GC.ret (fun _ _ hf hs => post_tmp3 rfl rfl rfl rfl hf hs ⟨r1, r2, r3, rfl, h⟩)

def sh_value_name (C : Ctx) (p_s : Str) (K : Bool → Heap → Prop) (H : Heap) : Prop :=
  jn (α := Bool) (fun b2 H9 =>
 jn (α := Bool) (fun b10 H17 =>
 ift b10
 (K false H17)
 (lp (α := Int) 0 H17 (fun x19 J20 H21 =>
 ift (decide ((x19 : Int) < (List.length p_s : Int)))
 (ixs p_s x19 fun c23 =>
 ift (!(((((decide (((c23.toNat : Int) : Int) ≥ 97)) && (decide (((c23.toNat : Int) : Int) ≤ 122))) || ((decide (((c23.toNat : Int) : Int) ≥ 65)) && (decide (((c23.toNat : Int) : Int) ≤ 90)))) || ((decide (((c23.toNat : Int) : Int) ≥ 48)) && (decide (((c23.toNat : Int) : Int) ≤ 57)))) || (((c23.toNat : Int) : Int) == 95)))
 (K false H21)
 (J20 (w .i64 (x19 + 1)) H21))
 (K true H21))))
 (fun J11 => ift b2
 (J11 true H9)
 (ixs p_s 0 fun c14 =>
 J11 (decide (((c14.toNat : Int) : Int) > 122)) H9)))
 (fun J3 => ift ((p_s == ([] : Str)) || (decide (((List.length p_s : Int) : Int) > 32)))
 (J3 true H)
 (ixs p_s 0 fun c6 =>
 J3 (decide (((c6.toNat : Int) : Int) < 97)) H))

theorem ad_value_name (C : Ctx) (p_s : Str) (K : Bool → Heap → Prop) (H : Heap) (h : sh_value_name C p_s K H) : c_value_name C p_s K H := by
  refine Spec.enter Tryd.func41 rfl Tryd.ntmps41 rfl ?_
  refine GC.sub [(0, sv p_s)] ⟨rfl, trivial⟩ ?_
  refine GC.seq ?_
  refine GC.region ?_
  refine GL.val trivial rfl (OV.assign (v := .bool false) rfl) ?_
  refine GL.nil ?_
  refine GC.seq ?_
  refine GC.seq ?_
  refine GC.region ?_
  refine GL.val trivial rfl (OV.move (v := sv p_s) rfl) ?_
  refine GL.val trivial rfl (OV.sbin (a := p_s) (b := ([] : Str)) (v := .bool (p_s == ([] : Str))) rfl rfl rfl) ?_
  refine GL.val trivial rfl (OV.move (v := .bool (p_s == ([] : Str))) rfl) ?_
  refine GL.cut0 4 [(11, .bool ((p_s == ([] : Str)) || (decide (((List.length p_s : Int) : Int) > 32)))), (0, sv p_s)] ?_ ?_
  · rcases Bool.eq_false_or_eq_true (p_s == ([] : Str)) with hc1 | hc1
    · skip
      refine GL.skip ⟨_, rfl, .inl ⟨_, rfl, hc1⟩⟩ rfl ?_
      refine GL.skip ⟨_, rfl, .inl ⟨_, rfl, hc1⟩⟩ rfl ?_
      refine GL.skip ⟨_, rfl, .inl ⟨_, rfl, hc1⟩⟩ rfl ?_
      refine GL.val trivial rfl (OV.pickT (b := p_s == ([] : Str)) (v := .bool true) rfl hc1 rfl) ?_
      exact GL.jump0 (fun _ _ h => h) () rfl ⟨(by rw [hc1]; rfl), rfl, trivial⟩
    · skip
      refine GL.val ⟨_, _, rfl, rfl, hc1⟩ rfl (OV.move (v := sv p_s) rfl) ?_
      refine GL.val ⟨_, _, rfl, rfl, hc1⟩ rfl (OV.lenStr (s := p_s) rfl rfl) ?_
      refine GL.val ⟨_, _, rfl, rfl, hc1⟩ rfl (OV.ibin (v := .bool (decide (((List.length p_s : Int) : Int) > 32))) rfl rfl rfl) ?_
      refine GL.val trivial rfl (OV.pickF (b := p_s == ([] : Str)) (v := .bool (decide (((List.length p_s : Int) : Int) > 32))) rfl hc1 rfl) ?_
      exact GL.jump0 (fun _ _ h => h) () rfl ⟨(by rw [hc1]; rfl), rfl, trivial⟩
  refine GL.val trivial rfl (OV.move (v := .bool ((p_s == ([] : Str)) || (decide (((List.length p_s : Int) : Int) > 32)))) rfl) ?_
  obtain ⟨J3, h, hR4⟩ := h
  refine GL.cut (α := Bool) 4 J3 (fun b2 => [(16, .bool b2), (0, sv p_s)]) ?_ ?_
  · rcases Bool.eq_false_or_eq_true ((p_s == ([] : Str)) || (decide (((List.length p_s : Int) : Int) > 32))) with hc5 | hc5
    · skip
      replace h := And.left h hc5
      refine GL.skip ⟨_, rfl, .inl ⟨_, rfl, hc5⟩⟩ rfl ?_
      refine GL.skip ⟨_, rfl, .inl ⟨_, rfl, hc5⟩⟩ rfl ?_
      refine GL.skip ⟨_, rfl, .inl ⟨_, rfl, hc5⟩⟩ rfl ?_
      refine GL.val trivial rfl (OV.pickT (b := (p_s == ([] : Str)) || (decide (((List.length p_s : Int) : Int) > 32))) (v := .bool true) rfl hc5 rfl) ?_
      exact GL.jump (fun _ _ h => h) true h ⟨rfl, rfl, trivial⟩
    · skip
      replace h := And.right h hc5
      refine GL.val ⟨_, _, rfl, rfl, hc5⟩ rfl (OV.move (v := sv p_s) rfl) ?_
      obtain ⟨c6, ha7, hb8, h⟩ := h
      refine GL.val ⟨_, _, rfl, rfl, hc5⟩ rfl (OV.indexStr (s := p_s) rfl rfl rfl ha7 hb8) ?_
      refine GL.val ⟨_, _, rfl, rfl, hc5⟩ rfl (OV.ibin (v := .bool (decide (((c6.toNat : Int) : Int) < 97))) rfl rfl rfl) ?_
      refine GL.val trivial rfl (OV.pickF (b := (p_s == ([] : Str)) || (decide (((List.length p_s : Int) : Int) > 32))) (v := .bool (decide (((c6.toNat : Int) : Int) < 97))) rfl hc5 rfl) ?_
      exact GL.jump (fun _ _ h => h) (decide (((c6.toNat : Int) : Int) < 97)) h ⟨rfl, rfl, trivial⟩
  intro b2 H9 h
  replace h := hR4 b2 H9 h
  refine GL.val trivial rfl (OV.move (v := .bool b2) rfl) ?_
  obtain ⟨J11, h, hR12⟩ := h
  refine GL.cut (α := Bool) 4 J11 (fun b10 => [(21, .bool b10), (0, sv p_s)]) ?_ ?_
  · rcases Bool.eq_false_or_eq_true b2 with hc13 | hc13
    · skip
      replace h := And.left h hc13
      refine GL.skip ⟨_, rfl, .inl ⟨_, rfl, hc13⟩⟩ rfl ?_
      refine GL.skip ⟨_, rfl, .inl ⟨_, rfl, hc13⟩⟩ rfl ?_
      refine GL.skip ⟨_, rfl, .inl ⟨_, rfl, hc13⟩⟩ rfl ?_
      refine GL.val trivial rfl (OV.pickT (b := b2) (v := .bool true) rfl hc13 rfl) ?_
      exact GL.jump (fun _ _ h => h) true h ⟨rfl, rfl, trivial⟩
    · skip
      replace h := And.right h hc13
      refine GL.val ⟨_, _, rfl, rfl, hc13⟩ rfl (OV.move (v := sv p_s) rfl) ?_
      obtain ⟨c14, ha15, hb16, h⟩ := h
      refine GL.val ⟨_, _, rfl, rfl, hc13⟩ rfl (OV.indexStr (s := p_s) rfl rfl rfl ha15 hb16) ?_
      refine GL.val ⟨_, _, rfl, rfl, hc13⟩ rfl (OV.ibin (v := .bool (decide (((c14.toNat : Int) : Int) > 122))) rfl rfl rfl) ?_
      refine GL.val trivial rfl (OV.pickF (b := b2) (v := .bool (decide (((c14.toNat : Int) : Int) > 122))) rfl hc13 rfl) ?_
      exact GL.jump (fun _ _ h => h) (decide (((c14.toNat : Int) : Int) > 122)) h ⟨rfl, rfl, trivial⟩
  intro b10 H17 h
  replace h := hR12 b10 H17 h
  refine GL.nil ?_
  refine GC.cond (b := b10) rfl (fun hc18 => ?_) (fun hc18 => ?_)
  · replace h := And.left h hc18
    refine GC.seq ?_
    refine GC.region ?_
    refine GL.val trivial rfl (OV.assign (v := .bool false) rfl) ?_
    refine GL.nil ?_
    exact GC.ret (fun _ _ hf hs => post_tmp1 rfl rfl hf hs ⟨false, rfl, h⟩)
  · replace h := And.right h hc18
    refine GC.skip ?_
    refine GC.seq ?_
    refine GC.seq ?_
    refine GC.region ?_
    refine GL.val trivial rfl (OV.move (v := sv p_s) rfl) ?_
    refine GL.val trivial rfl (OV.lenStr (s := p_s) rfl rfl) ?_
    refine GL.val trivial rfl (OV.move (v := .int .i64 0) rfl) ?_
    refine GL.nil ?_
    refine GC.block ?_
    refine GC.loop (α := Int) h (fun x19 => [(24, .int .i64 x19), (0, sv p_s), (23, .int .i64 (List.length p_s : Int))]) ⟨rfl, rfl, rfl, trivial⟩ ?_
    intro x19 H21 J20 h
    refine GC.seq ?_
    refine GC.region ?_
    refine GL.val trivial rfl (OV.ibin (v := .bool (decide ((x19 : Int) < (List.length p_s : Int)))) rfl rfl rfl) ?_
    refine GL.nil ?_
    refine GC.seq ?_
    refine GC.cond (b := decide ((x19 : Int) < (List.length p_s : Int))) rfl (fun hc22 => ?_) (fun hc22 => ?_)
    · replace h := And.left h hc22
      refine GC.skip ?_
      refine GC.seq ?_
      refine GC.block ?_
      refine GC.seq ?_
      refine GC.region ?_
      refine GL.val trivial rfl (OV.move (v := .int .i64 x19) rfl) ?_
      refine GL.val trivial rfl (OV.assign (v := .int .i64 x19) rfl) ?_
      refine GL.nil ?_
      refine GC.seq ?_
      refine GC.region ?_
      refine GL.val trivial rfl (OV.move (v := sv p_s) rfl) ?_
      refine GL.val trivial rfl (OV.move (v := .int .i64 x19) rfl) ?_
      obtain ⟨c23, ha24, hb25, h⟩ := h
      refine GL.val trivial rfl (OV.indexStr (s := p_s) rfl rfl rfl ha24 hb25) ?_
      refine GL.val trivial rfl (OV.assign (v := .int .u8 (c23.toNat : Int)) rfl) ?_
      refine GL.nil ?_
      refine GC.seq ?_
      refine GC.region ?_
      refine GL.val trivial rfl (OV.move (v := .int .u8 (c23.toNat : Int)) rfl) ?_
      refine GL.val trivial rfl (OV.ibin (v := .bool (decide (((c23.toNat : Int) : Int) ≥ 97))) rfl rfl rfl) ?_
      refine GL.val trivial rfl (OV.move (v := .bool (decide (((c23.toNat : Int) : Int) ≥ 97))) rfl) ?_
      refine GL.cut0 3 [(35, .bool ((decide (((c23.toNat : Int) : Int) ≥ 97)) && (decide (((c23.toNat : Int) : Int) ≤ 122)))), (0, sv p_s), (4, .int .u8 (c23.toNat : Int)), (23, .int .i64 (List.length p_s : Int)), (24, .int .i64 x19)] ?_ ?_
      · rcases Bool.eq_false_or_eq_true (decide (((c23.toNat : Int) : Int) ≥ 97)) with hc26 | hc26
        · skip
          refine GL.val ⟨_, _, rfl, rfl, hc26⟩ rfl (OV.move (v := .int .u8 (c23.toNat : Int)) rfl) ?_
          refine GL.val ⟨_, _, rfl, rfl, hc26⟩ rfl (OV.ibin (v := .bool (decide (((c23.toNat : Int) : Int) ≤ 122))) rfl rfl rfl) ?_
          refine GL.val trivial rfl (OV.pickT (b := decide (((c23.toNat : Int) : Int) ≥ 97)) (v := .bool (decide (((c23.toNat : Int) : Int) ≤ 122))) rfl hc26 rfl) ?_
          exact GL.jump0 (fun _ _ h => h) () rfl ⟨(by rw [hc26]; rfl), rfl, rfl, rfl, rfl, trivial⟩
        · skip
          refine GL.skip ⟨_, rfl, .inl ⟨_, rfl, hc26⟩⟩ rfl ?_
          refine GL.skip ⟨_, rfl, .inl ⟨_, rfl, hc26⟩⟩ rfl ?_
          refine GL.val trivial rfl (OV.pickF (b := decide (((c23.toNat : Int) : Int) ≥ 97)) (v := .bool false) rfl hc26 rfl) ?_
          exact GL.jump0 (fun _ _ h => h) () rfl ⟨(by rw [hc26]; rfl), rfl, rfl, rfl, rfl, trivial⟩
      refine GL.val trivial rfl (OV.move (v := .bool ((decide (((c23.toNat : Int) : Int) ≥ 97)) && (decide (((c23.toNat : Int) : Int) ≤ 122)))) rfl) ?_
      refine GL.cut0 7 [(43, .bool (((decide (((c23.toNat : Int) : Int) ≥ 97)) && (decide (((c23.toNat : Int) : Int) ≤ 122))) || ((decide (((c23.toNat : Int) : Int) ≥ 65)) && (decide (((c23.toNat : Int) : Int) ≤ 90))))), (0, sv p_s), (4, .int .u8 (c23.toNat : Int)), (23, .int .i64 (List.length p_s : Int)), (24, .int .i64 x19)] ?_ ?_
      · rcases Bool.eq_false_or_eq_true ((decide (((c23.toNat : Int) : Int) ≥ 97)) && (decide (((c23.toNat : Int) : Int) ≤ 122))) with hc27 | hc27
        · skip
          refine GL.skip ⟨_, rfl, .inl ⟨_, rfl, hc27⟩⟩ rfl ?_
          refine GL.skip ⟨_, rfl, .inl ⟨_, rfl, hc27⟩⟩ rfl ?_
          refine GL.skip ⟨_, rfl, .inl ⟨_, rfl, hc27⟩⟩ rfl ?_
          refine GL.skip ⟨_, rfl, .inr rfl⟩ rfl ?_
          refine GL.skip ⟨_, rfl, .inr rfl⟩ rfl ?_
          refine GL.skip ⟨_, rfl, .inl ⟨_, rfl, hc27⟩⟩ rfl ?_
          refine GL.val trivial rfl (OV.pickT (b := (decide (((c23.toNat : Int) : Int) ≥ 97)) && (decide (((c23.toNat : Int) : Int) ≤ 122))) (v := .bool true) rfl hc27 rfl) ?_
          exact GL.jump0 (fun _ _ h => h) () rfl ⟨(by rw [hc27]; rfl), rfl, rfl, rfl, rfl, trivial⟩
        · skip
          refine GL.val ⟨_, _, rfl, rfl, hc27⟩ rfl (OV.move (v := .int .u8 (c23.toNat : Int)) rfl) ?_
          refine GL.val ⟨_, _, rfl, rfl, hc27⟩ rfl (OV.ibin (v := .bool (decide (((c23.toNat : Int) : Int) ≥ 65))) rfl rfl rfl) ?_
          refine GL.val ⟨_, _, rfl, rfl, hc27⟩ rfl (OV.move (v := .bool (decide (((c23.toNat : Int) : Int) ≥ 65))) rfl) ?_
          refine GL.cut0 3 [(42, .bool ((decide (((c23.toNat : Int) : Int) ≥ 65)) && (decide (((c23.toNat : Int) : Int) ≤ 90)))), (0, sv p_s), (4, .int .u8 (c23.toNat : Int)), (23, .int .i64 (List.length p_s : Int)), (24, .int .i64 x19), (36, .bool ((decide (((c23.toNat : Int) : Int) ≥ 97)) && (decide (((c23.toNat : Int) : Int) ≤ 122))))] ?_ ?_
          · rcases Bool.eq_false_or_eq_true (decide (((c23.toNat : Int) : Int) ≥ 65)) with hc28 | hc28
            · skip
              refine GL.val ⟨_, _, rfl, rfl, hc28⟩ rfl (OV.move (v := .int .u8 (c23.toNat : Int)) rfl) ?_
              refine GL.val ⟨_, _, rfl, rfl, hc28⟩ rfl (OV.ibin (v := .bool (decide (((c23.toNat : Int) : Int) ≤ 90))) rfl rfl rfl) ?_
              refine GL.val ⟨_, _, rfl, rfl, hc27⟩ rfl (OV.pickT (b := decide (((c23.toNat : Int) : Int) ≥ 65)) (v := .bool (decide (((c23.toNat : Int) : Int) ≤ 90))) rfl hc28 rfl) ?_
              exact GL.jump0 (fun _ _ h => h) () rfl ⟨(by rw [hc28]; rfl), rfl, rfl, rfl, rfl, rfl, trivial⟩
            · skip
              refine GL.skip ⟨_, rfl, .inl ⟨_, rfl, hc28⟩⟩ rfl ?_
              refine GL.skip ⟨_, rfl, .inl ⟨_, rfl, hc28⟩⟩ rfl ?_
              refine GL.val ⟨_, _, rfl, rfl, hc27⟩ rfl (OV.pickF (b := decide (((c23.toNat : Int) : Int) ≥ 65)) (v := .bool false) rfl hc28 rfl) ?_
              exact GL.jump0 (fun _ _ h => h) () rfl ⟨(by rw [hc28]; rfl), rfl, rfl, rfl, rfl, rfl, trivial⟩
          refine GL.val trivial rfl (OV.pickF (b := (decide (((c23.toNat : Int) : Int) ≥ 97)) && (decide (((c23.toNat : Int) : Int) ≤ 122))) (v := .bool ((decide (((c23.toNat : Int) : Int) ≥ 65)) && (decide (((c23.toNat : Int) : Int) ≤ 90)))) rfl hc27 rfl) ?_
          exact GL.jump0 (fun _ _ h => h) () rfl ⟨(by rw [hc27]; rfl), rfl, rfl, rfl, rfl, trivial⟩
      refine GL.val trivial rfl (OV.move (v := .bool (((decide (((c23.toNat : Int) : Int) ≥ 97)) && (decide (((c23.toNat : Int) : Int) ≤ 122))) || ((decide (((c23.toNat : Int) : Int) ≥ 65)) && (decide (((c23.toNat : Int) : Int) ≤ 90))))) rfl) ?_
      refine GL.cut0 7 [(51, .bool ((((decide (((c23.toNat : Int) : Int) ≥ 97)) && (decide (((c23.toNat : Int) : Int) ≤ 122))) || ((decide (((c23.toNat : Int) : Int) ≥ 65)) && (decide (((c23.toNat : Int) : Int) ≤ 90)))) || ((decide (((c23.toNat : Int) : Int) ≥ 48)) && (decide (((c23.toNat : Int) : Int) ≤ 57))))), (0, sv p_s), (4, .int .u8 (c23.toNat : Int)), (23, .int .i64 (List.length p_s : Int)), (24, .int .i64 x19)] ?_ ?_
      · rcases Bool.eq_false_or_eq_true (((decide (((c23.toNat : Int) : Int) ≥ 97)) && (decide (((c23.toNat : Int) : Int) ≤ 122))) || ((decide (((c23.toNat : Int) : Int) ≥ 65)) && (decide (((c23.toNat : Int) : Int) ≤ 90)))) with hc29 | hc29
        · skip
          refine GL.skip ⟨_, rfl, .inl ⟨_, rfl, hc29⟩⟩ rfl ?_
          refine GL.skip ⟨_, rfl, .inl ⟨_, rfl, hc29⟩⟩ rfl ?_
          refine GL.skip ⟨_, rfl, .inl ⟨_, rfl, hc29⟩⟩ rfl ?_
          refine GL.skip ⟨_, rfl, .inr rfl⟩ rfl ?_
          refine GL.skip ⟨_, rfl, .inr rfl⟩ rfl ?_
          refine GL.skip ⟨_, rfl, .inl ⟨_, rfl, hc29⟩⟩ rfl ?_
          refine GL.val trivial rfl (OV.pickT (b := ((decide (((c23.toNat : Int) : Int) ≥ 97)) && (decide (((c23.toNat : Int) : Int) ≤ 122))) || ((decide (((c23.toNat : Int) : Int) ≥ 65)) && (decide (((c23.toNat : Int) : Int) ≤ 90)))) (v := .bool true) rfl hc29 rfl) ?_
          exact GL.jump0 (fun _ _ h => h) () rfl ⟨(by rw [hc29]; rfl), rfl, rfl, rfl, rfl, trivial⟩
        · skip
          refine GL.val ⟨_, _, rfl, rfl, hc29⟩ rfl (OV.move (v := .int .u8 (c23.toNat : Int)) rfl) ?_
          refine GL.val ⟨_, _, rfl, rfl, hc29⟩ rfl (OV.ibin (v := .bool (decide (((c23.toNat : Int) : Int) ≥ 48))) rfl rfl rfl) ?_
          refine GL.val ⟨_, _, rfl, rfl, hc29⟩ rfl (OV.move (v := .bool (decide (((c23.toNat : Int) : Int) ≥ 48))) rfl) ?_
          refine GL.cut0 3 [(50, .bool ((decide (((c23.toNat : Int) : Int) ≥ 48)) && (decide (((c23.toNat : Int) : Int) ≤ 57)))), (0, sv p_s), (4, .int .u8 (c23.toNat : Int)), (23, .int .i64 (List.length p_s : Int)), (24, .int .i64 x19), (44, .bool (((decide (((c23.toNat : Int) : Int) ≥ 97)) && (decide (((c23.toNat : Int) : Int) ≤ 122))) || ((decide (((c23.toNat : Int) : Int) ≥ 65)) && (decide (((c23.toNat : Int) : Int) ≤ 90)))))] ?_ ?_
          · rcases Bool.eq_false_or_eq_true (decide (((c23.toNat : Int) : Int) ≥ 48)) with hc30 | hc30
            · skip
              refine GL.val ⟨_, _, rfl, rfl, hc30⟩ rfl (OV.move (v := .int .u8 (c23.toNat : Int)) rfl) ?_
              refine GL.val ⟨_, _, rfl, rfl, hc30⟩ rfl (OV.ibin (v := .bool (decide (((c23.toNat : Int) : Int) ≤ 57))) rfl rfl rfl) ?_
              refine GL.val ⟨_, _, rfl, rfl, hc29⟩ rfl (OV.pickT (b := decide (((c23.toNat : Int) : Int) ≥ 48)) (v := .bool (decide (((c23.toNat : Int) : Int) ≤ 57))) rfl hc30 rfl) ?_
              exact GL.jump0 (fun _ _ h => h) () rfl ⟨(by rw [hc30]; rfl), rfl, rfl, rfl, rfl, rfl, trivial⟩
            · skip
              refine GL.skip ⟨_, rfl, .inl ⟨_, rfl, hc30⟩⟩ rfl ?_
              refine GL.skip ⟨_, rfl, .inl ⟨_, rfl, hc30⟩⟩ rfl ?_
              refine GL.val ⟨_, _, rfl, rfl, hc29⟩ rfl (OV.pickF (b := decide (((c23.toNat : Int) : Int) ≥ 48)) (v := .bool false) rfl hc30 rfl) ?_
              exact GL.jump0 (fun _ _ h => h) () rfl ⟨(by rw [hc30]; rfl), rfl, rfl, rfl, rfl, rfl, trivial⟩
          refine GL.val trivial rfl (OV.pickF (b := ((decide (((c23.toNat : Int) : Int) ≥ 97)) && (decide (((c23.toNat : Int) : Int) ≤ 122))) || ((decide (((c23.toNat : Int) : Int) ≥ 65)) && (decide (((c23.toNat : Int) : Int) ≤ 90)))) (v := .bool ((decide (((c23.toNat : Int) : Int) ≥ 48)) && (decide (((c23.toNat : Int) : Int) ≤ 57)))) rfl hc29 rfl) ?_
          exact GL.jump0 (fun _ _ h => h) () rfl ⟨(by rw [hc29]; rfl), rfl, rfl, rfl, rfl, trivial⟩
      refine GL.val trivial rfl (OV.move (v := .bool ((((decide (((c23.toNat : Int) : Int) ≥ 97)) && (decide (((c23.toNat : Int) : Int) ≤ 122))) || ((decide (((c23.toNat : Int) : Int) ≥ 65)) && (decide (((c23.toNat : Int) : Int) ≤ 90)))) || ((decide (((c23.toNat : Int) : Int) ≥ 48)) && (decide (((c23.toNat : Int) : Int) ≤ 57))))) rfl) ?_
      refine GL.cut0 3 [(55, .bool (((((decide (((c23.toNat : Int) : Int) ≥ 97)) && (decide (((c23.toNat : Int) : Int) ≤ 122))) || ((decide (((c23.toNat : Int) : Int) ≥ 65)) && (decide (((c23.toNat : Int) : Int) ≤ 90)))) || ((decide (((c23.toNat : Int) : Int) ≥ 48)) && (decide (((c23.toNat : Int) : Int) ≤ 57)))) || (((c23.toNat : Int) : Int) == 95))), (0, sv p_s), (23, .int .i64 (List.length p_s : Int)), (24, .int .i64 x19)] ?_ ?_
      · rcases Bool.eq_false_or_eq_true ((((decide (((c23.toNat : Int) : Int) ≥ 97)) && (decide (((c23.toNat : Int) : Int) ≤ 122))) || ((decide (((c23.toNat : Int) : Int) ≥ 65)) && (decide (((c23.toNat : Int) : Int) ≤ 90)))) || ((decide (((c23.toNat : Int) : Int) ≥ 48)) && (decide (((c23.toNat : Int) : Int) ≤ 57)))) with hc31 | hc31
        · skip
          refine GL.skip ⟨_, rfl, .inl ⟨_, rfl, hc31⟩⟩ rfl ?_
          refine GL.skip ⟨_, rfl, .inl ⟨_, rfl, hc31⟩⟩ rfl ?_
          refine GL.val trivial rfl (OV.pickT (b := (((decide (((c23.toNat : Int) : Int) ≥ 97)) && (decide (((c23.toNat : Int) : Int) ≤ 122))) || ((decide (((c23.toNat : Int) : Int) ≥ 65)) && (decide (((c23.toNat : Int) : Int) ≤ 90)))) || ((decide (((c23.toNat : Int) : Int) ≥ 48)) && (decide (((c23.toNat : Int) : Int) ≤ 57)))) (v := .bool true) rfl hc31 rfl) ?_
          exact GL.jump0 (fun _ _ h => h) () rfl ⟨(by rw [hc31]; rfl), rfl, rfl, rfl, trivial⟩
        · skip
          refine GL.val ⟨_, _, rfl, rfl, hc31⟩ rfl (OV.move (v := .int .u8 (c23.toNat : Int)) rfl) ?_
          refine GL.val ⟨_, _, rfl, rfl, hc31⟩ rfl (OV.ibin (v := .bool (((c23.toNat : Int) : Int) == 95)) rfl rfl rfl) ?_
          refine GL.val trivial rfl (OV.pickF (b := (((decide (((c23.toNat : Int) : Int) ≥ 97)) && (decide (((c23.toNat : Int) : Int) ≤ 122))) || ((decide (((c23.toNat : Int) : Int) ≥ 65)) && (decide (((c23.toNat : Int) : Int) ≤ 90)))) || ((decide (((c23.toNat : Int) : Int) ≥ 48)) && (decide (((c23.toNat : Int) : Int) ≤ 57)))) (v := .bool (((c23.toNat : Int) : Int) == 95)) rfl hc31 rfl) ?_
          exact GL.jump0 (fun _ _ h => h) () rfl ⟨(by rw [hc31]; rfl), rfl, rfl, rfl, trivial⟩
      refine GL.val trivial rfl (OV.not rfl) ?_
      refine GL.nil ?_
      refine GC.cond (b := !(((((decide (((c23.toNat : Int) : Int) ≥ 97)) && (decide (((c23.toNat : Int) : Int) ≤ 122))) || ((decide (((c23.toNat : Int) : Int) ≥ 65)) && (decide (((c23.toNat : Int) : Int) ≤ 90)))) || ((decide (((c23.toNat : Int) : Int) ≥ 48)) && (decide (((c23.toNat : Int) : Int) ≤ 57)))) || (((c23.toNat : Int) : Int) == 95))) rfl (fun hc32 => ?_) (fun hc32 => ?_)
      · replace h := And.left h hc32
        refine GC.seq ?_
        refine GC.region ?_
        refine GL.val trivial rfl (OV.assign (v := .bool false) rfl) ?_
        refine GL.nil ?_
        exact GC.ret (fun _ _ hf hs => post_tmp1 rfl rfl hf hs ⟨false, rfl, h⟩)
      · replace h := And.right h hc32
        refine GC.skip_to (fun _ _ h => h) ?_
        refine GC.region ?_
        refine GL.val trivial rfl (OV.ibin (v := .int .i64 (w .i64 (x19 + 1))) rfl rfl rfl) ?_
        refine GL.val trivial rfl (OV.move (v := .int .i64 (w .i64 (x19 + 1))) rfl) ?_
        exact GL.jump (fun _ _ h => h) (w .i64 (x19 + 1)) h ⟨rfl, rfl, rfl, trivial⟩
    · replace h := And.right h hc22
      refine GC.exit_to (fun _ _ h => h) ?_
      refine GC.seq ?_
      refine GC.region ?_
      refine GL.val trivial rfl (OV.assign (v := .bool true) rfl) ?_
      refine GL.nil ?_
      exact GC.ret (fun _ _ hf hs => post_tmp1 rfl rfl hf hs ⟨true, rfl, h⟩)

end Sx
end

