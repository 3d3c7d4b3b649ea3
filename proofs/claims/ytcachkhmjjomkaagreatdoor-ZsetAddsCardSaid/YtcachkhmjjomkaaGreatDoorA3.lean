/-
  Texts of this family, one behind the other: Sh2.
-/
import Derived.Test.YtcachkhmjjomkaaGreatDoorA2
noncomputable section
set_option linter.unusedVariables false
set_option maxRecDepth 100000
namespace Sx
open Go Go.Proofs
def sh_slices_DeleteFunc_zset_Entry_zset_Entry (C : Ctx) (p_s : Sl) (p_del : Value) (K : Sl → Heap → Prop) (H : Heap) : Prop :=
 c_slices_IndexFunc_zset_Entry_zset_Entry C p_s p_del (fun r1 H2 =>
 ift ((r1 : Int) == (-1))
 (K p_s H2)
 (lp (α := Int × Int) (r1, (w .i64 (r1 + 1))) H2 (fun x4 J5 H6 =>
 ift (decide ((x4.2 : Int) < (Sl.len p_s : Int)))
 (jn (α := Int) (fun x9 H10 =>
 J5 (x9, (w .i64 (x4.2 + 1))) H10)
 (fun J8 => ixa p_s x4.2 fun p12 =>
 ldT H6 T_zset_Entry.c (p12.1, p12.2 + (x4.2 : Int).toNat * 2) fun x17 =>
 nw (T_zset_Entry.c T_zset_Entry.zero) (fun b19 H20 =>
 stT (b19, 0) (T_zset_Entry.c x17) (fun H21 =>
 ldT H21 T_zset_Entry.c (b19, 0) fun x22 =>
 callU Tryz.prog C p_del [.agg (T_zset_Entry.c x22).toArray] H21 (fun v H25 => ∃ (r24 : Bool), v = .bool r24 ∧
 ift (!r24)
 (ldT H25 T_zset_Entry.c (b19, 0) fun x27 =>
 ixa p_s x4.1 fun p29 =>
 stT (p29.1, p29.2 + (x4.1 : Int).toNat * 2) (T_zset_Entry.c x27) (fun H34 =>
 J8 (w .i64 (x4.1 + 1)) H34) H25)
 (J8 x4.1 H25))) H20) H6))
 (slL p_s x4.1 (Sl.len p_s : Int) (Sl.cap p_s : Int) 2 fun t35 =>
 clr (T_zset_Entry.c T_zset_Entry.zero) t35 (fun H41 =>
 slL p_s 0 x4.1 (Sl.cap p_s : Int) 2 fun t42 =>
 K t42 H41) H6)))) H
theorem ad_slices_DeleteFunc_zset_Entry_zset_Entry (C : Ctx) (p_s : Sl) (p_del : Value) (K : Sl → Heap → Prop) (H : Heap) (h : sh_slices_DeleteFunc_zset_Entry_zset_Entry C p_s p_del K H) : c_slices_DeleteFunc_zset_Entry_zset_Entry C p_s p_del K H := by
 refine Spec.enter Tryz.func36 rfl Tryz.ntmps36 rfl (GC.sub [(0, slv p_s), (1, p_del)] ⟨rfl, rfl, trivial⟩ (Zo (Za (GL.nil (Zo (Zm (Zm (Zc h ok_slices_IndexFunc_zset_Entry_zset_Entry ?_))))))))
 rintro _ H2 ⟨r1, rfl, h⟩
 refine Za (GL.nil (GC.seq (Zo (Zm (Zi (.bool ((r1 : Int) == (-1))) (GL.nil ?_))))))
 refine Zd (fun hc3 => ?_) fun hc3 => ?_
 replace h := h.1 hc3
 refine Zo (Zm (Za (GL.nil ?_)))
 exact GC.ret (fun _ _ hf hs => post_tmp1 rfl rfl hf hs ⟨p_s, rfl, h⟩)
 replace h := h.2 hc3
 refine GC.skip (GC.seq (Zo (Zm (Zi (.int .i64 (w .i64 (r1 + 1))) (Za (GL.nil (GC.block (GC.loop (α := Int × Int) h (fun x4 => [(5, .int .i64 x4.1), (6, .int .i64 x4.2), (0, slv p_s), (1, p_del)]) ⟨rfl, rfl, rfl, rfl, trivial⟩ ?_))))))))
 intro x4 H6 J5 h
 refine GC.seq (Zo (Zm (Zm (Zq (Zi (.bool (decide ((x4.2 : Int) < (Sl.len p_s : Int)))) (GL.nil ?_))))))
 refine Zd (fun hc7 => ?_) fun hc7 => ?_
 replace h := h.1 hc7
 refine GC.skip ?_
 obtain ⟨J8, h, hR11⟩ := h
 refine GC.join (α := Int) J8 (fun x9 => [(5, .int .i64 x9), (0, slv p_s), (1, p_del), (6, .int .i64 x4.2)]) ?_ ?_
 refine GC.block (Zo (Zm (Zm ?_)))
 obtain ⟨p12, ha13, hb14, hc15, hd16, h⟩ := h
 refine Zx ha13 hb14 hc15 hd16 ?_
 obtain ⟨x17, hr18, h⟩ := h
 refine Zv (OV.loadT rfl rfl rfl hr18) (GL.alloc (cs := T_zset_Entry.c T_zset_Entry.zero) h trivial rfl rfl rfl ?_)
 intro b19 H20 h
 refine GL.storeT (p := (b19, 0)) (vs := T_zset_Entry.c x17) h trivial rfl rfl rfl rfl ?_
 intro H21 h
 refine GL.nil (Zo (Zm ?_))
 obtain ⟨x22, hr23, h⟩ := h
 refine Zv (OV.loadT rfl rfl rfl hr23) (GL.callU (xv := p_del) (vs := [.agg (T_zset_Entry.c x22).toArray]) h trivial rfl rfl rfl ?_)
 rintro _ H25 ⟨r24, rfl, h⟩
 refine Zv (OV.not rfl) (GL.nil ?_)
 refine Zd (fun hc26 => ?_) fun hc26 => ?_
 replace h := h.1 hc26
 refine Zo (Zm (Zm ?_))
 obtain ⟨x27, hr28, h⟩ := h
 refine Zv (OV.loadT rfl rfl rfl hr28) ?_
 obtain ⟨p29, ha30, hb31, hc32, hd33, h⟩ := h
 refine Zx ha30 hb31 hc32 hd33 (GL.storeT (p := (p29.1, p29.2 + (x4.1 : Int).toNat * 2)) (vs := T_zset_Entry.c x27) h trivial rfl rfl rfl rfl ?_)
 intro H34 h
 refine GL.nil (GC.region (Zm (Zi (.int .i64 (w .i64 (x4.1 + 1))) (Za ?_))))
 exact GL.jump (fun _ _ h => h) (w .i64 (x4.1 + 1)) h ⟨rfl, rfl, rfl, rfl, trivial⟩
 replace h := h.2 hc26
 exact GC.jump (fun _ _ h => h) x4.1 h ⟨rfl, rfl, rfl, rfl, trivial⟩
 intro x9 H10 h
 replace h := hR11 x9 H10 h
 refine GC.region (Zm (Zi (.int .i64 (w .i64 (x4.2 + 1))) (Za ?_)))
 exact GL.jump (fun _ _ h => h) (x9, (w .i64 (x4.2 + 1))) h ⟨rfl, rfl, rfl, rfl, trivial⟩
 replace h := h.2 hc7
 refine GC.exit_to (fun _ _ h => h) (Zo (Zm (Zm ?_)))
 obtain ⟨h36, h37, h38, h39, t35, h40, h⟩ := h
 refine Zv (OV.sliceSl (s := p_s) h36 h37 h38 h39 h40 rfl rfl rfl rfl rfl rfl rfl (fun h => by first | rfl | cases h) rfl rfl) (GL.clear (s := t35) (zc := T_zset_Entry.c T_zset_Entry.zero) (bytes := 32) h trivial rfl ⟨⟨_, _, _, rfl, rfl, rfl, rfl, rfl, rfl⟩⟩ rfl ?_)
 intro H41 h
 refine GL.nil (Zo (Zm (Zm ?_)))
 obtain ⟨h43, h44, h45, h46, t42, h47, h⟩ := h
 refine Zv (OV.sliceSl (s := p_s) h43 h44 h45 h46 h47 rfl rfl rfl rfl rfl rfl rfl (fun h => by first | rfl | cases h) rfl rfl) (Za (GL.nil ?_))
 exact GC.ret (fun _ _ hf hs => post_tmp1 rfl rfl hf hs ⟨t42, rfl, h⟩)
def sh_zset_Distinct_1 (C : Ctx) (p_x : T_zset_Entry) (K : Bool → Heap → Prop) (H : Heap) : Prop :=
 nw (T_zset_Entry.c p_x) (fun b1 H2 =>
 ldI H2 .i64 ((b1, 0).1, (b1, 0).2 + 1) fun x3 =>
 K (decide ((x3 : Int) < 0)) H2) H
theorem ad_zset_Distinct_1 (C : Ctx) (p_x : T_zset_Entry) (K : Bool → Heap → Prop) (H : Heap) (h : sh_zset_Distinct_1 C p_x K H) : c_zset_Distinct_1 C p_x K H := by
 refine Spec.enter Tryz.func37 rfl Tryz.ntmps37 rfl (GC.sub [(0, .agg (T_zset_Entry.c p_x).toArray)] ⟨rfl, trivial⟩ (Zo (GL.box (v := .agg (T_zset_Entry.c p_x).toArray) (cs := T_zset_Entry.c p_x) h trivial rfl rfl rfl ?_)))
 intro b1 H2 h
 refine Za (GL.nil (Zo (Zf ?_)))
 obtain ⟨x3, hr4, h⟩ := h
 refine Zl hr4 (Zi (.bool (decide ((x3 : Int) < 0))) (Za (GL.nil ?_)))
 exact GC.ret (fun _ _ hf hs => post_tmp1 rfl rfl hf hs ⟨(decide ((x3 : Int) < 0)), rfl, h⟩)
def sh_value_depth (C : Ctx) (p_v : T_api_Value) (p_most : Int) (K : Int → Heap → Prop) (H : Heap) : Prop :=
 nw (T_api_Value.c p_v) (fun b1 H2 =>
 jn (α := Int) (fun x4 H5 =>
 K (w .i64 (x4 + 1)) H5)
 (fun J3 => ldL H2 ((b1, 0).1, (b1, 0).2 + 3) fun x7 =>
 lp (α := Int × Int) (0, 0) H2 (fun x9 J10 H11 =>
 ift (decide ((x9.2 : Int) < (Sl.len x7 : Int)))
 (ixa x7 x9.2 fun p13 =>
 ldT H11 T_api_Value.c (p13.1, p13.2 + (x9.2 : Int).toNat * 4) fun x18 =>
 nw (T_api_Value.c T_api_Value.zero) (fun b20 H21 =>
 stT (b20, 0) (T_api_Value.c x18) (fun H22 =>
 ift (decide ((x9.1 : Int) ≥ p_most))
 (J3 x9.1 H22)
 (ldT H22 T_api_Value.c (b20, 0) fun x24 =>
 c_value_depth C x24 (w .i64 (p_most - 1)) (fun r26 H27 =>
 J10 ((if r26 > x9.1 then r26 else x9.1 : Int), (w .i64 (x9.2 + 1))) H27) H22)) H21) H11)
 (J3 x9.1 H11)))) H
theorem ad_value_depth (C : Ctx) (p_v : T_api_Value) (p_most : Int) (K : Int → Heap → Prop) (H : Heap) (h : sh_value_depth C p_v p_most K H) : c_value_depth C p_v p_most K H := by
 refine Spec.enter Tryz.func38 rfl Tryz.ntmps38 rfl (GC.sub [(0, .agg (T_api_Value.c p_v).toArray), (1, .int .i64 p_most)] ⟨rfl, rfl, trivial⟩ (Zo (GL.box (v := .agg (T_api_Value.c p_v).toArray) (cs := T_api_Value.c p_v) h trivial rfl rfl rfl ?_)))
 intro b1 H2 h
 refine Za (GL.nil (Zo (Za (GL.nil ?_))))
 obtain ⟨J3, h, hR6⟩ := h
 refine GC.join (α := Int) J3 (fun x4 => [(5, .int .i64 x4)]) ?_ ?_
 refine Zo (Zf ?_)
 obtain ⟨x7, hr8, h⟩ := h
 refine Zl hr8 (Zq (Zm (GL.nil (GC.block (GC.loop (α := Int × Int) h (fun x9 => [(5, .int .i64 x9.1), (11, .int .i64 x9.2), (1, .int .i64 p_most), (9, slv x7), (10, .int .i64 (Sl.len x7 : Int))]) ⟨rfl, rfl, rfl, rfl, rfl, trivial⟩ ?_)))))
 intro x9 H11 J10 h
 refine Zo (Zi (.bool (decide ((x9.2 : Int) < (Sl.len x7 : Int)))) (GL.nil (GC.seq ?_)))
 refine Zd (fun hc12 => ?_) fun hc12 => ?_
 replace h := h.1 hc12
 refine GC.skip (GC.seq (GC.block (Zo ?_)))
 obtain ⟨p13, ha14, hb15, hc16, hd17, h⟩ := h
 refine Zx ha14 hb15 hc16 hd17 ?_
 obtain ⟨x18, hr19, h⟩ := h
 refine Zv (OV.loadT rfl rfl rfl hr19) (GL.alloc (cs := T_api_Value.c T_api_Value.zero) h trivial rfl rfl rfl ?_)
 intro b20 H21 h
 refine GL.storeT (p := (b20, 0)) (vs := T_api_Value.c x18) h trivial rfl rfl rfl rfl ?_
 intro H22 h
 refine GL.nil (GC.seq (Zo (Zm (Zm (Zi (.bool (decide ((x9.1 : Int) ≥ p_most))) (GL.nil ?_))))))
 refine Zd (fun hc23 => ?_) fun hc23 => ?_
 replace h := h.1 hc23
 exact GC.exit_jump (fun _ _ h => h) x9.1 h ⟨rfl, trivial⟩
 replace h := h.2 hc23
 refine GC.skip (GC.region (Zm ?_))
 obtain ⟨x24, hr25, h⟩ := h
 refine Zv (OV.loadT rfl rfl rfl hr25) (Zm (Zi (.int .i64 (w .i64 (p_most - 1))) (Zc h ok_value_depth ?_)))
 rintro _ H27 ⟨r26, rfl, h⟩
 refine Zv (OV.maxI rfl rfl) (Za (GL.nil_to (fun _ _ h => h) (GC.region (Zi (.int .i64 (w .i64 (x9.2 + 1))) (Zm ?_)))))
 exact GL.jump (fun _ _ h => h) ((if r26 > x9.1 then r26 else x9.1 : Int), (w .i64 (x9.2 + 1))) h ⟨rfl, rfl, rfl, rfl, rfl, trivial⟩
 replace h := h.2 hc12
 exact GC.exit_jump (fun _ _ h => h) x9.1 h ⟨rfl, trivial⟩
 intro x4 H5 h
 replace h := hR6 x4 H5 h
 refine Zo (Zm (Zi (.int .i64 (w .i64 (x4 + 1))) (Za (GL.nil ?_))))
 exact GC.ret (fun _ _ hf hs => post_tmp1 rfl rfl hf hs ⟨(w .i64 (x4 + 1)), rfl, h⟩)
def sh_value_item_look (C : Ctx) (p_v : T_api_Value) (K : Bool → Bool → Heap → Prop) (H : Heap) : Prop :=
 nw (T_api_Value.c p_v) (fun b1 H2 =>
 ldI H2 .i64 ((b1, 0).1, (b1, 0).2 + 1) fun x3 =>
 jn (α := Bool) (fun b5 H11 =>
 jn (α := Bool) (fun b12 H18 =>
 jn (α := Bool × Bool) (fun x20 H21 =>
 ldL H21 ((b1, 0).1, (b1, 0).2 + 3) fun x149 =>
 lp (α := Bool × Bool × Int) (x20.1, x20.2, 0) H21 (fun x151 J152 H153 =>
 ift (decide ((x151.2.2 : Int) < (Sl.len x149 : Int)))
 (ixa x149 x151.2.2 fun p155 =>
 ldT H153 T_api_Value.c (p155.1, p155.2 + (x151.2.2 : Int).toNat * 4) fun x160 =>
 nw (T_api_Value.c T_api_Value.zero) (fun b162 H163 =>
 stT (b162, 0) (T_api_Value.c x160) (fun H164 =>
 ldT H164 T_api_Value.c (b162, 0) fun x165 =>
 c_value_item_look C x165 (fun r167 r168 H169 =>
 J152 ((x151.1 && r167), (x151.2.1 && r168), (w .i64 (x151.2.2 + 1))) H169) H164) H163) H153)
 (K x151.1 x151.2.1 H153)))
 (fun J19 => ldI H18 .u8 ((b1, 0).1, (b1, 0).2 + 0) fun x23 =>
 ift ((x23 : Int) == 1)
 (ldI H18 .i64 ((b1, 0).1, (b1, 0).2 + 1) fun x26 =>
 jn (α := Bool) (fun b28 H34 =>
 jn (α := Bool) (fun b35 H41 =>
 jn (α := Bool) (fun b42 H48 =>
 J19 (b42, true) H48)
 (fun J43 => ift b35
 (ldL H41 ((b1, 0).1, (b1, 0).2 + 3) fun x46 =>
 J43 (((Sl.len x46 : Int) : Int) == 0) H41)
 (J43 false H41)))
 (fun J36 => ift b28
 (ldS H34 ((b1, 0).1, (b1, 0).2 + 2) fun x39 =>
 J36 (x39 == ([] : Str)) H34)
 (J36 false H34)))
 (fun J29 => ift ((x26 : Int) == 0)
 (J29 true H18)
 (ldI H18 .i64 ((b1, 0).1, (b1, 0).2 + 1) fun x32 =>
 J29 ((x32 : Int) == 1) H18)))
 (ift ((x23 : Int) == 2)
 (ldS H18 ((b1, 0).1, (b1, 0).2 + 2) fun x50 =>
 jn (α := Bool) (fun b52 H58 =>
 J19 (b52, true) H58)
 (fun J53 => ift (x50 == ([] : Str))
 (ldL H18 ((b1, 0).1, (b1, 0).2 + 3) fun x56 =>
 J53 (((Sl.len x56 : Int) : Int) == 0) H18)
 (J53 false H18)))
 (ift ((x23 : Int) == 3)
 (ldS H18 ((b1, 0).1, (b1, 0).2 + 2) fun x60 =>
 c_value_number C x60 (fun r62 r63 H64 =>
 jn (α := Bool) (fun b65 H71 =>
 jn (α := Bool) (fun b72 H78 =>
 J19 (b72, (decide ((r62 : Int) ≤ 200))) H78)
 (fun J73 => ift b65
 (ldL H71 ((b1, 0).1, (b1, 0).2 + 3) fun x76 =>
 J73 (((Sl.len x76 : Int) : Int) == 0) H71)
 (J73 false H71)))
 (fun J66 => ift r63
 (ldI H64 .i64 ((b1, 0).1, (b1, 0).2 + 1) fun x69 =>
 J66 ((x69 : Int) == 0) H64)
 (J66 false H64))) H18)
 (ift ((x23 : Int) == 4)
 (jn (α := Bool × Bool) (fun x81 H82 =>
 J19 (x81.1, x81.2) H82)
 (fun J80 => dr H18 fun Hs84 =>
 ldI Hs84 .i64 ((b1, 0).1, (b1, 0).2 + 1) fun x86 =>
 ldS Hs84 ((b1, 0).1, (b1, 0).2 + 2) fun x88 =>
 ift ((x86 : Int) == 0)
 (ldL Hs84 ((b1, 0).1, (b1, 0).2 + 3) fun x91 =>
 J80 ((((Sl.len x91 : Int) : Int) == 0), (decide (((List.length x88 : Int) : Int) ≤ 4096))) H18)
 (J80 (false, (decide (((List.length x88 : Int) : Int) ≤ 4096))) H18)))
 (ift ((x23 : Int) == 5)
 (jn (α := Bool × Bool) (fun x95 H96 =>
 J19 (x95.1, x95.2) H96)
 (fun J94 => dr H18 fun Hs98 =>
 ldI Hs98 .i64 ((b1, 0).1, (b1, 0).2 + 1) fun x100 =>
 ldL Hs98 ((b1, 0).1, (b1, 0).2 + 3) fun x102 =>
 ift ((x100 : Int) == 0)
 (ldS Hs98 ((b1, 0).1, (b1, 0).2 + 2) fun x105 =>
 ift (x105 == ([] : Str))
 (ldL Hs98 ((b1, 0).1, (b1, 0).2 + 3) fun x108 =>
 J94 ((((Sl.len x108 : Int) : Int) != 1), (decide (((Sl.len x102 : Int) : Int) ≤ 16))) H18)
 (J94 (false, (decide (((Sl.len x102 : Int) : Int) ≤ 16))) H18))
 (J94 (false, (decide (((Sl.len x102 : Int) : Int) ≤ 16))) H18)))
 (ift ((x23 : Int) == 6)
 (ldS H18 ((b1, 0).1, (b1, 0).2 + 2) fun x111 =>
 c_strings_Cut C x111 [46] (fun r113 r114 r115 H116 =>
 jn (α := Bool × Bool) (fun x118 H119 =>
 J19 (x118.1, x118.2) H119)
 (fun J117 => dr H116 fun Hs121 =>
 ldI Hs121 .i64 ((b1, 0).1, (b1, 0).2 + 1) fun x123 =>
 ldL Hs121 ((b1, 0).1, (b1, 0).2 + 3) fun x125 =>
 ift ((x123 : Int) == 0)
 (c_value_name C r113 (fun r129 H130 =>
 Heap.le Hs121 H130 ∧
 ift r129
 (ift r115
 (c_value_name C r114 (fun r134 H135 =>
 Heap.le Hs121 H135 ∧
 ift r134
 (J117 (true, (decide (((Sl.len x125 : Int) : Int) ≤ 8))) H135)
 (ift (!r115)
 (ldS Hs121 ((b1, 0).1, (b1, 0).2 + 2) fun x138 =>
 ift (!(x138 == ([116, 114, 117, 101] : Str)))
 (ldS Hs121 ((b1, 0).1, (b1, 0).2 + 2) fun x141 =>
 J117 ((!(x141 == ([102, 97, 108, 115, 101] : Str))), (decide (((Sl.len x125 : Int) : Int) ≤ 8))) H135)
 (J117 (false, (decide (((Sl.len x125 : Int) : Int) ≤ 8))) H135))
 (J117 (false, (decide (((Sl.len x125 : Int) : Int) ≤ 8))) H135))) H130)
 (ift (!r115)
 (ldS Hs121 ((b1, 0).1, (b1, 0).2 + 2) fun x144 =>
 ift (!(x144 == ([116, 114, 117, 101] : Str)))
 (ldS Hs121 ((b1, 0).1, (b1, 0).2 + 2) fun x147 =>
 J117 ((!(x147 == ([102, 97, 108, 115, 101] : Str))), (decide (((Sl.len x125 : Int) : Int) ≤ 8))) H130)
 (J117 (false, (decide (((Sl.len x125 : Int) : Int) ≤ 8))) H130))
 (J117 (false, (decide (((Sl.len x125 : Int) : Int) ≤ 8))) H130)))
 (J117 (false, (decide (((Sl.len x125 : Int) : Int) ≤ 8))) H130)) H116)
 (J117 (false, (decide (((Sl.len x125 : Int) : Int) ≤ 8))) H116))) H18)
 (J19 (false, true) H18))))))))
 (fun J13 => ift b5
 (ldL H11 ((b1, 0).1, (b1, 0).2 + 3) fun x16 =>
 J13 (((Sl.len x16 : Int) : Int) == 0) H11)
 (J13 false H11)))
 (fun J6 => ift ((x3 : Int) == 0)
 (ldS H2 ((b1, 0).1, (b1, 0).2 + 2) fun x9 =>
 J6 (x9 == ([] : Str)) H2)
 (J6 false H2))) H
theorem ad_value_item_look (C : Ctx) (p_v : T_api_Value) (K : Bool → Bool → Heap → Prop) (H : Heap) (h : sh_value_item_look C p_v K H) : c_value_item_look C p_v K H := by
 refine Spec.enter Tryz.func39 rfl Tryz.ntmps39 rfl (GC.sub [(0, .agg (T_api_Value.c p_v).toArray)] ⟨rfl, trivial⟩ (Zo (GL.box (v := .agg (T_api_Value.c p_v).toArray) (cs := T_api_Value.c p_v) h trivial rfl rfl rfl ?_)))
 intro b1 H2 h
 refine Za (Za (GL.nil (Zo (Zf ?_))))
 obtain ⟨x3, hr4, h⟩ := h
 refine Zl hr4 (Zi (.bool ((x3 : Int) == 0)) (Zm ?_))
 obtain ⟨J6, h, hR7⟩ := h
 refine GL.cut (α := Bool) 4 J6 (fun b5 => [(20, .bool b5), (1, pv (some (b1, 0)))]) ?_ ?_
 rcases Zb ((x3 : Int) == 0) with hc8 | hc8
 replace h := h.1 hc8
 refine Zu hc8 (OV.fieldAddr rfl rfl) ?_
 obtain ⟨x9, hr10, h⟩ := h
 refine Zu hc8 (OV.load rfl rfl hr10) (Zu hc8 (OV.sbin (a := x9) (b := ([] : Str)) (v := .bool (x9 == ([] : Str))) rfl rfl rfl) (Zt hc8 ?_))
 exact GL.jump (fun _ _ h => h) (x9 == ([] : Str)) h ⟨rfl, rfl, trivial⟩
 replace h := h.2 hc8
 refine Zk hc8 (Zk hc8 (Zk hc8 (Zn hc8 ?_)))
 exact GL.jump (fun _ _ h => h) false h ⟨rfl, rfl, trivial⟩
 intro b5 H11 h
 replace h := hR7 b5 H11 h
 refine Zm ?_
 obtain ⟨J13, h, hR14⟩ := h
 refine GL.cut (α := Bool) 5 J13 (fun b12 => [(26, .bool b12), (1, pv (some (b1, 0)))]) ?_ ?_
 rcases Bool.eq_false_or_eq_true b5 with hc15 | hc15
 replace h := h.1 hc15
 refine Zu hc15 (OV.fieldAddr rfl rfl) ?_
 obtain ⟨x16, hr17, h⟩ := h
 refine Zu hc15 (OV.load rfl rfl hr17) (Zu hc15 (OV.lenSl rfl rfl) (Zu hc15 (OV.ibin (v := .bool (((Sl.len x16 : Int) : Int) == 0)) rfl rfl rfl) (Zt hc15 ?_)))
 exact GL.jump (fun _ _ h => h) (((Sl.len x16 : Int) : Int) == 0) h ⟨rfl, rfl, trivial⟩
 replace h := h.2 hc15
 refine Zk hc15 (Zk hc15 (Zk hc15 (Zk hc15 (Zn hc15 ?_))))
 exact GL.jump (fun _ _ h => h) false h ⟨rfl, rfl, trivial⟩
 intro b12 H18 h
 replace h := hR14 b12 H18 h
 refine Za (Za (GL.nil ?_))
 obtain ⟨J19, h, hR22⟩ := h
 refine GC.join (α := Bool × Bool) J19 (fun x20 => [(2, .bool x20.1), (3, .bool x20.2), (1, pv (some (b1, 0)))]) ?_ ?_
 refine Zo (Zf ?_)
 obtain ⟨x23, hr24, h⟩ := h
 refine Zl hr24 (GL.nil (GC.block (Zo (Zi (.bool ((x23 : Int) == 1)) (Za (GL.nil ?_))))))
 refine Zd (fun hc25 => ?_) fun hc25 => ?_
 replace h := h.1 hc25
 refine GC.region (Zf ?_)
 obtain ⟨x26, hr27, h⟩ := h
 refine Zl hr27 (Zi (.bool ((x26 : Int) == 0)) (Zm ?_))
 obtain ⟨J29, h, hR30⟩ := h
 refine GL.cut (α := Bool) 4 J29 (fun b28 => [(38, .bool b28), (1, pv (some (b1, 0))), (3, .bool true)]) ?_ ?_
 rcases Zb ((x26 : Int) == 0) with hc31 | hc31
 replace h := h.1 hc31
 refine Zk hc31 (Zk hc31 (Zk hc31 (Zt hc31 ?_)))
 exact GL.jump (fun _ _ h => h) true h ⟨rfl, rfl, rfl, trivial⟩
 replace h := h.2 hc31
 refine Zu hc31 (OV.fieldAddr rfl rfl) ?_
 obtain ⟨x32, hr33, h⟩ := h
 refine Zu hc31 (OV.load rfl rfl hr33) (Zu hc31 (OV.ibin (v := .bool ((x32 : Int) == 1)) rfl rfl rfl) (Zn hc31 ?_))
 exact GL.jump (fun _ _ h => h) ((x32 : Int) == 1) h ⟨rfl, rfl, rfl, trivial⟩
 intro b28 H34 h
 replace h := hR30 b28 H34 h
 refine Zm ?_
 obtain ⟨J36, h, hR37⟩ := h
 refine GL.cut (α := Bool) 4 J36 (fun b35 => [(43, .bool b35), (1, pv (some (b1, 0))), (3, .bool true)]) ?_ ?_
 rcases Bool.eq_false_or_eq_true b28 with hc38 | hc38
 replace h := h.1 hc38
 refine Zu hc38 (OV.fieldAddr rfl rfl) ?_
 obtain ⟨x39, hr40, h⟩ := h
 refine Zu hc38 (OV.load rfl rfl hr40) (Zu hc38 (OV.sbin (a := x39) (b := ([] : Str)) (v := .bool (x39 == ([] : Str))) rfl rfl rfl) (Zt hc38 ?_))
 exact GL.jump (fun _ _ h => h) (x39 == ([] : Str)) h ⟨rfl, rfl, rfl, trivial⟩
 replace h := h.2 hc38
 refine Zk hc38 (Zk hc38 (Zk hc38 (Zn hc38 ?_)))
 exact GL.jump (fun _ _ h => h) false h ⟨rfl, rfl, rfl, trivial⟩
 intro b35 H41 h
 replace h := hR37 b35 H41 h
 refine Zm ?_
 obtain ⟨J43, h, hR44⟩ := h
 refine GL.cut (α := Bool) 5 J43 (fun b42 => [(49, .bool b42), (1, pv (some (b1, 0))), (3, .bool true)]) ?_ ?_
 rcases Bool.eq_false_or_eq_true b35 with hc45 | hc45
 replace h := h.1 hc45
 refine Zu hc45 (OV.fieldAddr rfl rfl) ?_
 obtain ⟨x46, hr47, h⟩ := h
 refine Zu hc45 (OV.load rfl rfl hr47) (Zu hc45 (OV.lenSl rfl rfl) (Zu hc45 (OV.ibin (v := .bool (((Sl.len x46 : Int) : Int) == 0)) rfl rfl rfl) (Zt hc45 ?_)))
 exact GL.jump (fun _ _ h => h) (((Sl.len x46 : Int) : Int) == 0) h ⟨rfl, rfl, rfl, trivial⟩
 replace h := h.2 hc45
 refine Zk hc45 (Zk hc45 (Zk hc45 (Zk hc45 (Zn hc45 ?_))))
 exact GL.jump (fun _ _ h => h) false h ⟨rfl, rfl, rfl, trivial⟩
 intro b42 H48 h
 replace h := hR44 b42 H48 h
 refine Za ?_
 exact GL.jump (fun _ _ h => h) (b42, true) h ⟨rfl, rfl, rfl, trivial⟩
 replace h := h.2 hc25
 refine Zo (Zi (.bool ((x23 : Int) == 2)) (Za (GL.nil ?_)))
 refine Zd (fun hc49 => ?_) fun hc49 => ?_
 replace h := h.1 hc49
 refine GC.region (Zf ?_)
 obtain ⟨x50, hr51, h⟩ := h
 refine Zl hr51 (Zv (OV.sbin (a := x50) (b := ([] : Str)) (v := .bool (x50 == ([] : Str))) rfl rfl rfl) (Zm ?_))
 obtain ⟨J53, h, hR54⟩ := h
 refine GL.cut (α := Bool) 5 J53 (fun b52 => [(60, .bool b52), (1, pv (some (b1, 0))), (3, .bool true)]) ?_ ?_
 rcases Zb (x50 == ([] : Str)) with hc55 | hc55
 replace h := h.1 hc55
 refine Zu hc55 (OV.fieldAddr rfl rfl) ?_
 obtain ⟨x56, hr57, h⟩ := h
 refine Zu hc55 (OV.load rfl rfl hr57) (Zu hc55 (OV.lenSl rfl rfl) (Zu hc55 (OV.ibin (v := .bool (((Sl.len x56 : Int) : Int) == 0)) rfl rfl rfl) (Zt hc55 ?_)))
 exact GL.jump (fun _ _ h => h) (((Sl.len x56 : Int) : Int) == 0) h ⟨rfl, rfl, rfl, trivial⟩
 replace h := h.2 hc55
 refine Zk hc55 (Zk hc55 (Zk hc55 (Zk hc55 (Zn hc55 ?_))))
 exact GL.jump (fun _ _ h => h) false h ⟨rfl, rfl, rfl, trivial⟩
 intro b52 H58 h
 replace h := hR54 b52 H58 h
 refine Za ?_
 exact GL.jump (fun _ _ h => h) (b52, true) h ⟨rfl, rfl, rfl, trivial⟩
 replace h := h.2 hc49
 refine Zo (Zi (.bool ((x23 : Int) == 3)) (Za (GL.nil ?_)))
 refine Zd (fun hc59 => ?_) fun hc59 => ?_
 replace h := h.1 hc59
 refine Zo (Zf ?_)
 obtain ⟨x60, hr61, h⟩ := h
 refine Zl hr61 (Zc h ok_value_number ?_)
 rintro _ H64 ⟨r62, r63, rfl, h⟩
 refine Zm (Zv (OV.extract (v := .int .i64 r62) rfl rfl) (Zv (OV.extract (v := .bool r63) rfl rfl) (Za (Za (GL.nil (GC.region (Zm (Zm ?_))))))))
 obtain ⟨J66, h, hR67⟩ := h
 refine GL.cut (α := Bool) 4 J66 (fun b65 => [(74, .bool b65), (1, pv (some (b1, 0))), (4, .int .i64 r62)]) ?_ ?_
 rcases Bool.eq_false_or_eq_true r63 with hc68 | hc68
 replace h := h.1 hc68
 refine Zu hc68 (OV.fieldAddr rfl rfl) ?_
 obtain ⟨x69, hr70, h⟩ := h
 refine Zu hc68 (OV.load rfl rfl hr70) (Zu hc68 (OV.ibin (v := .bool ((x69 : Int) == 0)) rfl rfl rfl) (Zt hc68 ?_))
 exact GL.jump (fun _ _ h => h) ((x69 : Int) == 0) h ⟨rfl, rfl, rfl, trivial⟩
 replace h := h.2 hc68
 refine Zk hc68 (Zk hc68 (Zk hc68 (Zn hc68 ?_)))
 exact GL.jump (fun _ _ h => h) false h ⟨rfl, rfl, rfl, trivial⟩
 intro b65 H71 h
 replace h := hR67 b65 H71 h
 refine Zm ?_
 obtain ⟨J73, h, hR74⟩ := h
 refine GL.cut (α := Bool) 5 J73 (fun b72 => [(80, .bool b72), (1, pv (some (b1, 0))), (4, .int .i64 r62)]) ?_ ?_
 rcases Bool.eq_false_or_eq_true b65 with hc75 | hc75
 replace h := h.1 hc75
 refine Zu hc75 (OV.fieldAddr rfl rfl) ?_
 obtain ⟨x76, hr77, h⟩ := h
 refine Zu hc75 (OV.load rfl rfl hr77) (Zu hc75 (OV.lenSl rfl rfl) (Zu hc75 (OV.ibin (v := .bool (((Sl.len x76 : Int) : Int) == 0)) rfl rfl rfl) (Zt hc75 ?_)))
 exact GL.jump (fun _ _ h => h) (((Sl.len x76 : Int) : Int) == 0) h ⟨rfl, rfl, rfl, trivial⟩
 replace h := h.2 hc75
 refine Zk hc75 (Zk hc75 (Zk hc75 (Zk hc75 (Zn hc75 ?_))))
 exact GL.jump (fun _ _ h => h) false h ⟨rfl, rfl, rfl, trivial⟩
 intro b72 H78 h
 replace h := hR74 b72 H78 h
 refine Zm (Zi (.bool (decide ((r62 : Int) ≤ 200))) (Za (Za ?_)))
 exact GL.jump (fun _ _ h => h) (b72, (decide ((r62 : Int) ≤ 200))) h ⟨rfl, rfl, rfl, trivial⟩
 replace h := h.2 hc59
 refine Zo (Zi (.bool ((x23 : Int) == 4)) (Za (GL.nil ?_)))
 refine Zd (fun hc79 => ?_) fun hc79 => ?_
 replace h := h.1 hc79
 obtain ⟨J80, h, hR83⟩ := h
 refine GC.meet (α := Bool × Bool) J80 (fun x81 => [(2, .bool x81.1), (3, .bool x81.2), (1, pv (some (b1, 0)))]) ?_ ?_
 obtain ⟨Hs84, hle85, h⟩ := h
 refine GC.any (Hs := Hs84) (by kernel_rfl) hle85 (Zp 0 rfl (OV.fieldAddr rfl rfl) ?_)
 obtain ⟨x86, hr87, h⟩ := h
 refine Zp 1 rfl (OV.load rfl rfl hr87) (Zp 2 rfl (OV.ibin (v := .bool ((x86 : Int) == 0)) rfl rfl rfl) (Zp 3 rfl (OV.move rfl) (Zp 9 rfl (OV.fieldAddr rfl rfl) ?_)))
 obtain ⟨x88, hr89, h⟩ := h
 refine Zp 10 rfl (OV.load rfl rfl hr89) (Zp 11 rfl (OV.lenStr rfl rfl) (Zp 12 rfl (OV.ibin (v := .bool (decide (((List.length x88 : Int) : Int) ≤ 4096))) rfl rfl rfl) ?_))
 rcases Zb ((x86 : Int) == 0) with hc90 | hc90
 replace h := h.1 hc90
 refine Zg 4 rfl ⟨_, _, rfl, rfl, hc90⟩ (OV.fieldAddr rfl rfl) ?_
 obtain ⟨x91, hr92, h⟩ := h
 refine Zg 5 rfl ⟨_, _, rfl, rfl, hc90⟩ (OV.load rfl rfl hr92) (Zg 6 rfl ⟨_, _, rfl, rfl, hc90⟩ (OV.lenSl rfl rfl) (Zg 7 rfl ⟨_, _, rfl, rfl, hc90⟩ (OV.ibin (v := .bool (((Sl.len x91 : Int) : Int) == 0)) rfl rfl rfl) (Zp 8 rfl (OV.pickT rfl hc90 rfl) (Zp 13 rfl (OV.assign rfl) (Zp 14 rfl (OV.assign rfl) (GA.done (by kernel_rfl) ?_))))))
 exact GL.jump (fun _ _ h => h) ((((Sl.len x91 : Int) : Int) == 0), (decide (((List.length x88 : Int) : Int) ≤ 4096))) h ⟨rfl, rfl, rfl, trivial⟩
 replace h := h.2 hc90
 refine Zj 4 rfl ⟨_, rfl, .inl ⟨_, rfl, hc90⟩⟩ (Zj 5 rfl ⟨_, rfl, .inl ⟨_, rfl, hc90⟩⟩ (Zj 6 rfl ⟨_, rfl, .inl ⟨_, rfl, hc90⟩⟩ (Zj 7 rfl ⟨_, rfl, .inl ⟨_, rfl, hc90⟩⟩ (Zp 8 rfl (OV.pickF rfl hc90 rfl) (Zp 13 rfl (OV.assign rfl) (Zp 14 rfl (OV.assign rfl) (GA.done (by kernel_rfl) ?_)))))))
 exact GL.jump (fun _ _ h => h) (false, (decide (((List.length x88 : Int) : Int) ≤ 4096))) h ⟨rfl, rfl, rfl, trivial⟩
 intro x81 H82 h
 replace h := hR83 x81 H82 h
 exact GL.jump (fun _ _ h => h) (x81.1, x81.2) h ⟨rfl, rfl, rfl, trivial⟩
 replace h := h.2 hc79
 refine Zo (Zi (.bool ((x23 : Int) == 5)) (Za (GL.nil ?_)))
 refine Zd (fun hc93 => ?_) fun hc93 => ?_
 replace h := h.1 hc93
 obtain ⟨J94, h, hR97⟩ := h
 refine GC.meet (α := Bool × Bool) J94 (fun x95 => [(2, .bool x95.1), (3, .bool x95.2), (1, pv (some (b1, 0)))]) ?_ ?_
 obtain ⟨Hs98, hle99, h⟩ := h
 refine GC.any (Hs := Hs98) (by kernel_rfl) hle99 (Zp 0 rfl (OV.fieldAddr rfl rfl) ?_)
 obtain ⟨x100, hr101, h⟩ := h
 refine Zp 1 rfl (OV.load rfl rfl hr101) (Zp 2 rfl (OV.ibin (v := .bool ((x100 : Int) == 0)) rfl rfl rfl) (Zp 3 rfl (OV.move rfl) (Zp 14 rfl (OV.fieldAddr rfl rfl) ?_)))
 obtain ⟨x102, hr103, h⟩ := h
 refine Zp 15 rfl (OV.load rfl rfl hr103) (Zp 16 rfl (OV.lenSl rfl rfl) (Zp 17 rfl (OV.ibin (v := .bool (decide (((Sl.len x102 : Int) : Int) ≤ 16))) rfl rfl rfl) ?_))
 rcases Zb ((x100 : Int) == 0) with hc104 | hc104
 replace h := h.1 hc104
 refine Zg 4 rfl ⟨_, _, rfl, rfl, hc104⟩ (OV.fieldAddr rfl rfl) ?_
 obtain ⟨x105, hr106, h⟩ := h
 refine Zg 5 rfl ⟨_, _, rfl, rfl, hc104⟩ (OV.load rfl rfl hr106) (Zg 6 rfl ⟨_, _, rfl, rfl, hc104⟩ (OV.sbin (a := x105) (b := ([] : Str)) (v := .bool (x105 == ([] : Str))) rfl rfl rfl) (Zp 7 rfl (OV.pickT rfl hc104 rfl) (Zp 8 rfl (OV.move rfl) ?_)))
 rcases Zb (x105 == ([] : Str)) with hc107 | hc107
 replace h := h.1 hc107
 refine Zg 9 rfl ⟨_, _, rfl, rfl, hc107⟩ (OV.fieldAddr rfl rfl) ?_
 obtain ⟨x108, hr109, h⟩ := h
 refine Zg 10 rfl ⟨_, _, rfl, rfl, hc107⟩ (OV.load rfl rfl hr109) (Zg 11 rfl ⟨_, _, rfl, rfl, hc107⟩ (OV.lenSl rfl rfl) (Zg 12 rfl ⟨_, _, rfl, rfl, hc107⟩ (OV.ibin (v := .bool (((Sl.len x108 : Int) : Int) != 1)) rfl rfl rfl) (Zp 13 rfl (OV.pickT rfl hc107 rfl) (Zp 18 rfl (OV.assign rfl) (Zp 19 rfl (OV.assign rfl) (GA.done (by kernel_rfl) ?_))))))
 exact GL.jump (fun _ _ h => h) ((((Sl.len x108 : Int) : Int) != 1), (decide (((Sl.len x102 : Int) : Int) ≤ 16))) h ⟨rfl, rfl, rfl, trivial⟩
 replace h := h.2 hc107
 refine Zj 9 rfl ⟨_, rfl, .inl ⟨_, rfl, hc107⟩⟩ (Zj 10 rfl ⟨_, rfl, .inl ⟨_, rfl, hc107⟩⟩ (Zj 11 rfl ⟨_, rfl, .inl ⟨_, rfl, hc107⟩⟩ (Zj 12 rfl ⟨_, rfl, .inl ⟨_, rfl, hc107⟩⟩ (Zp 13 rfl (OV.pickF rfl hc107 rfl) (Zp 18 rfl (OV.assign rfl) (Zp 19 rfl (OV.assign rfl) (GA.done (by kernel_rfl) ?_)))))))
 exact GL.jump (fun _ _ h => h) (false, (decide (((Sl.len x102 : Int) : Int) ≤ 16))) h ⟨rfl, rfl, rfl, trivial⟩
 replace h := h.2 hc104
 refine Zj 4 rfl ⟨_, rfl, .inl ⟨_, rfl, hc104⟩⟩ (Zj 5 rfl ⟨_, rfl, .inl ⟨_, rfl, hc104⟩⟩ (Zj 6 rfl ⟨_, rfl, .inl ⟨_, rfl, hc104⟩⟩ (Zp 7 rfl (OV.pickF rfl hc104 rfl) (Zp 8 rfl (OV.move rfl) (Zj 9 rfl ⟨_, rfl, .inl ⟨_, rfl, rfl⟩⟩ (Zj 10 rfl ⟨_, rfl, .inl ⟨_, rfl, rfl⟩⟩ (Zj 11 rfl ⟨_, rfl, .inl ⟨_, rfl, rfl⟩⟩ (Zj 12 rfl ⟨_, rfl, .inl ⟨_, rfl, rfl⟩⟩ (Zp 13 rfl (OV.pickF rfl rfl rfl) (Zp 18 rfl (OV.assign rfl) (Zp 19 rfl (OV.assign rfl) ?_)))))))))))
 refine GA.done (by kernel_rfl) ?_
 exact GL.jump (fun _ _ h => h) (false, (decide (((Sl.len x102 : Int) : Int) ≤ 16))) h ⟨rfl, rfl, rfl, trivial⟩
 intro x95 H96 h
 replace h := hR97 x95 H96 h
 exact GL.jump (fun _ _ h => h) (x95.1, x95.2) h ⟨rfl, rfl, rfl, trivial⟩
 replace h := h.2 hc93
 refine Zo (Zi (.bool ((x23 : Int) == 6)) (Za (GL.nil ?_)))
 refine Zd (fun hc110 => ?_) fun hc110 => ?_
 replace h := h.1 hc110
 refine Zo (Zf ?_)
 obtain ⟨x111, hr112, h⟩ := h
 refine Zl hr112 (Zc h ok_strings_Cut ?_)
 rintro _ H116 ⟨r113, r114, r115, rfl, h⟩
 refine Zm (Zv (OV.extract (v := sv r113) rfl rfl) (Zv (OV.extract (v := sv r114) rfl rfl) (Zv (OV.extract (v := .bool r115) rfl rfl) (Za (Za (Za (GL.nil ?_)))))))
 obtain ⟨J117, h, hR120⟩ := h
 refine GC.meet (α := Bool × Bool) J117 (fun x118 => [(2, .bool x118.1), (3, .bool x118.2), (1, pv (some (b1, 0)))]) ?_ ?_
 obtain ⟨Hs121, hle122, h⟩ := h
 refine GC.any (Hs := Hs121) (by kernel_rfl) hle122 (Zp 0 rfl (OV.fieldAddr rfl rfl) ?_)
 obtain ⟨x123, hr124, h⟩ := h
 refine Zp 1 rfl (OV.load rfl rfl hr124) (Zp 2 rfl (OV.ibin (v := .bool ((x123 : Int) == 0)) rfl rfl rfl) (Zp 3 rfl (OV.move rfl) (Zp 28 rfl (OV.fieldAddr rfl rfl) ?_)))
 obtain ⟨x125, hr126, h⟩ := h
 refine Zp 29 rfl (OV.load rfl rfl hr126) (Zp 30 rfl (OV.lenSl rfl rfl) (Zp 31 rfl (OV.ibin (v := .bool (decide (((Sl.len x125 : Int) : Int) ≤ 8))) rfl rfl rfl) ?_))
 rcases Zb ((x123 : Int) == 0) with hc127 | hc127
 replace h := h.1 hc127
 refine Zg 4 rfl ⟨_, _, rfl, rfl, hc127⟩ (OV.move rfl) (GA.eff 5 rfl (by kernel_rfl) (GL.call h ⟨_, _, rfl, rfl, hc127⟩ rfl ok_value_name (vs := [sv r113]) rfl ?_))
 rintro _ H130 ⟨r129, rfl, h⟩
 obtain ⟨hle128, h⟩ := h
 refine GA.back hle128 (Zp 6 rfl (OV.pickT rfl hc127 rfl) (Zp 7 rfl (OV.move rfl) ?_))
 rcases Bool.eq_false_or_eq_true r129 with hc131 | hc131
 replace h := h.1 hc131
 refine Zg 8 rfl ⟨_, _, rfl, rfl, hc131⟩ (OV.move rfl) (Zg 9 rfl ⟨_, _, rfl, rfl, hc131⟩ (OV.move rfl) ?_)
 rcases Bool.eq_false_or_eq_true r115 with hc132 | hc132
 replace h := h.1 hc132
 refine Zg 10 rfl ⟨_, _, rfl, rfl, hc132⟩ (OV.move rfl) (GA.eff 11 rfl (by kernel_rfl) (GL.call h ⟨_, _, rfl, rfl, hc132⟩ rfl ok_value_name (vs := [sv r114]) rfl ?_))
 rintro _ H135 ⟨r134, rfl, h⟩
 obtain ⟨hle133, h⟩ := h
 refine GA.back hle133 (Zg 12 rfl ⟨_, _, rfl, rfl, hc131⟩ (OV.pickT rfl hc132 rfl) (Zg 13 rfl ⟨_, _, rfl, rfl, hc131⟩ (OV.move rfl) ?_))
 rcases Bool.eq_false_or_eq_true r134 with hc136 | hc136
 replace h := h.1 hc136
 refine Zj 14 rfl ⟨_, rfl, .inl ⟨_, rfl, hc136⟩⟩ (Zj 15 rfl ⟨_, rfl, .inl ⟨_, rfl, hc136⟩⟩ (Zj 16 rfl ⟨_, rfl, .inl ⟨_, rfl, hc136⟩⟩ (Zj 17 rfl ⟨_, rfl, .inr rfl⟩ (Zj 18 rfl ⟨_, rfl, .inr rfl⟩ (Zj 19 rfl ⟨_, rfl, .inr rfl⟩ (Zj 20 rfl ⟨_, rfl, .inl ⟨_, rfl, hc136⟩⟩ (Zj 21 rfl ⟨_, rfl, .inl ⟨_, rfl, hc136⟩⟩ (Zj 22 rfl ⟨_, rfl, .inr rfl⟩ (Zj 23 rfl ⟨_, rfl, .inr rfl⟩ (Zj 24 rfl ⟨_, rfl, .inr rfl⟩ (Zj 25 rfl ⟨_, rfl, .inl ⟨_, rfl, hc136⟩⟩ ?_)))))))))))
 refine Zg 26 rfl ⟨_, _, rfl, rfl, hc131⟩ (OV.pickT rfl hc136 rfl) (Zp 27 rfl (OV.pickT rfl hc131 rfl) (Zp 32 rfl (OV.assign rfl) (Zp 33 rfl (OV.assign rfl) (GA.done (by kernel_rfl) ?_))))
 exact GL.jump (fun _ _ h => h) (true, (decide (((Sl.len x125 : Int) : Int) ≤ 8))) h ⟨rfl, rfl, rfl, trivial⟩
 replace h := h.2 hc136
 refine Zg 14 rfl ⟨_, _, rfl, rfl, hc136⟩ (OV.move rfl) (Zg 15 rfl ⟨_, _, rfl, rfl, hc136⟩ (OV.not rfl) (Zg 16 rfl ⟨_, _, rfl, rfl, hc136⟩ (OV.move rfl) ?_))
 rcases Zb (!r115) with hc137 | hc137
 replace h := h.1 hc137
 refine Zg 17 rfl ⟨_, _, rfl, rfl, hc137⟩ (OV.fieldAddr rfl rfl) ?_
 obtain ⟨x138, hr139, h⟩ := h
 refine Zg 18 rfl ⟨_, _, rfl, rfl, hc137⟩ (OV.load rfl rfl hr139) (Zg 19 rfl ⟨_, _, rfl, rfl, hc137⟩ (OV.sbin (a := x138) (b := ([116, 114, 117, 101] : Str)) (v := .bool (!(x138 == ([116, 114, 117, 101] : Str)))) rfl rfl rfl) (Zg 20 rfl ⟨_, _, rfl, rfl, hc136⟩ (OV.pickT rfl hc137 rfl) (Zg 21 rfl ⟨_, _, rfl, rfl, hc136⟩ (OV.move rfl) ?_)))
 rcases Zb (!(x138 == ([116, 114, 117, 101] : Str))) with hc140 | hc140
 replace h := h.1 hc140
 refine Zg 22 rfl ⟨_, _, rfl, rfl, hc140⟩ (OV.fieldAddr rfl rfl) ?_
 obtain ⟨x141, hr142, h⟩ := h
 refine Zg 23 rfl ⟨_, _, rfl, rfl, hc140⟩ (OV.load rfl rfl hr142) (Zg 24 rfl ⟨_, _, rfl, rfl, hc140⟩ (OV.sbin (a := x141) (b := ([102, 97, 108, 115, 101] : Str)) (v := .bool (!(x141 == ([102, 97, 108, 115, 101] : Str)))) rfl rfl rfl) (Zg 25 rfl ⟨_, _, rfl, rfl, hc136⟩ (OV.pickT rfl hc140 rfl) (Zg 26 rfl ⟨_, _, rfl, rfl, hc131⟩ (OV.pickF rfl hc136 rfl) (Zp 27 rfl (OV.pickT rfl hc131 rfl) (Zp 32 rfl (OV.assign rfl) (Zp 33 rfl (OV.assign rfl) (GA.done (by kernel_rfl) ?_)))))))
 exact GL.jump (fun _ _ h => h) ((!(x141 == ([102, 97, 108, 115, 101] : Str))), (decide (((Sl.len x125 : Int) : Int) ≤ 8))) h ⟨rfl, rfl, rfl, trivial⟩
 replace h := h.2 hc140
 refine Zj 22 rfl ⟨_, rfl, .inl ⟨_, rfl, hc140⟩⟩ (Zj 23 rfl ⟨_, rfl, .inl ⟨_, rfl, hc140⟩⟩ (Zj 24 rfl ⟨_, rfl, .inl ⟨_, rfl, hc140⟩⟩ (Zg 25 rfl ⟨_, _, rfl, rfl, hc136⟩ (OV.pickF rfl hc140 rfl) (Zg 26 rfl ⟨_, _, rfl, rfl, hc131⟩ (OV.pickF rfl hc136 rfl) (Zp 27 rfl (OV.pickT rfl hc131 rfl) (Zp 32 rfl (OV.assign rfl) (Zp 33 rfl (OV.assign rfl) (GA.done (by kernel_rfl) ?_))))))))
 exact GL.jump (fun _ _ h => h) (false, (decide (((Sl.len x125 : Int) : Int) ≤ 8))) h ⟨rfl, rfl, rfl, trivial⟩
 replace h := h.2 hc137
 refine Zj 17 rfl ⟨_, rfl, .inl ⟨_, rfl, hc137⟩⟩ (Zj 18 rfl ⟨_, rfl, .inl ⟨_, rfl, hc137⟩⟩ (Zj 19 rfl ⟨_, rfl, .inl ⟨_, rfl, hc137⟩⟩ (Zg 20 rfl ⟨_, _, rfl, rfl, hc136⟩ (OV.pickF rfl hc137 rfl) (Zg 21 rfl ⟨_, _, rfl, rfl, hc136⟩ (OV.move rfl) (Zj 22 rfl ⟨_, rfl, .inl ⟨_, rfl, rfl⟩⟩ (Zj 23 rfl ⟨_, rfl, .inl ⟨_, rfl, rfl⟩⟩ (Zj 24 rfl ⟨_, rfl, .inl ⟨_, rfl, rfl⟩⟩ (Zg 25 rfl ⟨_, _, rfl, rfl, hc136⟩ (OV.pickF rfl rfl rfl) (Zg 26 rfl ⟨_, _, rfl, rfl, hc131⟩ (OV.pickF rfl hc136 rfl) (Zp 27 rfl (OV.pickT rfl hc131 rfl) (Zp 32 rfl (OV.assign rfl) ?_)))))))))))
 refine Zp 33 rfl (OV.assign rfl) (GA.done (by kernel_rfl) ?_)
 exact GL.jump (fun _ _ h => h) (false, (decide (((Sl.len x125 : Int) : Int) ≤ 8))) h ⟨rfl, rfl, rfl, trivial⟩
 replace h := h.2 hc132
 refine Zj 10 rfl ⟨_, rfl, .inl ⟨_, rfl, hc132⟩⟩ (Zj 11 rfl ⟨_, rfl, .inl ⟨_, rfl, hc132⟩⟩ (Zg 12 rfl ⟨_, _, rfl, rfl, hc131⟩ (OV.pickF rfl hc132 rfl) (Zg 13 rfl ⟨_, _, rfl, rfl, hc131⟩ (OV.move rfl) (Zg 14 rfl ⟨_, _, rfl, rfl, rfl⟩ (OV.move rfl) (Zg 15 rfl ⟨_, _, rfl, rfl, rfl⟩ (OV.not rfl) (Zg 16 rfl ⟨_, _, rfl, rfl, rfl⟩ (OV.move rfl) ?_))))))
 rcases Zb (!r115) with hc143 | hc143
 replace h := h.1 hc143
 refine Zg 17 rfl ⟨_, _, rfl, rfl, hc143⟩ (OV.fieldAddr rfl rfl) ?_
 obtain ⟨x144, hr145, h⟩ := h
 refine Zg 18 rfl ⟨_, _, rfl, rfl, hc143⟩ (OV.load rfl rfl hr145) (Zg 19 rfl ⟨_, _, rfl, rfl, hc143⟩ (OV.sbin (a := x144) (b := ([116, 114, 117, 101] : Str)) (v := .bool (!(x144 == ([116, 114, 117, 101] : Str)))) rfl rfl rfl) (Zg 20 rfl ⟨_, _, rfl, rfl, rfl⟩ (OV.pickT rfl hc143 rfl) (Zg 21 rfl ⟨_, _, rfl, rfl, rfl⟩ (OV.move rfl) ?_)))
 rcases Zb (!(x144 == ([116, 114, 117, 101] : Str))) with hc146 | hc146
 replace h := h.1 hc146
 refine Zg 22 rfl ⟨_, _, rfl, rfl, hc146⟩ (OV.fieldAddr rfl rfl) ?_
 obtain ⟨x147, hr148, h⟩ := h
 refine Zg 23 rfl ⟨_, _, rfl, rfl, hc146⟩ (OV.load rfl rfl hr148) (Zg 24 rfl ⟨_, _, rfl, rfl, hc146⟩ (OV.sbin (a := x147) (b := ([102, 97, 108, 115, 101] : Str)) (v := .bool (!(x147 == ([102, 97, 108, 115, 101] : Str)))) rfl rfl rfl) (Zg 25 rfl ⟨_, _, rfl, rfl, rfl⟩ (OV.pickT rfl hc146 rfl) (Zg 26 rfl ⟨_, _, rfl, rfl, hc131⟩ (OV.pickF rfl rfl rfl) (Zp 27 rfl (OV.pickT rfl hc131 rfl) (Zp 32 rfl (OV.assign rfl) (Zp 33 rfl (OV.assign rfl) (GA.done (by kernel_rfl) ?_)))))))
 exact GL.jump (fun _ _ h => h) ((!(x147 == ([102, 97, 108, 115, 101] : Str))), (decide (((Sl.len x125 : Int) : Int) ≤ 8))) h ⟨rfl, rfl, rfl, trivial⟩
 replace h := h.2 hc146
 refine Zj 22 rfl ⟨_, rfl, .inl ⟨_, rfl, hc146⟩⟩ (Zj 23 rfl ⟨_, rfl, .inl ⟨_, rfl, hc146⟩⟩ (Zj 24 rfl ⟨_, rfl, .inl ⟨_, rfl, hc146⟩⟩ (Zg 25 rfl ⟨_, _, rfl, rfl, rfl⟩ (OV.pickF rfl hc146 rfl) (Zg 26 rfl ⟨_, _, rfl, rfl, hc131⟩ (OV.pickF rfl rfl rfl) (Zp 27 rfl (OV.pickT rfl hc131 rfl) (Zp 32 rfl (OV.assign rfl) (Zp 33 rfl (OV.assign rfl) (GA.done (by kernel_rfl) ?_))))))))
 exact GL.jump (fun _ _ h => h) (false, (decide (((Sl.len x125 : Int) : Int) ≤ 8))) h ⟨rfl, rfl, rfl, trivial⟩
 replace h := h.2 hc143
 refine Zj 17 rfl ⟨_, rfl, .inl ⟨_, rfl, hc143⟩⟩ (Zj 18 rfl ⟨_, rfl, .inl ⟨_, rfl, hc143⟩⟩ (Zj 19 rfl ⟨_, rfl, .inl ⟨_, rfl, hc143⟩⟩ (Zg 20 rfl ⟨_, _, rfl, rfl, rfl⟩ (OV.pickF rfl hc143 rfl) (Zg 21 rfl ⟨_, _, rfl, rfl, rfl⟩ (OV.move rfl) (Zj 22 rfl ⟨_, rfl, .inl ⟨_, rfl, rfl⟩⟩ (Zj 23 rfl ⟨_, rfl, .inl ⟨_, rfl, rfl⟩⟩ (Zj 24 rfl ⟨_, rfl, .inl ⟨_, rfl, rfl⟩⟩ (Zg 25 rfl ⟨_, _, rfl, rfl, rfl⟩ (OV.pickF rfl rfl rfl) (Zg 26 rfl ⟨_, _, rfl, rfl, hc131⟩ (OV.pickF rfl rfl rfl) (Zp 27 rfl (OV.pickT rfl hc131 rfl) (Zp 32 rfl (OV.assign rfl) ?_)))))))))))
 refine Zp 33 rfl (OV.assign rfl) (GA.done (by kernel_rfl) ?_)
 exact GL.jump (fun _ _ h => h) (false, (decide (((Sl.len x125 : Int) : Int) ≤ 8))) h ⟨rfl, rfl, rfl, trivial⟩
 replace h := h.2 hc131
 refine Zj 8 rfl ⟨_, rfl, .inl ⟨_, rfl, hc131⟩⟩ (Zj 9 rfl ⟨_, rfl, .inl ⟨_, rfl, hc131⟩⟩ (Zj 10 rfl ⟨_, rfl, .inr rfl⟩ (Zj 11 rfl ⟨_, rfl, .inr rfl⟩ (Zj 12 rfl ⟨_, rfl, .inl ⟨_, rfl, hc131⟩⟩ (Zj 13 rfl ⟨_, rfl, .inl ⟨_, rfl, hc131⟩⟩ (Zj 14 rfl ⟨_, rfl, .inr rfl⟩ (Zj 15 rfl ⟨_, rfl, .inr rfl⟩ (Zj 16 rfl ⟨_, rfl, .inr rfl⟩ (Zj 17 rfl ⟨_, rfl, .inr rfl⟩ (Zj 18 rfl ⟨_, rfl, .inr rfl⟩ (Zj 19 rfl ⟨_, rfl, .inr rfl⟩ ?_)))))))))))
 refine Zj 20 rfl ⟨_, rfl, .inr rfl⟩ (Zj 21 rfl ⟨_, rfl, .inr rfl⟩ (Zj 22 rfl ⟨_, rfl, .inr rfl⟩ (Zj 23 rfl ⟨_, rfl, .inr rfl⟩ (Zj 24 rfl ⟨_, rfl, .inr rfl⟩ (Zj 25 rfl ⟨_, rfl, .inr rfl⟩ (Zj 26 rfl ⟨_, rfl, .inl ⟨_, rfl, hc131⟩⟩ (Zp 27 rfl (OV.pickF rfl hc131 rfl) (Zp 32 rfl (OV.assign rfl) (Zp 33 rfl (OV.assign rfl) (GA.done (by kernel_rfl) ?_))))))))))
 exact GL.jump (fun _ _ h => h) (false, (decide (((Sl.len x125 : Int) : Int) ≤ 8))) h ⟨rfl, rfl, rfl, trivial⟩
 replace h := h.2 hc127
 refine Zj 4 rfl ⟨_, rfl, .inl ⟨_, rfl, hc127⟩⟩ (Zj 5 rfl ⟨_, rfl, .inl ⟨_, rfl, hc127⟩⟩ (Zp 6 rfl (OV.pickF rfl hc127 rfl) (Zp 7 rfl (OV.move rfl) (Zj 8 rfl ⟨_, rfl, .inl ⟨_, rfl, rfl⟩⟩ (Zj 9 rfl ⟨_, rfl, .inl ⟨_, rfl, rfl⟩⟩ (Zj 10 rfl ⟨_, rfl, .inr rfl⟩ (Zj 11 rfl ⟨_, rfl, .inr rfl⟩ (Zj 12 rfl ⟨_, rfl, .inl ⟨_, rfl, rfl⟩⟩ (Zj 13 rfl ⟨_, rfl, .inl ⟨_, rfl, rfl⟩⟩ (Zj 14 rfl ⟨_, rfl, .inr rfl⟩ (Zj 15 rfl ⟨_, rfl, .inr rfl⟩ ?_)))))))))))
 refine Zj 16 rfl ⟨_, rfl, .inr rfl⟩ (Zj 17 rfl ⟨_, rfl, .inr rfl⟩ (Zj 18 rfl ⟨_, rfl, .inr rfl⟩ (Zj 19 rfl ⟨_, rfl, .inr rfl⟩ (Zj 20 rfl ⟨_, rfl, .inr rfl⟩ (Zj 21 rfl ⟨_, rfl, .inr rfl⟩ (Zj 22 rfl ⟨_, rfl, .inr rfl⟩ (Zj 23 rfl ⟨_, rfl, .inr rfl⟩ (Zj 24 rfl ⟨_, rfl, .inr rfl⟩ (Zj 25 rfl ⟨_, rfl, .inr rfl⟩ (Zj 26 rfl ⟨_, rfl, .inl ⟨_, rfl, rfl⟩⟩ (Zp 27 rfl (OV.pickF rfl rfl rfl) ?_)))))))))))
 refine Zp 32 rfl (OV.assign rfl) (Zp 33 rfl (OV.assign rfl) (GA.done (by kernel_rfl) ?_))
 exact GL.jump (fun _ _ h => h) (false, (decide (((Sl.len x125 : Int) : Int) ≤ 8))) h ⟨rfl, rfl, rfl, trivial⟩
 intro x118 H119 h
 replace h := hR120 x118 H119 h
 exact GL.jump (fun _ _ h => h) (x118.1, x118.2) h ⟨rfl, rfl, rfl, trivial⟩
 replace h := h.2 hc110
 refine GC.region (Za ?_)
 exact GL.jump (fun _ _ h => h) (false, true) h ⟨rfl, rfl, rfl, trivial⟩
 intro x20 H21 h
 replace h := hR22 x20 H21 h
 refine GC.seq (Zo (Zf ?_))
 obtain ⟨x149, hr150, h⟩ := h
 refine Zl hr150 (Zq (Zm (GL.nil (GC.block (GC.loop (α := Bool × Bool × Int) h (fun x151 => [(2, .bool x151.1), (3, .bool x151.2.1), (162, .int .i64 x151.2.2), (160, slv x149), (161, .int .i64 (Sl.len x149 : Int))]) ⟨rfl, rfl, rfl, rfl, rfl, trivial⟩ ?_)))))
 intro x151 H153 J152 h
 refine Zo (Zi (.bool (decide ((x151.2.2 : Int) < (Sl.len x149 : Int)))) (GL.nil (GC.seq ?_)))
 refine Zd (fun hc154 => ?_) fun hc154 => ?_
 replace h := h.1 hc154
 refine GC.skip (GC.seq (GC.block (Zo ?_)))
 obtain ⟨p155, ha156, hb157, hc158, hd159, h⟩ := h
 refine Zx ha156 hb157 hc158 hd159 ?_
 obtain ⟨x160, hr161, h⟩ := h
 refine Zv (OV.loadT rfl rfl rfl hr161) (GL.alloc (cs := T_api_Value.c T_api_Value.zero) h trivial rfl rfl rfl ?_)
 intro b162 H163 h
 refine GL.storeT (p := (b162, 0)) (vs := T_api_Value.c x160) h trivial rfl rfl rfl rfl ?_
 intro H164 h
 refine GL.nil (Zo ?_)
 obtain ⟨x165, hr166, h⟩ := h
 refine Zv (OV.loadT rfl rfl rfl hr166) (Zc h ok_value_item_look ?_)
 rintro _ H169 ⟨r167, r168, rfl, h⟩
 refine Zm (Zv (OV.extract (v := .bool r167) rfl rfl) (Zv (OV.extract (v := .bool r168) rfl rfl) (Za (Za (GL.nil (GC.region (Zm (Zm ?_))))))))
 refine GL.cut0 2 [(174, .bool (x151.1 && r167)), (3, .bool x151.2.1), (12, .bool r168), (160, slv x149), (161, .int .i64 (Sl.len x149 : Int)), (162, .int .i64 x151.2.2)] ?_ ?_
 rcases Bool.eq_false_or_eq_true x151.1 with hc170 | hc170
 refine Zu hc170 (OV.move rfl) (Zt hc170 ?_)
 exact GL.jump0 (fun _ _ h => h) () rfl ⟨(by rw [hc170]; rfl), rfl, rfl, rfl, rfl, rfl, trivial⟩
 refine Zk hc170 (Zn hc170 ?_)
 exact GL.jump0 (fun _ _ h => h) () rfl ⟨(by rw [hc170]; rfl), rfl, rfl, rfl, rfl, rfl, trivial⟩
 refine Zm (Zm ?_)
 refine GL.cut0 2 [(178, .bool (x151.2.1 && r168)), (160, slv x149), (161, .int .i64 (Sl.len x149 : Int)), (162, .int .i64 x151.2.2), (174, .bool (x151.1 && r167))] ?_ ?_
 rcases Bool.eq_false_or_eq_true x151.2.1 with hc171 | hc171
 refine Zu hc171 (OV.move rfl) (Zt hc171 ?_)
 exact GL.jump0 (fun _ _ h => h) () rfl ⟨(by rw [hc171]; rfl), rfl, rfl, rfl, rfl, trivial⟩
 refine Zk hc171 (Zn hc171 ?_)
 exact GL.jump0 (fun _ _ h => h) () rfl ⟨(by rw [hc171]; rfl), rfl, rfl, rfl, rfl, trivial⟩
 refine Za (Za (GL.nil_to (fun _ _ h => h) (GC.region (Zi (.int .i64 (w .i64 (x151.2.2 + 1))) (Zm ?_)))))
 exact GL.jump (fun _ _ h => h) ((x151.1 && r167), (x151.2.1 && r168), (w .i64 (x151.2.2 + 1))) h ⟨rfl, rfl, rfl, rfl, rfl, trivial⟩
 replace h := h.2 hc154
 refine GC.exit_to (fun _ _ h => h) (Zo (Zm (Zm (Za (Za (GL.nil ?_))))))
 exact GC.ret (fun _ _ hf hs => post_tmp2 rfl rfl rfl hf hs ⟨x151.1, x151.2.1, rfl, h⟩)
def sh_zset_each (C : Ctx) (p_parts : Sl) (K : Value → Heap → Prop) (H : Heap) : Prop :=
 nw ([slv p_parts]) (fun b1 H2 =>
 K (.func (.func 64) (List.toArray []) (List.toArray [pv (some (b1, 0))]) : Value) H2) H
theorem ad_zset_each (C : Ctx) (p_parts : Sl) (K : Value → Heap → Prop) (H : Heap) (h : sh_zset_each C p_parts K H) : c_zset_each C p_parts K H := by
 refine Spec.enter Tryz.func44 rfl Tryz.ntmps44 rfl (GC.sub [(0, slv p_parts)] ⟨rfl, trivial⟩ (Zo (GL.box (v := slv p_parts) (cs := [slv p_parts]) h trivial rfl rfl rfl ?_)))
 intro b1 H2 h
 refine Za (GL.nil (Zo (Zv (OV.makeFunc (vs := []) (us := [pv (some (b1, 0))]) rfl rfl) (Za (GL.nil ?_)))))
 exact GC.ret (fun _ _ hf hs => post_tmp1 rfl rfl hf hs ⟨(.func (.func 64) (List.toArray []) (List.toArray [pv (some (b1, 0))]) : Value), rfl, h⟩)
def sh_slices_ContainsFunc_api_Value_api_Value (C : Ctx) (p_s : Sl) (p_f : Value) (K : Bool → Heap → Prop) (H : Heap) : Prop :=
 c_slices_IndexFunc_api_Value_api_Value C p_s p_f (fun r1 H2 =>
 K (decide ((r1 : Int) ≥ 0)) H2) H
theorem ad_slices_ContainsFunc_api_Value_api_Value (C : Ctx) (p_s : Sl) (p_f : Value) (K : Bool → Heap → Prop) (H : Heap) (h : sh_slices_ContainsFunc_api_Value_api_Value C p_s p_f K H) : c_slices_ContainsFunc_api_Value_api_Value C p_s p_f K H := by
 refine Spec.enter Tryz.func45 rfl Tryz.ntmps45 rfl (GC.sub [(0, slv p_s), (1, p_f)] ⟨rfl, rfl, trivial⟩ (Zo (Za (GL.nil (Zo (Zm (Zm (Zc h ok_slices_IndexFunc_api_Value_api_Value ?_))))))))
 rintro _ H2 ⟨r1, rfl, h⟩
 refine Zi (.bool (decide ((r1 : Int) ≥ 0))) (Za (GL.nil ?_))
 exact GC.ret (fun _ _ hf hs => post_tmp1 rfl rfl hf hs ⟨(decide ((r1 : Int) ≥ 0)), rfl, h⟩)
def sh_zset_sums_1 (C : Ctx) (p_v : T_api_Value) (K : Bool → Heap → Prop) (H : Heap) : Prop :=
 nw (T_api_Value.c p_v) (fun b1 H2 =>
 ldT H2 T_api_Value.c (b1, 0) fun x3 =>
 c_value_Check C x3 (fun r5 H6 =>
 K ((r5 : Int) != 0) H6) H2) H
theorem ad_zset_sums_1 (C : Ctx) (p_v : T_api_Value) (K : Bool → Heap → Prop) (H : Heap) (h : sh_zset_sums_1 C p_v K H) : c_zset_sums_1 C p_v K H := by
 refine Spec.enter Tryz.func46 rfl Tryz.ntmps46 rfl (GC.sub [(0, .agg (T_api_Value.c p_v).toArray)] ⟨rfl, trivial⟩ (Zo (GL.box (v := .agg (T_api_Value.c p_v).toArray) (cs := T_api_Value.c p_v) h trivial rfl rfl rfl ?_)))
 intro b1 H2 h
 refine Za (GL.nil (Zo ?_))
 obtain ⟨x3, hr4, h⟩ := h
 refine Zv (OV.loadT rfl rfl rfl hr4) (Zc h ok_value_Check ?_)
 rintro _ H6 ⟨r5, rfl, h⟩
 refine Zi (.bool ((r5 : Int) != 0)) (Za (GL.nil ?_))
 exact GC.ret (fun _ _ hf hs => post_tmp1 rfl rfl hf hs ⟨((r5 : Int) != 0), rfl, h⟩)
def sh_zset_out (C : Ctx) (p_n : Int) (K : Bool → Heap → Prop) (H : Heap) : Prop :=
 K ((decide ((p_n : Int) < (-2147483647))) || (decide ((p_n : Int) > 2147483647))) H
theorem ad_zset_out (C : Ctx) (p_n : Int) (K : Bool → Heap → Prop) (H : Heap) (h : sh_zset_out C p_n K H) : c_zset_out C p_n K H := by
 refine Spec.enter Tryz.func47 rfl Tryz.ntmps47 rfl (GC.sub [(0, .int .i64 p_n)] ⟨rfl, trivial⟩ (Zo (Za (GL.nil (Zo (Zm (Zi (.bool (decide ((p_n : Int) < (-2147483647)))) (Zm ?_))))))))
 refine GL.cut0 3 [(8, .bool ((decide ((p_n : Int) < (-2147483647))) || (decide ((p_n : Int) > 2147483647))))] ?_ ?_
 rcases Zb (decide ((p_n : Int) < (-2147483647))) with hc1 | hc1
 refine Zk hc1 (Zk hc1 (Zt hc1 ?_))
 exact GL.jump0 (fun _ _ h => h) () rfl ⟨(by rw [hc1]; rfl), trivial⟩
 refine Zu hc1 (OV.move rfl) (Zu hc1 (OV.ibin (v := .bool (decide ((p_n : Int) > 2147483647))) rfl rfl rfl) (Zn hc1 ?_))
 exact GL.jump0 (fun _ _ h => h) () rfl ⟨(by rw [hc1]; rfl), trivial⟩
 refine Za (GL.nil ?_)
 exact GC.ret (fun _ _ hf hs => post_tmp1 rfl rfl hf hs ⟨((decide ((p_n : Int) < (-2147483647))) || (decide ((p_n : Int) > 2147483647))), rfl, h⟩)
def sh_slices_SortStableFunc_zset_Entry_zset_Entry (C : Ctx) (p_x : Sl) (p_cmp : Value) (K : Heap → Prop) (H : Heap) : Prop :=
 c_slices_stableCmpFunc_zset_Entry C p_x (Sl.len p_x : Int) p_cmp (fun H1 =>
 K H1) H
theorem ad_slices_SortStableFunc_zset_Entry_zset_Entry (C : Ctx) (p_x : Sl) (p_cmp : Value) (K : Heap → Prop) (H : Heap) (h : sh_slices_SortStableFunc_zset_Entry_zset_Entry C p_x p_cmp K H) : c_slices_SortStableFunc_zset_Entry_zset_Entry C p_x p_cmp K H := by
 refine Spec.enter Tryz.func48 rfl Tryz.ntmps48 rfl (GC.sub [(0, slv p_x), (1, p_cmp)] ⟨rfl, rfl, trivial⟩ (GC.region (Zm (Zm (Zq (Zm (Zc h ok_slices_stableCmpFunc_zset_Entry ?_)))))))
 rintro _ H1 ⟨rfl, h⟩
 exact GL.ends (fun _ _ hf hs => post_tmp0 rfl hf hs ⟨rfl, h⟩)
def sh_zset_sums_2 (C : Ctx) (p_a : T_zset_Entry) (p_b : T_zset_Entry) (K : Int → Heap → Prop) (H : Heap) : Prop :=
 nw (T_zset_Entry.c p_a) (fun b1 H2 =>
 nw (T_zset_Entry.c p_b) (fun b3 H4 =>
 ldL H4 ((b1, 0).1, (b1, 0).2 + 0) fun x5 =>
 ldL H4 ((b3, 0).1, (b3, 0).2 + 0) fun x7 =>
 c_value_CmpRows C x5 x7 (fun r9 H10 =>
 K r9 H10) H4) H2) H
theorem ad_zset_sums_2 (C : Ctx) (p_a : T_zset_Entry) (p_b : T_zset_Entry) (K : Int → Heap → Prop) (H : Heap) (h : sh_zset_sums_2 C p_a p_b K H) : c_zset_sums_2 C p_a p_b K H := by
 refine Spec.enter Tryz.func49 rfl Tryz.ntmps49 rfl (GC.sub [(0, .agg (T_zset_Entry.c p_a).toArray), (1, .agg (T_zset_Entry.c p_b).toArray)] ⟨rfl, rfl, trivial⟩ (Zo (GL.box (v := .agg (T_zset_Entry.c p_a).toArray) (cs := T_zset_Entry.c p_a) h trivial rfl rfl rfl ?_)))
 intro b1 H2 h
 refine GL.box (v := .agg (T_zset_Entry.c p_b).toArray) (cs := T_zset_Entry.c p_b) h trivial rfl rfl rfl ?_
 intro b3 H4 h
 refine Za (GL.nil (Zo (Zf ?_)))
 obtain ⟨x5, hr6, h⟩ := h
 refine Zl hr6 (Zf ?_)
 obtain ⟨x7, hr8, h⟩ := h
 refine Zl hr8 (Zc h ok_value_CmpRows ?_)
 rintro _ H10 ⟨r9, rfl, h⟩
 refine Za (GL.nil ?_)
 exact GC.ret (fun _ _ hf hs => post_tmp1 rfl rfl hf hs ⟨r9, rfl, h⟩)
def sh_zset_own (C : Ctx) (p_l : Sl) (K : Sl → Heap → Prop) (H : Heap) : Prop :=
 ift (((Sl.len p_l : Int) : Int) == 0)
 (K Sl.nil H)
 (c_slices_Clone_api_Value_api_Value C p_l (fun r2 H3 =>
 lp (α := Int) 0 H3 (fun x4 J5 H6 =>
 ift (decide ((x4 : Int) < (Sl.len r2 : Int)))
 (ixa r2 x4 fun p8 =>
 ldL H6 ((p8.1, p8.2 + (x4 : Int).toNat * 4).1, (p8.1, p8.2 + (x4 : Int).toNat * 4).2 + 3) fun x13 =>
 c_zset_own C x13 (fun r15 H16 =>
 ixa r2 x4 fun p17 =>
 st ((p17.1, p17.2 + (x4 : Int).toNat * 4).1, (p17.1, p17.2 + (x4 : Int).toNat * 4).2 + 3) (slv r15) (fun H22 =>
 J5 (w .i64 (x4 + 1)) H22) H16) H6)
 (K r2 H6))) H)
theorem ad_zset_own (C : Ctx) (p_l : Sl) (K : Sl → Heap → Prop) (H : Heap) (h : sh_zset_own C p_l K H) : c_zset_own C p_l K H := by
 refine Spec.enter Tryz.func50 rfl Tryz.ntmps50 rfl (GC.sub [(0, slv p_l)] ⟨rfl, trivial⟩ (Zo (Za (GL.nil (GC.seq (Zo (Zm (Zq (Zi (.bool (((Sl.len p_l : Int) : Int) == 0)) (GL.nil ?_))))))))))
 refine Zd (fun hc1 => ?_) fun hc1 => ?_
 replace h := h.1 hc1
 refine Zo (Za (GL.nil ?_))
 exact GC.ret (fun _ _ hf hs => post_tmp1 rfl rfl hf hs ⟨Sl.nil, rfl, h⟩)
 replace h := h.2 hc1
 refine GC.skip (Zo (Zm (Zc h ok_slices_Clone_api_Value_api_Value ?_)))
 rintro _ H3 ⟨r2, rfl, h⟩
 refine Za (GL.nil (GC.seq (Zo (Zm (Zq (Zm (GL.nil (GC.block (GC.loop (α := Int) h (fun x4 => [(11, .int .i64 x4), (0, slv r2), (10, .int .i64 (Sl.len r2 : Int))]) ⟨rfl, rfl, rfl, trivial⟩ ?_)))))))))
 intro x4 H6 J5 h
 refine Zo (Zi (.bool (decide ((x4 : Int) < (Sl.len r2 : Int)))) (GL.nil (GC.seq ?_)))
 refine Zd (fun hc7 => ?_) fun hc7 => ?_
 replace h := h.1 hc7
 refine GC.skip (GC.seq (GC.block (Zo (Zm (Za (GL.nil (GC.region (Zm (Zm (Zm (Zm ?_)))))))))))
 obtain ⟨p8, ha9, hb10, hc11, hd12, h⟩ := h
 refine Zx ha9 hb10 hc11 hd12 (Zf ?_)
 obtain ⟨x13, hr14, h⟩ := h
 refine Zl hr14 (Zc h ok_zset_own ?_)
 rintro _ H16 ⟨r15, rfl, h⟩
 obtain ⟨p17, ha18, hb19, hc20, hd21, h⟩ := h
 refine Zx ha18 hb19 hc20 hd21 (Zf (GL.store (p := ((p17.1, p17.2 + (x4 : Int).toNat * 4).1, (p17.1, p17.2 + (x4 : Int).toNat * 4).2 + 3)) (v := slv r15) h trivial rfl rfl rfl rfl ?_))
 intro H22 h
 refine GL.nil_to (fun _ _ h => h) (GC.region (Zi (.int .i64 (w .i64 (x4 + 1))) (Zm ?_)))
 exact GL.jump (fun _ _ h => h) (w .i64 (x4 + 1)) h ⟨rfl, rfl, rfl, trivial⟩
 replace h := h.2 hc7
 refine GC.exit_to (fun _ _ h => h) (Zo (Zm (Za (GL.nil ?_))))
 exact GC.ret (fun _ _ hf hs => post_tmp1 rfl rfl hf hs ⟨r2, rfl, h⟩)
def sh_ref16_Check (C : Ctx) (p_l : Sl) (K : Int → Heap → Prop) (H : Heap) : Prop :=
 lp (α := Int) 0 H (fun x1 J2 H3 =>
 ift (decide ((x1 : Int) < (Sl.len p_l : Int)))
 (ixa p_l x1 fun p5 =>
 ldL H3 ((p5.1, p5.2 + (x1 : Int).toNat * 2).1, (p5.1, p5.2 + (x1 : Int).toNat * 2).2 + 0) fun x10 =>
 c_ref02_Row C x10 (fun r12 H13 =>
 ift (!r12)
 (K 4 H13)
 (J2 (w .i64 (x1 + 1)) H13)) H3)
 (lp (α := Int) 0 H3 (fun x15 J16 H17 =>
 ift (decide ((x15 : Int) < (Sl.len p_l : Int)))
 (ixa p_l x15 fun p19 =>
 ldI H17 .i64 ((p19.1, p19.2 + (x15 : Int).toNat * 2).1, (p19.1, p19.2 + (x15 : Int).toNat * 2).2 + 1) fun x24 =>
 jn (α := Bool) (fun b26 H37 =>
 ift b26
 (K 80 H37)
 (J16 (w .i64 (x15 + 1)) H37))
 (fun J27 => ift (decide ((x24 : Int) < (-2147483647)))
 (J27 true H17)
 (ixa p_l x15 fun p30 =>
 ldI H17 .i64 ((p30.1, p30.2 + (x15 : Int).toNat * 2).1, (p30.1, p30.2 + (x15 : Int).toNat * 2).2 + 1) fun x35 =>
 J27 (decide ((x35 : Int) > 2147483647)) H17)))
 (K 0 H17))))
theorem ad_ref16_Check (C : Ctx) (p_l : Sl) (K : Int → Heap → Prop) (H : Heap) (h : sh_ref16_Check C p_l K H) : c_ref16_Check C p_l K H := by
 refine Spec.enter Tryz.func51 rfl Tryz.ntmps51 rfl (GC.sub [(0, slv p_l)] ⟨rfl, trivial⟩ (Zo (Za (GL.nil (GC.seq (Zo (Za (GL.nil (GC.block (GC.loop (α := Int) h (fun x1 => [(3, .int .i64 x1), (0, slv p_l)]) ⟨rfl, rfl, trivial⟩ ?_))))))))))
 intro x1 H3 J2 h
 refine GC.seq (Zo (Zm (Zm (Zq (Zi (.bool (decide ((x1 : Int) < (Sl.len p_l : Int)))) (GL.nil ?_))))))
 refine Zd (fun hc4 => ?_) fun hc4 => ?_
 replace h := h.1 hc4
 refine GC.skip (GC.seq (GC.block (Zo (Zm (Zm ?_)))))
 obtain ⟨p5, ha6, hb7, hc8, hd9, h⟩ := h
 refine Zx ha6 hb7 hc8 hd9 (Zf ?_)
 obtain ⟨x10, hr11, h⟩ := h
 refine Zl hr11 (Zc h ok_ref02_Row ?_)
 rintro _ H13 ⟨r12, rfl, h⟩
 refine Zv (OV.not rfl) (GL.nil ?_)
 refine Zd (fun hc14 => ?_) fun hc14 => ?_
 replace h := h.1 hc14
 refine Zo (Za (GL.nil ?_))
 exact GC.ret (fun _ _ hf hs => post_tmp1 rfl rfl hf hs ⟨4, rfl, h⟩)
 replace h := h.2 hc14
 refine GC.skip_to (fun _ _ h => h) (GC.region (Zm (Zi (.int .i64 (w .i64 (x1 + 1))) (Za ?_))))
 exact GL.jump (fun _ _ h => h) (w .i64 (x1 + 1)) h ⟨rfl, rfl, trivial⟩
 replace h := h.2 hc4
 refine GC.exit_to (fun _ _ h => h) (GC.seq (Zo (Za (GL.nil (GC.block (GC.loop (α := Int) h (fun x15 => [(4, .int .i64 x15), (0, slv p_l)]) ⟨rfl, rfl, trivial⟩ ?_))))))
 intro x15 H17 J16 h
 refine GC.seq (Zo (Zm (Zm (Zq (Zi (.bool (decide ((x15 : Int) < (Sl.len p_l : Int)))) (GL.nil ?_))))))
 refine Zd (fun hc18 => ?_) fun hc18 => ?_
 replace h := h.1 hc18
 refine GC.skip (GC.seq (GC.block (Zo (Zm (Zm ?_)))))
 obtain ⟨p19, ha20, hb21, hc22, hd23, h⟩ := h
 refine Zx ha20 hb21 hc22 hd23 (Zf ?_)
 obtain ⟨x24, hr25, h⟩ := h
 refine Zl hr25 (Zi (.bool (decide ((x24 : Int) < (-2147483647)))) (Zm ?_))
 obtain ⟨J27, h, hR28⟩ := h
 refine GL.cut (α := Bool) 7 J27 (fun b26 => [(37, .bool b26), (0, slv p_l), (4, .int .i64 x15)]) ?_ ?_
 rcases Zb (decide ((x24 : Int) < (-2147483647))) with hc29 | hc29
 replace h := h.1 hc29
 refine Zk hc29 (Zk hc29 (Zk hc29 (Zk hc29 (Zk hc29 (Zk hc29 (Zt hc29 ?_))))))
 exact GL.jump (fun _ _ h => h) true h ⟨rfl, rfl, rfl, trivial⟩
 replace h := h.2 hc29
 refine Zu hc29 (OV.move rfl) (Zu hc29 (OV.move rfl) ?_)
 obtain ⟨p30, ha31, hb32, hc33, hd34, h⟩ := h
 refine Zu hc29 (OV.indexAddr rfl rfl rfl rfl ha31 hb32 hc33 hd34) (Zu hc29 (OV.fieldAddr rfl rfl) ?_)
 obtain ⟨x35, hr36, h⟩ := h
 refine Zu hc29 (OV.load rfl rfl hr36) (Zu hc29 (OV.ibin (v := .bool (decide ((x35 : Int) > 2147483647))) rfl rfl rfl) (Zn hc29 ?_))
 exact GL.jump (fun _ _ h => h) (decide ((x35 : Int) > 2147483647)) h ⟨rfl, rfl, rfl, trivial⟩
 intro b26 H37 h
 replace h := hR28 b26 H37 h
 refine GL.nil ?_
 refine Zd (fun hc38 => ?_) fun hc38 => ?_
 replace h := h.1 hc38
 refine Zo (Za (GL.nil ?_))
 exact GC.ret (fun _ _ hf hs => post_tmp1 rfl rfl hf hs ⟨80, rfl, h⟩)
 replace h := h.2 hc38
 refine GC.skip_to (fun _ _ h => h) (GC.region (Zm (Zi (.int .i64 (w .i64 (x15 + 1))) (Za ?_))))
 exact GL.jump (fun _ _ h => h) (w .i64 (x15 + 1)) h ⟨rfl, rfl, trivial⟩
 replace h := h.2 hc18
 refine GC.exit_to (fun _ _ h => h) (Zo (Za (GL.nil ?_)))
 exact GC.ret (fun _ _ hf hs => post_tmp1 rfl rfl hf hs ⟨0, rfl, h⟩)
def sh_ref02_CmpRows (C : Ctx) (p_a : Sl) (p_b : Sl) (K : Int → Heap → Prop) (H : Heap) : Prop :=
 c_ref02_Row C p_a (fun r1 H2 =>
 c_ref02_Row C p_b (fun r3 H4 =>
 ift ((!r1) || (!r3))
 (c_ref02_last C r1 r3 (fun r7 H8 =>
 K r7 H8) H4)
 (c_ref02_rows C p_a p_b (fun r9 H10 =>
 K r9 H10) H4)) H2) H
theorem ad_ref02_CmpRows (C : Ctx) (p_a : Sl) (p_b : Sl) (K : Int → Heap → Prop) (H : Heap) (h : sh_ref02_CmpRows C p_a p_b K H) : c_ref02_CmpRows C p_a p_b K H := by
 refine Spec.enter Tryz.func52 rfl Tryz.ntmps52 rfl (GC.sub [(0, slv p_a), (1, slv p_b)] ⟨rfl, rfl, trivial⟩ (Zo (Za (GL.nil (Zo (Zm (Zc h ok_ref02_Row ?_)))))))
 rintro _ H2 ⟨r1, rfl, h⟩
 refine Zm (Zc h ok_ref02_Row ?_)
 rintro _ H4 ⟨r3, rfl, h⟩
 refine Za (Za (GL.nil (GC.seq (Zo (Zm (Zv (OV.not rfl) (Zm ?_)))))))
 refine GL.cut0 3 [(16, .bool ((!r1) || (!r3))), (0, slv p_a), (1, slv p_b), (5, .bool r1), (6, .bool r3)] ?_ ?_
 rcases Zb (!r1) with hc5 | hc5
 refine Zk hc5 (Zk hc5 (Zt hc5 ?_))
 exact GL.jump0 (fun _ _ h => h) () rfl ⟨(by rw [hc5]; rfl), rfl, rfl, rfl, rfl, trivial⟩
 refine Zu hc5 (OV.move rfl) (Zu hc5 (OV.not rfl) (Zn hc5 ?_))
 exact GL.jump0 (fun _ _ h => h) () rfl ⟨(by rw [hc5]; rfl), rfl, rfl, rfl, rfl, trivial⟩
 refine GL.nil ?_
 refine Zd (fun hc6 => ?_) fun hc6 => ?_
 replace h := h.1 hc6
 refine Zo (Zm (Zm (Zc h ok_ref02_last ?_)))
 rintro _ H8 ⟨r7, rfl, h⟩
 refine Za (GL.nil ?_)
 exact GC.ret (fun _ _ hf hs => post_tmp1 rfl rfl hf hs ⟨r7, rfl, h⟩)
 replace h := h.2 hc6
 refine GC.skip (Zo (Zm (Zm (Zc h ok_ref02_rows ?_))))
 rintro _ H10 ⟨r9, rfl, h⟩
 refine Za (GL.nil ?_)
 exact GC.ret (fun _ _ hf hs => post_tmp1 rfl rfl hf hs ⟨r9, rfl, h⟩)
def sh_ref02_Same (C : Ctx) (p_a : T_api_Value) (p_b : T_api_Value) (K : Bool → Heap → Prop) (H : Heap) : Prop :=
 nw (T_api_Value.c p_a) (fun b1 H2 =>
 nw (T_api_Value.c p_b) (fun b3 H4 =>
 ldI H4 .u8 ((b1, 0).1, (b1, 0).2 + 0) fun x5 =>
 ldI H4 .u8 ((b3, 0).1, (b3, 0).2 + 0) fun x7 =>
 jn (α := Bool) (fun b9 H17 =>
 jn (α := Bool) (fun b18 H26 =>
 jn (α := Bool) (fun b27 H37 =>
 K b27 H37)
 (fun J28 => ift b18
 (ldL H26 ((b1, 0).1, (b1, 0).2 + 3) fun x31 =>
 ldL H26 ((b3, 0).1, (b3, 0).2 + 3) fun x33 =>
 c_ref02_SameRow C x31 x33 (fun r35 H36 =>
 J28 r35 H36) H26)
 (J28 false H26)))
 (fun J19 => ift b9
 (ldS H17 ((b1, 0).1, (b1, 0).2 + 2) fun x22 =>
 ldS H17 ((b3, 0).1, (b3, 0).2 + 2) fun x24 =>
 J19 (x22 == x24) H17)
 (J19 false H17)))
 (fun J10 => ift ((x5 : Int) == x7)
 (ldI H4 .i64 ((b1, 0).1, (b1, 0).2 + 1) fun x13 =>
 ldI H4 .i64 ((b3, 0).1, (b3, 0).2 + 1) fun x15 =>
 J10 ((x13 : Int) == x15) H4)
 (J10 false H4))) H2) H
theorem ad_ref02_Same (C : Ctx) (p_a : T_api_Value) (p_b : T_api_Value) (K : Bool → Heap → Prop) (H : Heap) (h : sh_ref02_Same C p_a p_b K H) : c_ref02_Same C p_a p_b K H := by
 refine Spec.enter Tryz.func53 rfl Tryz.ntmps53 rfl (GC.sub [(0, .agg (T_api_Value.c p_a).toArray), (1, .agg (T_api_Value.c p_b).toArray)] ⟨rfl, rfl, trivial⟩ (Zo (GL.box (v := .agg (T_api_Value.c p_a).toArray) (cs := T_api_Value.c p_a) h trivial rfl rfl rfl ?_)))
 intro b1 H2 h
 refine GL.box (v := .agg (T_api_Value.c p_b).toArray) (cs := T_api_Value.c p_b) h trivial rfl rfl rfl ?_
 intro b3 H4 h
 refine Za (GL.nil (Zo (Zf ?_)))
 obtain ⟨x5, hr6, h⟩ := h
 refine Zl hr6 (Zf ?_)
 obtain ⟨x7, hr8, h⟩ := h
 refine Zl hr8 (Zi (.bool ((x5 : Int) == x7)) (Zm ?_))
 obtain ⟨J10, h, hR11⟩ := h
 refine GL.cut (α := Bool) 6 J10 (fun b9 => [(16, .bool b9), (2, pv (some (b1, 0))), (3, pv (some (b3, 0)))]) ?_ ?_
 rcases Zb ((x5 : Int) == x7) with hc12 | hc12
 replace h := h.1 hc12
 refine Zu hc12 (OV.fieldAddr rfl rfl) ?_
 obtain ⟨x13, hr14, h⟩ := h
 refine Zu hc12 (OV.load rfl rfl hr14) (Zu hc12 (OV.fieldAddr rfl rfl) ?_)
 obtain ⟨x15, hr16, h⟩ := h
 refine Zu hc12 (OV.load rfl rfl hr16) (Zu hc12 (OV.ibin (v := .bool ((x13 : Int) == x15)) rfl rfl rfl) (Zt hc12 ?_))
 exact GL.jump (fun _ _ h => h) ((x13 : Int) == x15) h ⟨rfl, rfl, rfl, trivial⟩
 replace h := h.2 hc12
 refine Zk hc12 (Zk hc12 (Zk hc12 (Zk hc12 (Zk hc12 (Zn hc12 ?_)))))
 exact GL.jump (fun _ _ h => h) false h ⟨rfl, rfl, rfl, trivial⟩
 intro b9 H17 h
 replace h := hR11 b9 H17 h
 refine Zm ?_
 obtain ⟨J19, h, hR20⟩ := h
 refine GL.cut (α := Bool) 6 J19 (fun b18 => [(23, .bool b18), (2, pv (some (b1, 0))), (3, pv (some (b3, 0)))]) ?_ ?_
 rcases Bool.eq_false_or_eq_true b9 with hc21 | hc21
 replace h := h.1 hc21
 refine Zu hc21 (OV.fieldAddr rfl rfl) ?_
 obtain ⟨x22, hr23, h⟩ := h
 refine Zu hc21 (OV.load rfl rfl hr23) (Zu hc21 (OV.fieldAddr rfl rfl) ?_)
 obtain ⟨x24, hr25, h⟩ := h
 refine Zu hc21 (OV.load rfl rfl hr25) (Zu hc21 (OV.sbin (a := x22) (b := x24) (v := .bool (x22 == x24)) rfl rfl rfl) (Zt hc21 ?_))
 exact GL.jump (fun _ _ h => h) (x22 == x24) h ⟨rfl, rfl, rfl, trivial⟩
 replace h := h.2 hc21
 refine Zk hc21 (Zk hc21 (Zk hc21 (Zk hc21 (Zk hc21 (Zn hc21 ?_)))))
 exact GL.jump (fun _ _ h => h) false h ⟨rfl, rfl, rfl, trivial⟩
 intro b18 H26 h
 replace h := hR20 b18 H26 h
 refine Zm ?_
 obtain ⟨J28, h, hR29⟩ := h
 refine GL.cut (α := Bool) 6 J28 (fun b27 => [(30, .bool b27)]) ?_ ?_
 rcases Bool.eq_false_or_eq_true b18 with hc30 | hc30
 replace h := h.1 hc30
 refine Zu hc30 (OV.fieldAddr rfl rfl) ?_
 obtain ⟨x31, hr32, h⟩ := h
 refine Zu hc30 (OV.load rfl rfl hr32) (Zu hc30 (OV.fieldAddr rfl rfl) ?_)
 obtain ⟨x33, hr34, h⟩ := h
 refine Zu hc30 (OV.load rfl rfl hr34) (GL.call h ⟨_, _, rfl, rfl, hc30⟩ rfl ok_ref02_SameRow (vs := [slv x31, slv x33]) rfl ?_)
 rintro _ H36 ⟨r35, rfl, h⟩
 refine Zt hc30 ?_
 exact GL.jump (fun _ _ h => h) r35 h ⟨rfl, trivial⟩
 replace h := h.2 hc30
 refine Zk hc30 (Zk hc30 (Zk hc30 (Zk hc30 (Zk hc30 (Zn hc30 ?_)))))
 exact GL.jump (fun _ _ h => h) false h ⟨rfl, trivial⟩
 intro b27 H37 h
 replace h := hR29 b27 H37 h
 refine Za (GL.nil ?_)
 exact GC.ret (fun _ _ hf hs => post_tmp1 rfl rfl hf hs ⟨b27, rfl, h⟩)
def sh_value_may_1 (C : Ctx) (p_v : T_api_Value) (K : Bool → Heap → Prop) (H : Heap) : Prop :=
 nw (T_api_Value.c p_v) (fun b1 H2 =>
 ldT H2 T_api_Value.c (b1, 0) fun x3 =>
 c_value_Check C x3 (fun r5 H6 =>
 K ((r5 : Int) != 0) H6) H2) H
theorem ad_value_may_1 (C : Ctx) (p_v : T_api_Value) (K : Bool → Heap → Prop) (H : Heap) (h : sh_value_may_1 C p_v K H) : c_value_may_1 C p_v K H := by
 refine Spec.enter Tryz.func54 rfl Tryz.ntmps54 rfl (GC.sub [(0, .agg (T_api_Value.c p_v).toArray)] ⟨rfl, trivial⟩ (Zo (GL.box (v := .agg (T_api_Value.c p_v).toArray) (cs := T_api_Value.c p_v) h trivial rfl rfl rfl ?_)))
 intro b1 H2 h
 refine Za (GL.nil (Zo ?_))
 obtain ⟨x3, hr4, h⟩ := h
 refine Zv (OV.loadT rfl rfl rfl hr4) (Zc h ok_value_Check ?_)
 rintro _ H6 ⟨r5, rfl, h⟩
 refine Zi (.bool ((r5 : Int) != 0)) (Za (GL.nil ?_))
 exact GC.ret (fun _ _ hf hs => post_tmp1 rfl rfl hf hs ⟨((r5 : Int) != 0), rfl, h⟩)
def sh_slices_CompareFunc_api_Value_api_Value_api_Value_api_Value (C : Ctx) (p_s1 : Sl) (p_s2 : Sl) (p_cmp : Value) (K : Int → Heap → Prop) (H : Heap) : Prop :=
 lp (α := Int) 0 H (fun x1 J2 H3 =>
 ift (decide ((x1 : Int) < (Sl.len p_s1 : Int)))
 (ixa p_s1 x1 fun p5 =>
 ldT H3 T_api_Value.c (p5.1, p5.2 + (x1 : Int).toNat * 4) fun x10 =>
 nw (T_api_Value.c T_api_Value.zero) (fun b12 H13 =>
 stT (b12, 0) (T_api_Value.c x10) (fun H14 =>
 ift (decide ((x1 : Int) ≥ (Sl.len p_s2 : Int)))
 (K 1 H14)
 (ixa p_s2 x1 fun p16 =>
 ldT H14 T_api_Value.c (p16.1, p16.2 + (x1 : Int).toNat * 4) fun x21 =>
 nw (T_api_Value.c T_api_Value.zero) (fun b23 H24 =>
 stT (b23, 0) (T_api_Value.c x21) (fun H25 =>
 ldT H25 T_api_Value.c (b12, 0) fun x26 =>
 ldT H25 T_api_Value.c (b23, 0) fun x28 =>
 callU Tryz.prog C p_cmp [.agg (T_api_Value.c x26).toArray, .agg (T_api_Value.c x28).toArray] H25 (fun v H31 => ∃ (r30 : Int), v = .int .i64 r30 ∧
 ift ((r30 : Int) != 0)
 (K r30 H31)
 (J2 (w .i64 (x1 + 1)) H31))) H24) H14)) H13) H3)
 (ift (decide (((Sl.len p_s1 : Int) : Int) < (Sl.len p_s2 : Int)))
 (K (-1) H3)
 (K 0 H3)))
theorem ad_slices_CompareFunc_api_Value_api_Value_api_Value_api_Value (C : Ctx) (p_s1 : Sl) (p_s2 : Sl) (p_cmp : Value) (K : Int → Heap → Prop) (H : Heap) (h : sh_slices_CompareFunc_api_Value_api_Value_api_Value_api_Value C p_s1 p_s2 p_cmp K H) : c_slices_CompareFunc_api_Value_api_Value_api_Value_api_Value C p_s1 p_s2 p_cmp K H := by
 refine Spec.enter Tryz.func55 rfl Tryz.ntmps55 rfl (GC.sub [(0, slv p_s1), (1, slv p_s2), (2, p_cmp)] ⟨rfl, rfl, rfl, trivial⟩ (Zo (Za (GL.nil (GC.seq (Zo (Zm (Zq (Zm (GL.nil (GC.block ?_)))))))))))
 refine GC.loop (α := Int) h (fun x1 => [(13, .int .i64 x1), (0, slv p_s1), (1, slv p_s2), (2, p_cmp), (11, slv p_s1), (12, .int .i64 (Sl.len p_s1 : Int))]) ⟨rfl, rfl, rfl, rfl, rfl, rfl, trivial⟩ ?_
 intro x1 H3 J2 h
 refine Zo (Zi (.bool (decide ((x1 : Int) < (Sl.len p_s1 : Int)))) (GL.nil (GC.seq ?_)))
 refine Zd (fun hc4 => ?_) fun hc4 => ?_
 replace h := h.1 hc4
 refine GC.skip (GC.seq (GC.block (Zo (Zm ?_))))
 obtain ⟨p5, ha6, hb7, hc8, hd9, h⟩ := h
 refine Zx ha6 hb7 hc8 hd9 ?_
 obtain ⟨x10, hr11, h⟩ := h
 refine Zv (OV.loadT rfl rfl rfl hr11) (GL.alloc (cs := T_api_Value.c T_api_Value.zero) h trivial rfl rfl rfl ?_)
 intro b12 H13 h
 refine Za (GL.storeT (p := (b12, 0)) (vs := T_api_Value.c x10) h trivial rfl rfl rfl rfl ?_)
 intro H14 h
 refine GL.nil (GC.seq (Zo (Zm (Zm (Zq (Zi (.bool (decide ((x1 : Int) ≥ (Sl.len p_s2 : Int)))) (GL.nil ?_)))))))
 refine Zd (fun hc15 => ?_) fun hc15 => ?_
 replace h := h.1 hc15
 refine Zo (Za (GL.nil ?_))
 exact GC.ret (fun _ _ hf hs => post_tmp1 rfl rfl hf hs ⟨1, rfl, h⟩)
 replace h := h.2 hc15
 refine GC.skip (Zo (Zm (Zm ?_)))
 obtain ⟨p16, ha17, hb18, hc19, hd20, h⟩ := h
 refine Zx ha17 hb18 hc19 hd20 ?_
 obtain ⟨x21, hr22, h⟩ := h
 refine Zv (OV.loadT rfl rfl rfl hr22) (GL.alloc (cs := T_api_Value.c T_api_Value.zero) h trivial rfl rfl rfl ?_)
 intro b23 H24 h
 refine GL.storeT (p := (b23, 0)) (vs := T_api_Value.c x21) h trivial rfl rfl rfl rfl ?_
 intro H25 h
 refine GL.nil (Zo (Zm ?_))
 obtain ⟨x26, hr27, h⟩ := h
 refine Zv (OV.loadT rfl rfl rfl hr27) ?_
 obtain ⟨x28, hr29, h⟩ := h
 refine Zv (OV.loadT rfl rfl rfl hr29) (GL.callU (xv := p_cmp) (vs := [.agg (T_api_Value.c x26).toArray, .agg (T_api_Value.c x28).toArray]) h trivial rfl rfl rfl ?_)
 rintro _ H31 ⟨r30, rfl, h⟩
 refine Za (GL.nil (Zo (Zm (Zi (.bool ((r30 : Int) != 0)) (GL.nil ?_)))))
 refine Zd (fun hc32 => ?_) fun hc32 => ?_
 replace h := h.1 hc32
 refine Zo (Zm (Za (GL.nil ?_)))
 exact GC.ret (fun _ _ hf hs => post_tmp1 rfl rfl hf hs ⟨r30, rfl, h⟩)
 replace h := h.2 hc32
 refine GC.skip_to (fun _ _ h => h) (GC.region (Zi (.int .i64 (w .i64 (x1 + 1))) (Zm ?_)))
 exact GL.jump (fun _ _ h => h) (w .i64 (x1 + 1)) h ⟨rfl, rfl, rfl, rfl, rfl, rfl, trivial⟩
 replace h := h.2 hc4
 refine GC.exit_to (fun _ _ h => h) (GC.seq (Zo (Zm (Zq (Zm (Zq (Zi (.bool (decide (((Sl.len p_s1 : Int) : Int) < (Sl.len p_s2 : Int)))) (GL.nil ?_))))))))
 refine Zd (fun hc33 => ?_) fun hc33 => ?_
 replace h := h.1 hc33
 refine Zo (Za (GL.nil ?_))
 exact GC.ret (fun _ _ hf hs => post_tmp1 rfl rfl hf hs ⟨(-1), rfl, h⟩)
 replace h := h.2 hc33
 refine GC.skip (Zo (Za (GL.nil ?_)))
 exact GC.ret (fun _ _ hf hs => post_tmp1 rfl rfl hf hs ⟨0, rfl, h⟩)
def sh_value_rows_1 (C : Ctx) (p_x : T_api_Value) (p_y : T_api_Value) (K : Int → Heap → Prop) (H : Heap) : Prop :=
 nw (T_api_Value.c p_x) (fun b1 H2 =>
 nw (T_api_Value.c p_y) (fun b3 H4 =>
 ldT H4 T_api_Value.c (b1, 0) fun x5 =>
 ldT H4 T_api_Value.c (b3, 0) fun x7 =>
 c_value_item_cmp C x5 x7 (fun r9 H10 =>
 K r9 H10) H4) H2) H
theorem ad_value_rows_1 (C : Ctx) (p_x : T_api_Value) (p_y : T_api_Value) (K : Int → Heap → Prop) (H : Heap) (h : sh_value_rows_1 C p_x p_y K H) : c_value_rows_1 C p_x p_y K H := by
 refine Spec.enter Tryz.func56 rfl Tryz.ntmps56 rfl (GC.sub [(0, .agg (T_api_Value.c p_x).toArray), (1, .agg (T_api_Value.c p_y).toArray)] ⟨rfl, rfl, trivial⟩ (Zo (GL.box (v := .agg (T_api_Value.c p_x).toArray) (cs := T_api_Value.c p_x) h trivial rfl rfl rfl ?_)))
 intro b1 H2 h
 refine GL.box (v := .agg (T_api_Value.c p_y).toArray) (cs := T_api_Value.c p_y) h trivial rfl rfl rfl ?_
 intro b3 H4 h
 refine Za (GL.nil (Zo ?_))
 obtain ⟨x5, hr6, h⟩ := h
 refine Zv (OV.loadT rfl rfl rfl hr6) ?_
 obtain ⟨x7, hr8, h⟩ := h
 refine Zv (OV.loadT rfl rfl rfl hr8) (Zc h ok_value_item_cmp ?_)
 rintro _ H10 ⟨r9, rfl, h⟩
 refine Za (GL.nil ?_)
 exact GC.ret (fun _ _ hf hs => post_tmp1 rfl rfl hf hs ⟨r9, rfl, h⟩)
def sh_value_item_cmp (C : Ctx) (p_v : T_api_Value) (p_w : T_api_Value) (K : Int → Heap → Prop) (H : Heap) : Prop :=
 nw (T_api_Value.c p_v) (fun b1 H2 =>
 nw (T_api_Value.c p_w) (fun b3 H4 =>
 ldI H4 .u8 ((b1, 0).1, (b1, 0).2 + 0) fun x5 =>
 ldI H4 .u8 ((b3, 0).1, (b3, 0).2 + 0) fun x7 =>
 c_cmp_Compare_uint8 C x5 x7 (fun r9 H10 =>
 ift ((r9 : Int) != 0)
 (K r9 H10)
 (ldI H10 .u8 ((b1, 0).1, (b1, 0).2 + 0) fun x12 =>
 ift ((x12 : Int) == 3)
 (ldS H10 ((b1, 0).1, (b1, 0).2 + 2) fun x15 =>
 ldS H10 ((b3, 0).1, (b3, 0).2 + 2) fun x17 =>
 c_value_bigs C x15 x17 (fun r19 H20 =>
 K r19 H20) H10)
 (ift ((x12 : Int) == 4)
 (ldS H10 ((b1, 0).1, (b1, 0).2 + 2) fun x22 =>
 ldS H10 ((b3, 0).1, (b3, 0).2 + 2) fun x24 =>
 c_cmp_Compare_string C x22 x24 (fun r26 H27 =>
 K r26 H27) H10)
 (dr H10 fun Hs28 =>
 ldI Hs28 .i64 ((b1, 0).1, (b1, 0).2 + 1) fun x30 =>
 ldI Hs28 .i64 ((b3, 0).1, (b3, 0).2 + 1) fun x32 =>
 ldS Hs28 ((b1, 0).1, (b1, 0).2 + 2) fun x34 =>
 ldS Hs28 ((b3, 0).1, (b3, 0).2 + 2) fun x36 =>
 ldL Hs28 ((b1, 0).1, (b1, 0).2 + 3) fun x38 =>
 ldL Hs28 ((b3, 0).1, (b3, 0).2 + 3) fun x40 =>
 c_cmp_Compare_int64 C x30 x32 (fun r43 H44 =>
 Heap.le Hs28 H44 ∧
 c_cmp_Compare_string C x34 x36 (fun r46 H47 =>
 Heap.le Hs28 H47 ∧
 c_value_rows C x38 x40 (fun r49 H50 =>
 Heap.le Hs28 H50 ∧
 nw ([.int .i64 r43, .int .i64 r46, .int .i64 r49]) (fun b52 H53 =>
 Heap.le Hs28 H53 ∧
 c_cmp_Or_int C (Sl.of (some (b52, 0)) 3 3) (fun r55 H56 =>
 Heap.le Hs28 H56 ∧
 K r55 H56) H53) H50) H47) H44) H10)))) H4) H2) H
theorem ad_value_item_cmp (C : Ctx) (p_v : T_api_Value) (p_w : T_api_Value) (K : Int → Heap → Prop) (H : Heap) (h : sh_value_item_cmp C p_v p_w K H) : c_value_item_cmp C p_v p_w K H := by
 refine Spec.enter Tryz.func57 rfl Tryz.ntmps57 rfl (GC.sub [(0, .agg (T_api_Value.c p_v).toArray), (1, .agg (T_api_Value.c p_w).toArray)] ⟨rfl, rfl, trivial⟩ (Zo (GL.box (v := .agg (T_api_Value.c p_v).toArray) (cs := T_api_Value.c p_v) h trivial rfl rfl rfl ?_)))
 intro b1 H2 h
 refine GL.box (v := .agg (T_api_Value.c p_w).toArray) (cs := T_api_Value.c p_w) h trivial rfl rfl rfl ?_
 intro b3 H4 h
 refine Za (GL.nil (GC.seq (Zo (Zf ?_))))
 obtain ⟨x5, hr6, h⟩ := h
 refine Zl hr6 (Zf ?_)
 obtain ⟨x7, hr8, h⟩ := h
 refine Zl hr8 (Zc h ok_cmp_Compare_uint8 ?_)
 rintro _ H10 ⟨r9, rfl, h⟩
 refine Za (GL.nil (Zo (Zm (Zi (.bool ((r9 : Int) != 0)) (GL.nil ?_)))))
 refine Zd (fun hc11 => ?_) fun hc11 => ?_
 replace h := h.1 hc11
 refine Zo (Zm (Za (GL.nil ?_)))
 exact GC.ret (fun _ _ hf hs => post_tmp1 rfl rfl hf hs ⟨r9, rfl, h⟩)
 replace h := h.2 hc11
 refine GC.skip (GC.seq (Zo (Zf ?_)))
 obtain ⟨x12, hr13, h⟩ := h
 refine Zl hr13 (GL.nil (GC.block (Zo (Zi (.bool ((x12 : Int) == 3)) (Za (GL.nil ?_))))))
 refine Zd (fun hc14 => ?_) fun hc14 => ?_
 replace h := h.1 hc14
 refine Zo (Zf ?_)
 obtain ⟨x15, hr16, h⟩ := h
 refine Zl hr16 (Zf ?_)
 obtain ⟨x17, hr18, h⟩ := h
 refine Zl hr18 (Zc h ok_value_bigs ?_)
 rintro _ H20 ⟨r19, rfl, h⟩
 refine Za (GL.nil ?_)
 exact GC.ret (fun _ _ hf hs => post_tmp1 rfl rfl hf hs ⟨r19, rfl, h⟩)
 replace h := h.2 hc14
 refine Zo (Zi (.bool ((x12 : Int) == 4)) (Za (GL.nil ?_)))
 refine Zd (fun hc21 => ?_) fun hc21 => ?_
 replace h := h.1 hc21
 refine Zo (Zf ?_)
 obtain ⟨x22, hr23, h⟩ := h
 refine Zl hr23 (Zf ?_)
 obtain ⟨x24, hr25, h⟩ := h
 refine Zl hr25 (Zc h ok_cmp_Compare_string ?_)
 rintro _ H27 ⟨r26, rfl, h⟩
 refine Za (GL.nil ?_)
 exact GC.ret (fun _ _ hf hs => post_tmp1 rfl rfl hf hs ⟨r26, rfl, h⟩)
 replace h := h.2 hc21
 refine GC.skip_to (fun _ _ h => h) (GC.seq ?_)
 obtain ⟨Hs28, hle29, h⟩ := h
 refine GC.any (Hs := Hs28) (by kernel_rfl) hle29 (Zp 0 rfl (OV.fieldAddr rfl rfl) ?_)
 obtain ⟨x30, hr31, h⟩ := h
 refine Zp 1 rfl (OV.load rfl rfl hr31) (Zp 2 rfl (OV.fieldAddr rfl rfl) ?_)
 obtain ⟨x32, hr33, h⟩ := h
 refine Zp 3 rfl (OV.load rfl rfl hr33) (Zp 5 rfl (OV.fieldAddr rfl rfl) ?_)
 obtain ⟨x34, hr35, h⟩ := h
 refine Zp 6 rfl (OV.load rfl rfl hr35) (Zp 7 rfl (OV.fieldAddr rfl rfl) ?_)
 obtain ⟨x36, hr37, h⟩ := h
 refine Zp 8 rfl (OV.load rfl rfl hr37) (Zp 10 rfl (OV.fieldAddr rfl rfl) ?_)
 obtain ⟨x38, hr39, h⟩ := h
 refine Zp 11 rfl (OV.load rfl rfl hr39) (Zp 12 rfl (OV.fieldAddr rfl rfl) ?_)
 obtain ⟨x40, hr41, h⟩ := h
 refine Zp 13 rfl (OV.load rfl rfl hr41) (GA.eff 4 rfl (by kernel_rfl) (Zc h ok_cmp_Compare_int64 ?_))
 rintro _ H44 ⟨r43, rfl, h⟩
 obtain ⟨hle42, h⟩ := h
 refine GA.back hle42 (GA.eff 9 rfl (by kernel_rfl) (Zc h ok_cmp_Compare_string ?_))
 rintro _ H47 ⟨r46, rfl, h⟩
 obtain ⟨hle45, h⟩ := h
 refine GA.back hle45 (GA.eff 14 rfl (by kernel_rfl) (Zc h ok_value_rows ?_))
 rintro _ H50 ⟨r49, rfl, h⟩
 obtain ⟨hle48, h⟩ := h
 refine GA.back hle48 (GA.eff 15 rfl (by kernel_rfl) (GL.buildSlice (cs := [.int .i64 r43, .int .i64 r46, .int .i64 r49]) h trivial rfl (vs := [(0, .int .i64 r43), (1, .int .i64 r46), (2, .int .i64 r49)]) rfl ⟨3, fun _ => by kernel_rfl⟩ ?_))
 intro b52 H53 h
 obtain ⟨hle51, h⟩ := h
 refine GA.back hle51 (GA.eff 16 rfl (by kernel_rfl) (Zc h ok_cmp_Or_int ?_))
 rintro _ H56 ⟨r55, rfl, h⟩
 obtain ⟨hle54, h⟩ := h
 refine GA.back hle54 (Zp 17 rfl (OV.assign rfl) (GA.done (by kernel_rfl) (GL.nil ?_)))
 exact GC.ret (fun _ _ hf hs => post_tmp1 rfl rfl hf hs ⟨r55, rfl, h⟩)
def sh_slices_IndexFunc_zset_Entry_zset_Entry (C : Ctx) (p_s : Sl) (p_f : Value) (K : Int → Heap → Prop) (H : Heap) : Prop :=
 lp (α := Int) 0 H (fun x1 J2 H3 =>
 ift (decide ((x1 : Int) < (Sl.len p_s : Int)))
 (ixa p_s x1 fun p5 =>
 ldT H3 T_zset_Entry.c (p5.1, p5.2 + (x1 : Int).toNat * 2) fun x10 =>
 callU Tryz.prog C p_f [.agg (T_zset_Entry.c x10).toArray] H3 (fun v H13 => ∃ (r12 : Bool), v = .bool r12 ∧
 ift r12
 (K x1 H13)
 (J2 (w .i64 (x1 + 1)) H13)))
 (K (-1) H3))
theorem ad_slices_IndexFunc_zset_Entry_zset_Entry (C : Ctx) (p_s : Sl) (p_f : Value) (K : Int → Heap → Prop) (H : Heap) (h : sh_slices_IndexFunc_zset_Entry_zset_Entry C p_s p_f K H) : c_slices_IndexFunc_zset_Entry_zset_Entry C p_s p_f K H := by
 refine Spec.enter Tryz.func58 rfl Tryz.ntmps58 rfl (GC.sub [(0, slv p_s), (1, p_f)] ⟨rfl, rfl, trivial⟩ (Zo (Za (GL.nil (GC.seq (Zo (Zm (Zq (Zm (GL.nil (GC.block ?_)))))))))))
 refine GC.loop (α := Int) h (fun x1 => [(8, .int .i64 x1), (0, slv p_s), (1, p_f), (7, .int .i64 (Sl.len p_s : Int))]) ⟨rfl, rfl, rfl, rfl, trivial⟩ ?_
 intro x1 H3 J2 h
 refine Zo (Zi (.bool (decide ((x1 : Int) < (Sl.len p_s : Int)))) (GL.nil (GC.seq ?_)))
 refine Zd (fun hc4 => ?_) fun hc4 => ?_
 replace h := h.1 hc4
 refine GC.skip (GC.seq (GC.block (Zo (Zm (Za (GL.nil (Zo (Zm (Zm (Zm ?_))))))))))
 obtain ⟨p5, ha6, hb7, hc8, hd9, h⟩ := h
 refine Zx ha6 hb7 hc8 hd9 ?_
 obtain ⟨x10, hr11, h⟩ := h
 refine Zv (OV.loadT rfl rfl rfl hr11) (GL.callU (xv := p_f) (vs := [.agg (T_zset_Entry.c x10).toArray]) h trivial rfl rfl rfl ?_)
 rintro _ H13 ⟨r12, rfl, h⟩
 refine GL.nil ?_
 refine Zd (fun hc14 => ?_) fun hc14 => ?_
 replace h := h.1 hc14
 refine Zo (Zm (Za (GL.nil ?_)))
 exact GC.ret (fun _ _ hf hs => post_tmp1 rfl rfl hf hs ⟨x1, rfl, h⟩)
 replace h := h.2 hc14
 refine GC.skip_to (fun _ _ h => h) (GC.region (Zi (.int .i64 (w .i64 (x1 + 1))) (Zm ?_)))
 exact GL.jump (fun _ _ h => h) (w .i64 (x1 + 1)) h ⟨rfl, rfl, rfl, rfl, trivial⟩
 replace h := h.2 hc4
 refine GC.exit_to (fun _ _ h => h) (Zo (Za (GL.nil ?_)))
 exact GC.ret (fun _ _ hf hs => post_tmp1 rfl rfl hf hs ⟨(-1), rfl, h⟩)
def sh_value_number (C : Ctx) (p_s : Str) (K : Int → Bool → Heap → Prop) (H : Heap) : Prop :=
 c_strings_TrimPrefix C p_s [45] (fun r1 H2 =>
 jn (α := Bool) (fun b3 H9 =>
 jn (α := Bool) (fun b10 H18 =>
 ift b10
 (K 0 false H18)
 (K (List.length r1 : Int) true H18))
 (fun J11 => ift b3
 (J11 true H9)
 (ixs r1 0 fun c14 =>
 J11 ((((c14.toNat : Int) : Int) == 48) && (!(p_s == ([48] : Str)))) H9)))
 (fun J4 => ift (r1 == ([] : Str))
 (J4 true H2)
 (c_strings_Trim C r1 [48, 49, 50, 51, 52, 53, 54, 55, 56, 57] (fun r7 H8 =>
 J4 (!(r7 == ([] : Str))) H8) H2))) H
theorem ad_value_number (C : Ctx) (p_s : Str) (K : Int → Bool → Heap → Prop) (H : Heap) (h : sh_value_number C p_s K H) : c_value_number C p_s K H := by
 refine Spec.enter Tryz.func59 rfl Tryz.ntmps59 rfl (GC.sub [(0, sv p_s)] ⟨rfl, trivial⟩ (Zo (Za (Za (GL.nil (Zo (Zm (Zc h ok_strings_TrimPrefix ?_))))))))
 rintro _ H2 ⟨r1, rfl, h⟩
 refine Za (GL.nil (GC.seq (Zo (Zm (Zv (OV.sbin (a := r1) (b := ([] : Str)) (v := .bool (r1 == ([] : Str))) rfl rfl rfl) (Zm ?_))))))
 obtain ⟨J4, h, hR5⟩ := h
 refine GL.cut (α := Bool) 4 J4 (fun b3 => [(13, .bool b3), (0, sv p_s), (4, sv r1)]) ?_ ?_
 rcases Zb (r1 == ([] : Str)) with hc6 | hc6
 replace h := h.1 hc6
 refine Zk hc6 (Zk hc6 (Zk hc6 (Zt hc6 ?_)))
 exact GL.jump (fun _ _ h => h) true h ⟨rfl, rfl, rfl, trivial⟩
 replace h := h.2 hc6
 refine Zu hc6 (OV.move rfl) (GL.call h ⟨_, _, rfl, rfl, hc6⟩ rfl ok_strings_Trim (vs := [sv r1, sv [48, 49, 50, 51, 52, 53, 54, 55, 56, 57]]) rfl ?_)
 rintro _ H8 ⟨r7, rfl, h⟩
 refine Zu hc6 (OV.sbin (a := r7) (b := ([] : Str)) (v := .bool (!(r7 == ([] : Str)))) rfl rfl rfl) (Zn hc6 ?_)
 exact GL.jump (fun _ _ h => h) (!(r7 == ([] : Str))) h ⟨rfl, rfl, rfl, trivial⟩
 intro b3 H9 h
 replace h := hR5 b3 H9 h
 refine Zm ?_
 obtain ⟨J11, h, hR12⟩ := h
 refine GL.cut (α := Bool) 8 J11 (fun b10 => [(22, .bool b10), (4, sv r1)]) ?_ ?_
 rcases Bool.eq_false_or_eq_true b3 with hc13 | hc13
 replace h := h.1 hc13
 refine Zk hc13 (Zk hc13 (Zk hc13 (Zk hc13 (GL.skip ⟨_, rfl, .inr rfl⟩ rfl (GL.skip ⟨_, rfl, .inr rfl⟩ rfl (Zk hc13 (Zt hc13 ?_)))))))
 exact GL.jump (fun _ _ h => h) true h ⟨rfl, rfl, trivial⟩
 replace h := h.2 hc13
 refine Zu hc13 (OV.move rfl) ?_
 obtain ⟨c14, ha15, hb16, h⟩ := h
 refine Zu hc13 (OV.indexStr rfl rfl rfl ha15 hb16) (Zu hc13 (OV.ibin (v := .bool (((c14.toNat : Int) : Int) == 48)) rfl rfl rfl) (Zu hc13 (OV.move rfl) ?_))
 refine GL.cut0 3 [(21, .bool ((((c14.toNat : Int) : Int) == 48) && (!(p_s == ([48] : Str))))), (4, sv r1), (14, .bool b3)] ?_ ?_
 rcases Zb (((c14.toNat : Int) : Int) == 48) with hc17 | hc17
 refine Zu hc17 (OV.move rfl) (Zu hc17 (OV.sbin (a := p_s) (b := ([48] : Str)) (v := .bool (!(p_s == ([48] : Str)))) rfl rfl rfl) (Zu hc13 (OV.pickT rfl hc17 rfl) ?_))
 exact GL.jump0 (fun _ _ h => h) () rfl ⟨(by rw [hc17]; rfl), rfl, rfl, trivial⟩
 refine Zk hc17 (Zk hc17 (Zu hc13 (OV.pickF rfl hc17 rfl) ?_))
 exact GL.jump0 (fun _ _ h => h) () rfl ⟨(by rw [hc17]; rfl), rfl, rfl, trivial⟩
 refine Zn hc13 ?_
 exact GL.jump (fun _ _ h => h) ((((c14.toNat : Int) : Int) == 48) && (!(p_s == ([48] : Str)))) h ⟨rfl, rfl, trivial⟩
 intro b10 H18 h
 replace h := hR12 b10 H18 h
 refine GL.nil ?_
 refine Zd (fun hc19 => ?_) fun hc19 => ?_
 replace h := h.1 hc19
 refine Zo (Za (Za (GL.nil ?_)))
 exact GC.ret (fun _ _ hf hs => post_tmp2 rfl rfl rfl hf hs ⟨0, false, rfl, h⟩)
 replace h := h.2 hc19
 refine GC.skip (Zo (Zm (Zr (Za (Za (GL.nil ?_))))))
 exact GC.ret (fun _ _ hf hs => post_tmp2 rfl rfl rfl hf hs ⟨(List.length r1 : Int), true, rfl, h⟩)
def sh_strings_Cut (C : Ctx) (p_s : Str) (p_sep : Str) (K : Str → Str → Bool → Heap → Prop) (H : Heap) : Prop :=
 c_internal_stringslite_Cut C p_s p_sep (fun r1 r2 r3 H4 =>
 K r1 r2 r3 H4) H
theorem ad_strings_Cut (C : Ctx) (p_s : Str) (p_sep : Str) (K : Str → Str → Bool → Heap → Prop) (H : Heap) (h : sh_strings_Cut C p_s p_sep K H) : c_strings_Cut C p_s p_sep K H := by
 refine Spec.enter Tryz.func60 rfl Tryz.ntmps60 rfl (GC.sub [(0, sv p_s), (1, sv p_sep)] ⟨rfl, rfl, trivial⟩ (Zo (Za (Za (Za (GL.nil (Zo (Zm (Zm (Zc h ok_internal_stringslite_Cut ?_))))))))))
 rintro _ H4 ⟨r1, r2, r3, rfl, h⟩
 refine Zv (OV.extract (v := sv r1) rfl rfl) (Zv (OV.extract (v := sv r2) rfl rfl) (Zv (OV.extract (v := .bool r3) rfl rfl) (Za (Za (Za (GL.nil ?_))))))
 exact GC.ret (fun _ _ hf hs => post_tmp3 rfl rfl rfl rfl hf hs ⟨r1, r2, r3, rfl, h⟩)
def sh_value_name (C : Ctx) (p_s : Str) (K : Bool → Heap → Prop) (H : Heap) : Prop :=
 jn (α := Bool) (fun b2 H9 =>
 jn (α := Bool) (fun b10 H17 =>
 ift b10
 (K false H17)
 (lp (α := Int) 0 H17 (fun x19 J20 H21 =>
 ift (decide ((x19 : Int) < (List.length p_s : Int)))
 (ixs p_s x19 fun c23 =>
 ift (!(((((decide (((c23.toNat : Int) : Int) ≥ 97)) && (decide (((c23.toNat : Int) : Int) ≤ 122))) || ((decide (((c23.toNat : Int) : Int) ≥ 65)) && (decide (((c23.toNat : Int) : Int) ≤ 90)))) || ((decide (((c23.toNat : Int) : Int) ≥ 48)) && (decide (((c23.toNat : Int) : Int) ≤ 57)))) || (((c23.toNat : Int) : Int) == 95)))
 (K false H21)
 (J20 (w .i64 (x19 + 1)) H21))
 (K true H21))))
 (fun J11 => ift b2
 (J11 true H9)
 (ixs p_s 0 fun c14 =>
 J11 (decide (((c14.toNat : Int) : Int) > 122)) H9)))
 (fun J3 => ift ((p_s == ([] : Str)) || (decide (((List.length p_s : Int) : Int) > 32)))
 (J3 true H)
 (ixs p_s 0 fun c6 =>
 J3 (decide (((c6.toNat : Int) : Int) < 97)) H))
theorem ad_value_name (C : Ctx) (p_s : Str) (K : Bool → Heap → Prop) (H : Heap) (h : sh_value_name C p_s K H) : c_value_name C p_s K H := by
 refine Spec.enter Tryz.func61 rfl Tryz.ntmps61 rfl (GC.sub [(0, sv p_s)] ⟨rfl, trivial⟩ (Zo (Za (GL.nil (GC.seq (Zo (Zm (Zv (OV.sbin (a := p_s) (b := ([] : Str)) (v := .bool (p_s == ([] : Str))) rfl rfl rfl) (Zm ?_)))))))))
 refine GL.cut0 4 [(11, .bool ((p_s == ([] : Str)) || (decide (((List.length p_s : Int) : Int) > 32)))), (0, sv p_s)] ?_ ?_
 rcases Zb (p_s == ([] : Str)) with hc1 | hc1
 refine Zk hc1 (Zk hc1 (Zk hc1 (Zt hc1 ?_)))
 exact GL.jump0 (fun _ _ h => h) () rfl ⟨(by rw [hc1]; rfl), rfl, trivial⟩
 refine Zu hc1 (OV.move rfl) (Zu hc1 (OV.lenStr rfl rfl) (Zu hc1 (OV.ibin (v := .bool (decide (((List.length p_s : Int) : Int) > 32))) rfl rfl rfl) (Zn hc1 ?_)))
 exact GL.jump0 (fun _ _ h => h) () rfl ⟨(by rw [hc1]; rfl), rfl, trivial⟩
 refine Zm ?_
 obtain ⟨J3, h, hR4⟩ := h
 refine GL.cut (α := Bool) 4 J3 (fun b2 => [(16, .bool b2), (0, sv p_s)]) ?_ ?_
 rcases Zb ((p_s == ([] : Str)) || (decide (((List.length p_s : Int) : Int) > 32))) with hc5 | hc5
 replace h := h.1 hc5
 refine Zk hc5 (Zk hc5 (Zk hc5 (Zt hc5 ?_)))
 exact GL.jump (fun _ _ h => h) true h ⟨rfl, rfl, trivial⟩
 replace h := h.2 hc5
 refine Zu hc5 (OV.move rfl) ?_
 obtain ⟨c6, ha7, hb8, h⟩ := h
 refine Zu hc5 (OV.indexStr rfl rfl rfl ha7 hb8) (Zu hc5 (OV.ibin (v := .bool (decide (((c6.toNat : Int) : Int) < 97))) rfl rfl rfl) (Zn hc5 ?_))
 exact GL.jump (fun _ _ h => h) (decide (((c6.toNat : Int) : Int) < 97)) h ⟨rfl, rfl, trivial⟩
 intro b2 H9 h
 replace h := hR4 b2 H9 h
 refine Zm ?_
 obtain ⟨J11, h, hR12⟩ := h
 refine GL.cut (α := Bool) 4 J11 (fun b10 => [(21, .bool b10), (0, sv p_s)]) ?_ ?_
 rcases Bool.eq_false_or_eq_true b2 with hc13 | hc13
 replace h := h.1 hc13
 refine Zk hc13 (Zk hc13 (Zk hc13 (Zt hc13 ?_)))
 exact GL.jump (fun _ _ h => h) true h ⟨rfl, rfl, trivial⟩
 replace h := h.2 hc13
 refine Zu hc13 (OV.move rfl) ?_
 obtain ⟨c14, ha15, hb16, h⟩ := h
 refine Zu hc13 (OV.indexStr rfl rfl rfl ha15 hb16) (Zu hc13 (OV.ibin (v := .bool (decide (((c14.toNat : Int) : Int) > 122))) rfl rfl rfl) (Zn hc13 ?_))
 exact GL.jump (fun _ _ h => h) (decide (((c14.toNat : Int) : Int) > 122)) h ⟨rfl, rfl, trivial⟩
 intro b10 H17 h
 replace h := hR12 b10 H17 h
 refine GL.nil ?_
 refine Zd (fun hc18 => ?_) fun hc18 => ?_
 replace h := h.1 hc18
 refine Zo (Za (GL.nil ?_))
 exact GC.ret (fun _ _ hf hs => post_tmp1 rfl rfl hf hs ⟨false, rfl, h⟩)
 replace h := h.2 hc18
 refine GC.skip (GC.seq (Zo (Zm (Zr (Zm (GL.nil (GC.block (GC.loop (α := Int) h (fun x19 => [(24, .int .i64 x19), (0, sv p_s), (23, .int .i64 (List.length p_s : Int))]) ⟨rfl, rfl, rfl, trivial⟩ ?_))))))))
 intro x19 H21 J20 h
 refine Zo (Zi (.bool (decide ((x19 : Int) < (List.length p_s : Int)))) (GL.nil (GC.seq ?_)))
 refine Zd (fun hc22 => ?_) fun hc22 => ?_
 replace h := h.1 hc22
 refine GC.skip (GC.seq (GC.block (Zo (Zm (Za (GL.nil (Zo (Zm (Zm ?_)))))))))
 obtain ⟨c23, ha24, hb25, h⟩ := h
 refine Zs ha24 hb25 (Za (GL.nil (Zo (Zm (Zi (.bool (decide (((c23.toNat : Int) : Int) ≥ 97))) (Zm ?_))))))
 refine GL.cut0 3 [(35, .bool ((decide (((c23.toNat : Int) : Int) ≥ 97)) && (decide (((c23.toNat : Int) : Int) ≤ 122)))), (0, sv p_s), (4, .int .u8 (c23.toNat : Int)), (23, .int .i64 (List.length p_s : Int)), (24, .int .i64 x19)] ?_ ?_
 rcases Zb (decide (((c23.toNat : Int) : Int) ≥ 97)) with hc26 | hc26
 refine Zu hc26 (OV.move rfl) (Zu hc26 (OV.ibin (v := .bool (decide (((c23.toNat : Int) : Int) ≤ 122))) rfl rfl rfl) (Zt hc26 ?_))
 exact GL.jump0 (fun _ _ h => h) () rfl ⟨(by rw [hc26]; rfl), rfl, rfl, rfl, rfl, trivial⟩
 refine Zk hc26 (Zk hc26 (Zn hc26 ?_))
 exact GL.jump0 (fun _ _ h => h) () rfl ⟨(by rw [hc26]; rfl), rfl, rfl, rfl, rfl, trivial⟩
 refine Zm ?_
 refine GL.cut0 7 [(43, .bool (((decide (((c23.toNat : Int) : Int) ≥ 97)) && (decide (((c23.toNat : Int) : Int) ≤ 122))) || ((decide (((c23.toNat : Int) : Int) ≥ 65)) && (decide (((c23.toNat : Int) : Int) ≤ 90))))), (0, sv p_s), (4, .int .u8 (c23.toNat : Int)), (23, .int .i64 (List.length p_s : Int)), (24, .int .i64 x19)] ?_ ?_
 rcases Zb ((decide (((c23.toNat : Int) : Int) ≥ 97)) && (decide (((c23.toNat : Int) : Int) ≤ 122))) with hc27 | hc27
 refine Zk hc27 (Zk hc27 (Zk hc27 (GL.skip ⟨_, rfl, .inr rfl⟩ rfl (GL.skip ⟨_, rfl, .inr rfl⟩ rfl (Zk hc27 (Zt hc27 ?_))))))
 exact GL.jump0 (fun _ _ h => h) () rfl ⟨(by rw [hc27]; rfl), rfl, rfl, rfl, rfl, trivial⟩
 refine Zu hc27 (OV.move rfl) (Zu hc27 (OV.ibin (v := .bool (decide (((c23.toNat : Int) : Int) ≥ 65))) rfl rfl rfl) (Zu hc27 (OV.move rfl) ?_))
 refine GL.cut0 3 [(42, .bool ((decide (((c23.toNat : Int) : Int) ≥ 65)) && (decide (((c23.toNat : Int) : Int) ≤ 90)))), (0, sv p_s), (4, .int .u8 (c23.toNat : Int)), (23, .int .i64 (List.length p_s : Int)), (24, .int .i64 x19), (36, .bool ((decide (((c23.toNat : Int) : Int) ≥ 97)) && (decide (((c23.toNat : Int) : Int) ≤ 122))))] ?_ ?_
 rcases Zb (decide (((c23.toNat : Int) : Int) ≥ 65)) with hc28 | hc28
 refine Zu hc28 (OV.move rfl) (Zu hc28 (OV.ibin (v := .bool (decide (((c23.toNat : Int) : Int) ≤ 90))) rfl rfl rfl) (Zu hc27 (OV.pickT rfl hc28 rfl) ?_))
 exact GL.jump0 (fun _ _ h => h) () rfl ⟨(by rw [hc28]; rfl), rfl, rfl, rfl, rfl, rfl, trivial⟩
 refine Zk hc28 (Zk hc28 (Zu hc27 (OV.pickF rfl hc28 rfl) ?_))
 exact GL.jump0 (fun _ _ h => h) () rfl ⟨(by rw [hc28]; rfl), rfl, rfl, rfl, rfl, rfl, trivial⟩
 refine Zn hc27 ?_
 exact GL.jump0 (fun _ _ h => h) () rfl ⟨(by rw [hc27]; rfl), rfl, rfl, rfl, rfl, trivial⟩
 refine Zm ?_
 refine GL.cut0 7 [(51, .bool ((((decide (((c23.toNat : Int) : Int) ≥ 97)) && (decide (((c23.toNat : Int) : Int) ≤ 122))) || ((decide (((c23.toNat : Int) : Int) ≥ 65)) && (decide (((c23.toNat : Int) : Int) ≤ 90)))) || ((decide (((c23.toNat : Int) : Int) ≥ 48)) && (decide (((c23.toNat : Int) : Int) ≤ 57))))), (0, sv p_s), (4, .int .u8 (c23.toNat : Int)), (23, .int .i64 (List.length p_s : Int)), (24, .int .i64 x19)] ?_ ?_
 rcases Zb (((decide (((c23.toNat : Int) : Int) ≥ 97)) && (decide (((c23.toNat : Int) : Int) ≤ 122))) || ((decide (((c23.toNat : Int) : Int) ≥ 65)) && (decide (((c23.toNat : Int) : Int) ≤ 90)))) with hc29 | hc29
 refine Zk hc29 (Zk hc29 (Zk hc29 (GL.skip ⟨_, rfl, .inr rfl⟩ rfl (GL.skip ⟨_, rfl, .inr rfl⟩ rfl (Zk hc29 (Zt hc29 ?_))))))
 exact GL.jump0 (fun _ _ h => h) () rfl ⟨(by rw [hc29]; rfl), rfl, rfl, rfl, rfl, trivial⟩
 refine Zu hc29 (OV.move rfl) (Zu hc29 (OV.ibin (v := .bool (decide (((c23.toNat : Int) : Int) ≥ 48))) rfl rfl rfl) (Zu hc29 (OV.move rfl) ?_))
 refine GL.cut0 3 [(50, .bool ((decide (((c23.toNat : Int) : Int) ≥ 48)) && (decide (((c23.toNat : Int) : Int) ≤ 57)))), (0, sv p_s), (4, .int .u8 (c23.toNat : Int)), (23, .int .i64 (List.length p_s : Int)), (24, .int .i64 x19), (44, .bool (((decide (((c23.toNat : Int) : Int) ≥ 97)) && (decide (((c23.toNat : Int) : Int) ≤ 122))) || ((decide (((c23.toNat : Int) : Int) ≥ 65)) && (decide (((c23.toNat : Int) : Int) ≤ 90)))))] ?_ ?_
 rcases Zb (decide (((c23.toNat : Int) : Int) ≥ 48)) with hc30 | hc30
 refine Zu hc30 (OV.move rfl) (Zu hc30 (OV.ibin (v := .bool (decide (((c23.toNat : Int) : Int) ≤ 57))) rfl rfl rfl) (Zu hc29 (OV.pickT rfl hc30 rfl) ?_))
 exact GL.jump0 (fun _ _ h => h) () rfl ⟨(by rw [hc30]; rfl), rfl, rfl, rfl, rfl, rfl, trivial⟩
 refine Zk hc30 (Zk hc30 (Zu hc29 (OV.pickF rfl hc30 rfl) ?_))
 exact GL.jump0 (fun _ _ h => h) () rfl ⟨(by rw [hc30]; rfl), rfl, rfl, rfl, rfl, rfl, trivial⟩
 refine Zn hc29 ?_
 exact GL.jump0 (fun _ _ h => h) () rfl ⟨(by rw [hc29]; rfl), rfl, rfl, rfl, rfl, trivial⟩
 refine Zm ?_
 refine GL.cut0 3 [(55, .bool (((((decide (((c23.toNat : Int) : Int) ≥ 97)) && (decide (((c23.toNat : Int) : Int) ≤ 122))) || ((decide (((c23.toNat : Int) : Int) ≥ 65)) && (decide (((c23.toNat : Int) : Int) ≤ 90)))) || ((decide (((c23.toNat : Int) : Int) ≥ 48)) && (decide (((c23.toNat : Int) : Int) ≤ 57)))) || (((c23.toNat : Int) : Int) == 95))), (0, sv p_s), (23, .int .i64 (List.length p_s : Int)), (24, .int .i64 x19)] ?_ ?_
 rcases Zb ((((decide (((c23.toNat : Int) : Int) ≥ 97)) && (decide (((c23.toNat : Int) : Int) ≤ 122))) || ((decide (((c23.toNat : Int) : Int) ≥ 65)) && (decide (((c23.toNat : Int) : Int) ≤ 90)))) || ((decide (((c23.toNat : Int) : Int) ≥ 48)) && (decide (((c23.toNat : Int) : Int) ≤ 57)))) with hc31 | hc31
 refine Zk hc31 (Zk hc31 (Zt hc31 ?_))
 exact GL.jump0 (fun _ _ h => h) () rfl ⟨(by rw [hc31]; rfl), rfl, rfl, rfl, trivial⟩
 refine Zu hc31 (OV.move rfl) (Zu hc31 (OV.ibin (v := .bool (((c23.toNat : Int) : Int) == 95)) rfl rfl rfl) (Zn hc31 ?_))
 exact GL.jump0 (fun _ _ h => h) () rfl ⟨(by rw [hc31]; rfl), rfl, rfl, rfl, trivial⟩
 refine Zv (OV.not rfl) (GL.nil ?_)
 refine Zd (fun hc32 => ?_) fun hc32 => ?_
 replace h := h.1 hc32
 refine Zo (Za (GL.nil ?_))
 exact GC.ret (fun _ _ hf hs => post_tmp1 rfl rfl hf hs ⟨false, rfl, h⟩)
 replace h := h.2 hc32
 refine GC.skip_to (fun _ _ h => h) (GC.region (Zi (.int .i64 (w .i64 (x19 + 1))) (Zm ?_)))
 exact GL.jump (fun _ _ h => h) (w .i64 (x19 + 1)) h ⟨rfl, rfl, rfl, trivial⟩
 replace h := h.2 hc22
 refine GC.exit_to (fun _ _ h => h) (Zo (Za (GL.nil ?_)))
 exact GC.ret (fun _ _ hf hs => post_tmp1 rfl rfl hf hs ⟨true, rfl, h⟩)
def sh_slices_Clone_api_Value_api_Value (C : Ctx) (p_s : Sl) (K : Sl → Heap → Prop) (H : Heap) : Prop :=
 ift (Sl.isNil p_s)
 (K Sl.nil H)
 (nw ([]) (fun b2 H3 =>
 apS (T_api_Value.c T_api_Value.zero) 56 (Sl.of (some (b2, 0)) 0 0) p_s (fun r4 H5 =>
 K r4 H5) H3) H)
theorem ad_slices_Clone_api_Value_api_Value (C : Ctx) (p_s : Sl) (K : Sl → Heap → Prop) (H : Heap) (h : sh_slices_Clone_api_Value_api_Value C p_s K H) : c_slices_Clone_api_Value_api_Value C p_s K H := by
 refine Spec.enter Tryz.func62 rfl Tryz.ntmps62 rfl (GC.sub [(0, slv p_s)] ⟨rfl, trivial⟩ (Zo (Za (GL.nil (GC.seq (Zo (Zm (Zv (OV.eqlSl (s := p_s) rfl rfl rfl) (GL.nil ?_)))))))))
 refine Zd (fun hc1 => ?_) fun hc1 => ?_
 replace h := h.1 hc1
 refine Zo (Za (GL.nil ?_))
 exact GC.ret (fun _ _ hf hs => post_tmp1 rfl rfl hf hs ⟨Sl.nil, rfl, h⟩)
 replace h := h.2 hc1
 refine GC.skip (Zo (GL.buildSlice (cs := []) h trivial rfl (vs := []) rfl ⟨39, fun _ => by kernel_rfl⟩ ?_))
 intro b2 H3 h
 refine Zm (GL.appendS (s := (Sl.of (some (b2, 0)) 0 0)) (s2 := p_s) (zc := T_api_Value.c T_api_Value.zero) (bytes := 56) h trivial rfl rfl rfl ⟨⟨_, _, _, rfl, rfl, rfl, rfl, rfl, rfl⟩⟩ rfl ?_)
 intro r4 H5 h
 refine Za (GL.nil ?_)
 exact GC.ret (fun _ _ hf hs => post_tmp1 rfl rfl hf hs ⟨r4, rfl, h⟩)
def sh_zset_each_1 (C : Ctx) (Y : List Value → (Bool → Heap → Prop) → Heap → Prop) (v0 : Nat × Nat) (K : Heap → Prop) (H : Heap) : Prop :=
 ldL H v0 fun x1 =>
 lp (α := Int) 0 H (fun x3 J4 H5 =>
 ift (decide ((x3 : Int) < (Sl.len x1 : Int)))
 (ixa x1 x3 fun p7 =>
 ldT H5 T_zset_part.c (p7.1, p7.2 + (x3 : Int).toNat * 2) fun x12 =>
 nw (T_zset_part.c T_zset_part.zero) (fun b14 H15 =>
 (List.all (T_zset_part.c x12) Value.oneCell' = true) ∧
 stT (b14, 0) (T_zset_part.c x12) (fun H16 =>
 ldL H16 ((b14, 0).1, (b14, 0).2 + 0) fun x18 =>
 lp (α := Int) 0 H16 (fun x20 J21 H22 =>
 ift (decide ((x20 : Int) < (Sl.len x18 : Int)))
 (ixa x18 x20 fun p24 =>
 ldT H22 T_zset_Entry.c (p24.1, p24.2 + (x20 : Int).toNat * 2) fun x29 =>
 nw (T_zset_Entry.c T_zset_Entry.zero) (fun b31 H32 =>
 stT (b31, 0) (T_zset_Entry.c x29) (fun H33 =>
 ldT H33 T_zset_Entry.c (b31, 0) fun x34 =>
 ldV H33 ((b14, 0).1, (b14, 0).2 + 1) fun x36 =>
 Y [.agg (T_zset_Entry.c x34).toArray, x36] (fun r38 H39 =>
 ift (!r38)
 (K H39)
 (J21 (w .i64 (x20 + 1)) H39)) H33) H32) H22)
 (J4 (w .i64 (x3 + 1)) H22))) H15) H5)
 (K H5))
theorem ad_zset_each_1 (C : Ctx) {yl : Nat} {Y : List Value → (Bool → Heap → Prop) → Heap → Prop} (hy : Rf.YldS Tryz.prog C yl Y) (v0 : Nat × Nat) (K : Heap → Prop) (H : Heap) (h : sh_zset_each_1 C Y v0 K H) : c_zset_each_1 C (.func (.yield yl) (List.toArray []) (List.toArray []) : Value) v0 K H := by
 refine Rf.Spec.enterI Tryz.func64 rfl Tryz.ntmps64 rfl ?_
 refine Rf.GI.sub [(0, .func (.yield yl) (List.toArray []) (List.toArray [])), (1, pv (some v0))] ⟨rfl, rfl, trivial⟩ ?_
 refine Rf.GI.seq ?_
 refine Rf.GI.region (fun _ _ h => h) rfl ?_
 obtain ⟨x1, hr2, h⟩ := h
 refine Zl hr2 (Zq (Zm ?_))
 refine Rf.GI.nil ?_
 refine Rf.GI.block ?_
 refine Rf.GI.loop (α := Int) h (fun x3 => [(9, .int .i64 x3), (0, .func (.yield yl) (List.toArray []) (List.toArray [])), (7, slv x1), (8, .int .i64 (Sl.len x1 : Int))]) ⟨rfl, rfl, rfl, rfl, trivial⟩ ?_
 intro x3 H5 J4 h
 refine Rf.GI.seq ?_
 refine Rf.GI.region (fun _ _ h => h) rfl ?_
 refine Zi (.bool (decide ((x3 : Int) < (Sl.len x1 : Int)))) ?_
 refine Rf.GI.nil ?_
 refine Rf.GI.seq ?_
 refine Rf.GI.cond (b := decide ((x3 : Int) < (Sl.len x1 : Int))) rfl (fun hc6 => ?_) (fun hc6 => ?_)
 replace h := h.1 hc6
 refine Rf.GI.skip ?_
 refine Rf.GI.seq ?_
 refine Rf.GI.block ?_
 refine Rf.GI.seq ?_
 refine Rf.GI.region (fun _ _ h => h) rfl ?_
 obtain ⟨p7, ha8, hb9, hc10, hd11, h⟩ := h
 refine Zx ha8 hb9 hc10 hd11 ?_
 obtain ⟨x12, hr13, h⟩ := h
 refine Zv (OV.loadT rfl rfl rfl hr13) (GL.alloc (cs := T_zset_part.c T_zset_part.zero) h trivial rfl rfl rfl ?_)
 intro b14 H15 h
 obtain ⟨h117, h⟩ := h
 refine GL.storeT (p := (b14, 0)) (vs := T_zset_part.c x12) h trivial rfl rfl h117 rfl ?_
 intro H16 h
 refine Rf.GI.nil ?_
 refine Rf.GI.seq ?_
 refine Rf.GI.region (fun _ _ h => h) rfl ?_
 refine Zf ?_
 obtain ⟨x18, hr19, h⟩ := h
 refine Zl hr19 (Zq (Zm ?_))
 refine Rf.GI.nil ?_
 refine Rf.GI.block ?_
 refine Rf.GI.loop (α := Int) h (fun x20 => [(16, .int .i64 x20), (0, .func (.yield yl) (List.toArray []) (List.toArray [])), (4, pv (some (b14, 0))), (7, slv x1), (8, .int .i64 (Sl.len x1 : Int)), (9, .int .i64 x3), (14, slv x18), (15, .int .i64 (Sl.len x18 : Int))]) ⟨rfl, rfl, rfl, rfl, rfl, rfl, rfl, rfl, trivial⟩ ?_
 intro x20 H22 J21 h
 refine Rf.GI.seq ?_
 refine Rf.GI.region (fun _ _ h => h) rfl ?_
 refine Zi (.bool (decide ((x20 : Int) < (Sl.len x18 : Int)))) ?_
 refine Rf.GI.nil ?_
 refine Rf.GI.seq ?_
 refine Rf.GI.cond (b := decide ((x20 : Int) < (Sl.len x18 : Int))) rfl (fun hc23 => ?_) (fun hc23 => ?_)
 replace h := h.1 hc23
 refine Rf.GI.skip ?_
 refine Rf.GI.seq ?_
 refine Rf.GI.block ?_
 refine Rf.GI.seq ?_
 refine Rf.GI.region (fun _ _ h => h) rfl ?_
 obtain ⟨p24, ha25, hb26, hc27, hd28, h⟩ := h
 refine Zx ha25 hb26 hc27 hd28 ?_
 obtain ⟨x29, hr30, h⟩ := h
 refine Zv (OV.loadT rfl rfl rfl hr30) (GL.alloc (cs := T_zset_Entry.c T_zset_Entry.zero) h trivial rfl rfl rfl ?_)
 intro b31 H32 h
 refine GL.storeT (p := (b31, 0)) (vs := T_zset_Entry.c x29) h trivial rfl rfl rfl rfl ?_
 intro H33 h
 refine Rf.GI.nil ?_
 refine Rf.GI.seq ?_
 refine Rf.GI.regionL ?_
 refine Rf.GLI.pre 4 (fun _ _ h => h) rfl ?_
 refine Zm ?_
 obtain ⟨x34, hr35, h⟩ := h
 refine Zv (OV.loadT rfl rfl rfl hr35) (Zf ?_)
 obtain ⟨x36, hr37, h⟩ := h
 refine Zl hr37 ?_
 refine Rf.GI.nilL ?_
 refine Rf.GLI.yield (us := [.agg (T_zset_Entry.c x34).toArray, x36]) hy h trivial rfl rfl rfl ?_
 intro r38 H39 h
 refine Rf.GLI.ofGL (fun _ _ h => h) rfl ?_
 refine Zv (OV.not rfl) ?_
 refine Rf.GI.nil ?_
 refine Rf.GI.cond (b := !r38) rfl (fun hc40 => ?_) (fun hc40 => ?_)
 replace h := h.1 hc40
 exact Rf.GI.ret (fun _ _ hf hs => post_tmp0 rfl hf hs ⟨rfl, h⟩)
 replace h := h.2 hc40
 refine Rf.GI.skip_to (fun _ _ h => h) ?_
 refine Rf.GI.region (fun _ _ h => h) rfl ?_
 refine Zi (.int .i64 (w .i64 (x20 + 1))) (Zm ?_)
 exact GL.jump (fun _ _ h => h) (w .i64 (x20 + 1)) h ⟨rfl, rfl, rfl, rfl, rfl, rfl, rfl, rfl, trivial⟩
 replace h := h.2 hc23
 refine Rf.GI.exit_to (fun _ _ h => h) ?_
 refine Rf.GI.region (fun _ _ h => h) rfl ?_
 refine Zi (.int .i64 (w .i64 (x3 + 1))) (Zm ?_)
 exact GL.jump (fun _ _ h => h) (w .i64 (x3 + 1)) h ⟨rfl, rfl, rfl, rfl, trivial⟩
 replace h := h.2 hc6
 exact Rf.GI.exit_ends (fun _ _ hf hs => post_tmp0 rfl hf hs ⟨rfl, h⟩)
def sh_slices_IndexFunc_api_Value_api_Value (C : Ctx) (p_s : Sl) (p_f : Value) (K : Int → Heap → Prop) (H : Heap) : Prop :=
 lp (α := Int) 0 H (fun x1 J2 H3 =>
 ift (decide ((x1 : Int) < (Sl.len p_s : Int)))
 (ixa p_s x1 fun p5 =>
 ldT H3 T_api_Value.c (p5.1, p5.2 + (x1 : Int).toNat * 4) fun x10 =>
 callU Tryz.prog C p_f [.agg (T_api_Value.c x10).toArray] H3 (fun v H13 => ∃ (r12 : Bool), v = .bool r12 ∧
 ift r12
 (K x1 H13)
 (J2 (w .i64 (x1 + 1)) H13)))
 (K (-1) H3))
theorem ad_slices_IndexFunc_api_Value_api_Value (C : Ctx) (p_s : Sl) (p_f : Value) (K : Int → Heap → Prop) (H : Heap) (h : sh_slices_IndexFunc_api_Value_api_Value C p_s p_f K H) : c_slices_IndexFunc_api_Value_api_Value C p_s p_f K H := by
 refine Spec.enter Tryz.func65 rfl Tryz.ntmps65 rfl (GC.sub [(0, slv p_s), (1, p_f)] ⟨rfl, rfl, trivial⟩ (Zo (Za (GL.nil (GC.seq (Zo (Zm (Zq (Zm (GL.nil (GC.block ?_)))))))))))
 refine GC.loop (α := Int) h (fun x1 => [(8, .int .i64 x1), (0, slv p_s), (1, p_f), (7, .int .i64 (Sl.len p_s : Int))]) ⟨rfl, rfl, rfl, rfl, trivial⟩ ?_
 intro x1 H3 J2 h
 refine Zo (Zi (.bool (decide ((x1 : Int) < (Sl.len p_s : Int)))) (GL.nil (GC.seq ?_)))
 refine Zd (fun hc4 => ?_) fun hc4 => ?_
 replace h := h.1 hc4
 refine GC.skip (GC.seq (GC.block (Zo (Zm (Za (GL.nil (Zo (Zm (Zm (Zm ?_))))))))))
 obtain ⟨p5, ha6, hb7, hc8, hd9, h⟩ := h
 refine Zx ha6 hb7 hc8 hd9 ?_
 obtain ⟨x10, hr11, h⟩ := h
 refine Zv (OV.loadT rfl rfl rfl hr11) (GL.callU (xv := p_f) (vs := [.agg (T_api_Value.c x10).toArray]) h trivial rfl rfl rfl ?_)
 rintro _ H13 ⟨r12, rfl, h⟩
 refine GL.nil ?_
 refine Zd (fun hc14 => ?_) fun hc14 => ?_
 replace h := h.1 hc14
 refine Zo (Zm (Za (GL.nil ?_)))
 exact GC.ret (fun _ _ hf hs => post_tmp1 rfl rfl hf hs ⟨x1, rfl, h⟩)
 replace h := h.2 hc14
 refine GC.skip_to (fun _ _ h => h) (GC.region (Zi (.int .i64 (w .i64 (x1 + 1))) (Zm ?_)))
 exact GL.jump (fun _ _ h => h) (w .i64 (x1 + 1)) h ⟨rfl, rfl, rfl, rfl, trivial⟩
 replace h := h.2 hc4
 refine GC.exit_to (fun _ _ h => h) (Zo (Za (GL.nil ?_)))
 exact GC.ret (fun _ _ hf hs => post_tmp1 rfl rfl hf hs ⟨(-1), rfl, h⟩)
def sh_slices_stableCmpFunc_zset_Entry (C : Ctx) (p_data : Sl) (p_n : Int) (p_cmp : Value) (K : Heap → Prop) (H : Heap) : Prop :=
 lp (α := Int × Int) (0, 20) H (fun x1 J2 H3 =>
 ift (decide ((x1.2 : Int) ≤ p_n))
 (c_slices_insertionSortCmpFunc_zset_Entry C p_data x1.1 x1.2 p_cmp (fun H5 =>
 J2 (x1.2, (w .i64 (x1.2 + 20))) H5) H3)
 (c_slices_insertionSortCmpFunc_zset_Entry C p_data x1.1 p_n p_cmp (fun H6 =>
 lp (α := Int) 20 H6 (fun x7 J8 H9 =>
 ift (decide ((x7 : Int) < p_n))
 (lp (α := Int × Int) (0, (w .i64 (2 * x7))) H9 (fun x11 J12 H13 =>
 ift (decide ((x11.2 : Int) ≤ p_n))
 (c_slices_symMergeCmpFunc_zset_Entry C p_data x11.1 (w .i64 (x11.1 + x7)) x11.2 p_cmp (fun H15 =>
 J12 (x11.2, (w .i64 (x11.2 + (w .i64 (2 * x7))))) H15) H13)
 (jn (α := Unit) (fun x17 H18 =>
 J8 (w .i64 (x7 * 2)) H18)
 (fun J16 => ift (decide (((w .i64 (x11.1 + x7)) : Int) < p_n))
 (c_slices_symMergeCmpFunc_zset_Entry C p_data x11.1 (w .i64 (x11.1 + x7)) p_n p_cmp (fun H21 =>
 J16 () H21) H13)
 (J16 () H13)))))
 (K H9))) H3))
theorem ad_slices_stableCmpFunc_zset_Entry (C : Ctx) (p_data : Sl) (p_n : Int) (p_cmp : Value) (K : Heap → Prop) (H : Heap) (h : sh_slices_stableCmpFunc_zset_Entry C p_data p_n p_cmp K H) : c_slices_stableCmpFunc_zset_Entry C p_data p_n p_cmp K H := by
 refine Spec.enter Tryz.func66 rfl Tryz.ntmps66 rfl (GC.sub [(0, slv p_data), (1, .int .i64 p_n), (2, p_cmp)] ⟨rfl, rfl, rfl, trivial⟩ (Zo (Za (GL.nil (Zo (Zm (Za (Za (GL.nil (GC.seq (GC.block ?_)))))))))))
 refine GC.loop (α := Int × Int) h (fun x1 => [(7, .int .i64 x1.1), (8, .int .i64 x1.2), (0, slv p_data), (1, .int .i64 p_n), (2, p_cmp), (6, .int .i64 20)]) ⟨rfl, rfl, rfl, rfl, rfl, rfl, trivial⟩ ?_
 intro x1 H3 J2 h
 refine GC.seq (Zo (Zm (Zm (Zi (.bool (decide ((x1.2 : Int) ≤ p_n))) (GL.nil ?_)))))
 refine Zd (fun hc4 => ?_) fun hc4 => ?_
 replace h := h.1 hc4
 refine GC.skip (GC.block (Zo (Zm (Zm (Zm (Zm (Zc h ok_slices_insertionSortCmpFunc_zset_Entry ?_)))))))
 rintro _ H5 ⟨rfl, h⟩
 refine GL.nil (Zo (Zm (Za (GL.nil (GC.region (Zm (Zm (Zi (.int .i64 (w .i64 (x1.2 + 20))) (Za ?_)))))))))
 exact GL.jump (fun _ _ h => h) (x1.2, (w .i64 (x1.2 + 20))) h ⟨rfl, rfl, rfl, rfl, rfl, rfl, trivial⟩
 replace h := h.2 hc4
 refine GC.exit_to (fun _ _ h => h) (Zo (Zm (Zm (Zm (Zm (Zc h ok_slices_insertionSortCmpFunc_zset_Entry ?_))))))
 rintro _ H6 ⟨rfl, h⟩
 refine GL.nil (GC.block (GC.loop (α := Int) h (fun x7 => [(6, .int .i64 x7), (0, slv p_data), (1, .int .i64 p_n), (2, p_cmp)]) ⟨rfl, rfl, rfl, rfl, trivial⟩ ?_))
 intro x7 H9 J8 h
 refine GC.seq (Zo (Zm (Zm (Zi (.bool (decide ((x7 : Int) < p_n))) (GL.nil ?_)))))
 refine Zd (fun hc10 => ?_) fun hc10 => ?_
 replace h := h.1 hc10
 refine GC.skip (GC.block (Zo (Zm (Zi (.int .i64 (w .i64 (2 * x7))) (Za (Za (GL.nil (GC.seq (GC.block (GC.loop (α := Int × Int) h (fun x11 => [(7, .int .i64 x11.1), (8, .int .i64 x11.2), (0, slv p_data), (1, .int .i64 p_n), (2, p_cmp), (6, .int .i64 x7)]) ⟨rfl, rfl, rfl, rfl, rfl, rfl, trivial⟩ ?_))))))))))
 intro x11 H13 J12 h
 refine GC.seq (Zo (Zm (Zm (Zi (.bool (decide ((x11.2 : Int) ≤ p_n))) (GL.nil ?_)))))
 refine Zd (fun hc14 => ?_) fun hc14 => ?_
 replace h := h.1 hc14
 refine GC.skip (GC.block (Zo (Zm (Zm (Zm (Zm (Zi (.int .i64 (w .i64 (x11.1 + x7))) (Zm (Zm (Zc h ok_slices_symMergeCmpFunc_zset_Entry ?_))))))))))
 rintro _ H15 ⟨rfl, h⟩
 refine GL.nil (Zo (Zm (Za (GL.nil (GC.region (Zm (Zm (Zi (.int .i64 (w .i64 (2 * x7))) (Zi (.int .i64 (w .i64 (x11.2 + (w .i64 (2 * x7))))) (Za ?_))))))))))
 exact GL.jump (fun _ _ h => h) (x11.2, (w .i64 (x11.2 + (w .i64 (2 * x7))))) h ⟨rfl, rfl, rfl, rfl, rfl, rfl, trivial⟩
 replace h := h.2 hc14
 refine GC.exit_to (fun _ _ h => h) ?_
 obtain ⟨J16, h, hR19⟩ := h
 refine GC.join (α := Unit) J16 (fun _ => [(0, slv p_data), (1, .int .i64 p_n), (2, p_cmp), (6, .int .i64 x7)]) ?_ ?_
 refine Zo (Zm (Zm (Zi (.int .i64 (w .i64 (x11.1 + x7))) (Za (GL.nil (Zo (Zm (Zm (Zi (.bool (decide (((w .i64 (x11.1 + x7)) : Int) < p_n))) (GL.nil ?_))))))))))
 refine Zd (fun hc20 => ?_) fun hc20 => ?_
 replace h := h.1 hc20
 refine GC.region (Zm (Zm (Zm (Zm (Zm (Zc h ok_slices_symMergeCmpFunc_zset_Entry ?_))))))
 rintro _ H21 ⟨rfl, h⟩
 exact GL.jump (fun _ _ h => h) () h ⟨rfl, rfl, rfl, rfl, trivial⟩
 replace h := h.2 hc20
 exact GC.jump (fun _ _ h => h) () h ⟨rfl, rfl, rfl, rfl, trivial⟩
 intro x17 H18 h
 replace h := hR19 x17 H18 h
 refine GC.region (Zm (Zi (.int .i64 (w .i64 (x7 * 2))) (Za ?_)))
 exact GL.jump (fun _ _ h => h) (w .i64 (x7 * 2)) h ⟨rfl, rfl, rfl, rfl, trivial⟩
 replace h := h.2 hc10
 exact GC.exit_ends (fun _ _ hf hs => post_tmp0 rfl hf hs ⟨rfl, h⟩)
def sh_ref02_Row (C : Ctx) (p_l : Sl) (K : Bool → Heap → Prop) (H : Heap) : Prop :=
 lp (α := Int) 0 H (fun x1 J2 H3 =>
 ift (decide ((x1 : Int) < (Sl.len p_l : Int)))
 (ixa p_l x1 fun p5 =>
 ldT H3 T_api_Value.c (p5.1, p5.2 + (x1 : Int).toNat * 4) fun x10 =>
 c_ref02_Check C x10 (fun r12 H13 =>
 ift ((r12 : Int) != 0)
 (K false H13)
 (J2 (w .i64 (x1 + 1)) H13)) H3)
 (K true H3))
theorem ad_ref02_Row (C : Ctx) (p_l : Sl) (K : Bool → Heap → Prop) (H : Heap) (h : sh_ref02_Row C p_l K H) : c_ref02_Row C p_l K H := by
 refine Spec.enter Tryz.func67 rfl Tryz.ntmps67 rfl (GC.sub [(0, slv p_l)] ⟨rfl, trivial⟩ (Zo (Za (GL.nil (GC.seq (Zo (Za (GL.nil (GC.block (GC.loop (α := Int) h (fun x1 => [(3, .int .i64 x1), (0, slv p_l)]) ⟨rfl, rfl, trivial⟩ ?_))))))))))
 intro x1 H3 J2 h
 refine GC.seq (Zo (Zm (Zm (Zq (Zi (.bool (decide ((x1 : Int) < (Sl.len p_l : Int)))) (GL.nil ?_))))))
 refine Zd (fun hc4 => ?_) fun hc4 => ?_
 replace h := h.1 hc4
 refine GC.skip (GC.seq (GC.block (Zo (Zm (Zm ?_)))))
 obtain ⟨p5, ha6, hb7, hc8, hd9, h⟩ := h
 refine Zx ha6 hb7 hc8 hd9 ?_
 obtain ⟨x10, hr11, h⟩ := h
 refine Zv (OV.loadT rfl rfl rfl hr11) (Zc h ok_ref02_Check ?_)
 rintro _ H13 ⟨r12, rfl, h⟩
 refine Zi (.bool ((r12 : Int) != 0)) (GL.nil ?_)
 refine Zd (fun hc14 => ?_) fun hc14 => ?_
 replace h := h.1 hc14
 refine Zo (Za (GL.nil ?_))
 exact GC.ret (fun _ _ hf hs => post_tmp1 rfl rfl hf hs ⟨false, rfl, h⟩)
 replace h := h.2 hc14
 refine GC.skip_to (fun _ _ h => h) (GC.region (Zm (Zi (.int .i64 (w .i64 (x1 + 1))) (Za ?_))))
 exact GL.jump (fun _ _ h => h) (w .i64 (x1 + 1)) h ⟨rfl, rfl, trivial⟩
 replace h := h.2 hc4
 refine GC.exit_to (fun _ _ h => h) (Zo (Za (GL.nil ?_)))
 exact GC.ret (fun _ _ hf hs => post_tmp1 rfl rfl hf hs ⟨true, rfl, h⟩)
def sh_ref02_last (C : Ctx) (p_a : Bool) (p_b : Bool) (K : Int → Heap → Prop) (H : Heap) : Prop :=
 ift (p_a == p_b)
 (K 0 H)
 (ift p_a
 (K (-1) H)
 (K 1 H))
theorem ad_ref02_last (C : Ctx) (p_a : Bool) (p_b : Bool) (K : Int → Heap → Prop) (H : Heap) (h : sh_ref02_last C p_a p_b K H) : c_ref02_last C p_a p_b K H := by
 refine Spec.enter Tryz.func68 rfl Tryz.ntmps68 rfl (GC.sub [(0, .bool p_a), (1, .bool p_b)] ⟨rfl, rfl, trivial⟩ (Zo (Za (GL.nil (GC.seq (Zo (Zm (Zm (Zv (OV.eqlBool rfl rfl rfl) (GL.nil ?_))))))))))
 refine Zd (fun hc1 => ?_) fun hc1 => ?_
 replace h := h.1 hc1
 refine Zo (Za (GL.nil ?_))
 exact GC.ret (fun _ _ hf hs => post_tmp1 rfl rfl hf hs ⟨0, rfl, h⟩)
 replace h := h.2 hc1
 refine GC.skip (GC.seq (Zo (Zm (GL.nil ?_))))
 refine Zd (fun hc2 => ?_) fun hc2 => ?_
 replace h := h.1 hc2
 refine Zo (Za (GL.nil ?_))
 exact GC.ret (fun _ _ hf hs => post_tmp1 rfl rfl hf hs ⟨(-1), rfl, h⟩)
 replace h := h.2 hc2
 refine GC.skip (Zo (Za (GL.nil ?_)))
 exact GC.ret (fun _ _ hf hs => post_tmp1 rfl rfl hf hs ⟨1, rfl, h⟩)
def sh_ref02_rows (C : Ctx) (p_a : Sl) (p_b : Sl) (K : Int → Heap → Prop) (H : Heap) : Prop :=
 lp (α := Int) 0 H (fun x1 J2 H3 =>
 ift ((decide ((x1 : Int) < (Sl.len p_a : Int))) && (decide ((x1 : Int) < (Sl.len p_b : Int))))
 (dr H3 fun Hs6 =>
 ixa p_a x1 fun p8 =>
 ldT Hs6 T_api_Value.c (p8.1, p8.2 + (x1 : Int).toNat * 4) fun x13 =>
 ixa p_b x1 fun p15 =>
 ldT Hs6 T_api_Value.c (p15.1, p15.2 + (x1 : Int).toNat * 4) fun x20 =>
 c_ref02_cmp C x13 x20 (fun r23 H24 =>
 Heap.le Hs6 H24 ∧
 ift ((r23 : Int) != 0)
 (K r23 H24)
 (J2 (w .i64 (x1 + 1)) H24)) H3)
 (c_ref02_ints C (Sl.len p_a : Int) (Sl.len p_b : Int) (fun r26 H27 =>
 K r26 H27) H3))
theorem ad_ref02_rows (C : Ctx) (p_a : Sl) (p_b : Sl) (K : Int → Heap → Prop) (H : Heap) (h : sh_ref02_rows C p_a p_b K H) : c_ref02_rows C p_a p_b K H := by
 refine Spec.enter Tryz.func69 rfl Tryz.ntmps69 rfl (GC.sub [(0, slv p_a), (1, slv p_b)] ⟨rfl, rfl, trivial⟩ (Zo (Za (GL.nil (GC.seq (Zo (Za (GL.nil (GC.block (GC.loop (α := Int) h (fun x1 => [(5, .int .i64 x1), (0, slv p_a), (1, slv p_b)]) ⟨rfl, rfl, rfl, trivial⟩ ?_))))))))))
 intro x1 H3 J2 h
 refine GC.seq (Zo (Zm (Zm (Zq (Zi (.bool (decide ((x1 : Int) < (Sl.len p_a : Int)))) (Zm ?_))))))
 refine GL.cut0 5 [(16, .bool ((decide ((x1 : Int) < (Sl.len p_a : Int))) && (decide ((x1 : Int) < (Sl.len p_b : Int))))), (0, slv p_a), (1, slv p_b), (5, .int .i64 x1)] ?_ ?_
 rcases Zb (decide ((x1 : Int) < (Sl.len p_a : Int))) with hc4 | hc4
 refine Zu hc4 (OV.move rfl) (Zu hc4 (OV.move rfl) (Zu hc4 (OV.lenSl rfl rfl) (Zu hc4 (OV.ibin (v := .bool (decide ((x1 : Int) < (Sl.len p_b : Int)))) rfl rfl rfl) (Zt hc4 ?_))))
 exact GL.jump0 (fun _ _ h => h) () rfl ⟨(by rw [hc4]; rfl), rfl, rfl, rfl, trivial⟩
 refine Zk hc4 (Zk hc4 (Zk hc4 (Zk hc4 (Zn hc4 ?_))))
 exact GL.jump0 (fun _ _ h => h) () rfl ⟨(by rw [hc4]; rfl), rfl, rfl, rfl, trivial⟩
 refine GL.nil ?_
 refine Zd (fun hc5 => ?_) fun hc5 => ?_
 replace h := h.1 hc5
 refine GC.skip (GC.seq (GC.block (GC.seq ?_)))
 obtain ⟨Hs6, hle7, h⟩ := h
 refine GC.any (Hs := Hs6) (by kernel_rfl) hle7 (Zp 0 rfl (OV.move rfl) (Zp 1 rfl (OV.move rfl) ?_))
 obtain ⟨p8, ha9, hb10, hc11, hd12, h⟩ := h
 refine Zp 2 rfl (OV.indexAddr rfl rfl rfl rfl ha9 hb10 hc11 hd12) ?_
 obtain ⟨x13, hr14, h⟩ := h
 refine Zp 3 rfl (OV.loadT rfl rfl rfl hr14) (Zp 4 rfl (OV.move rfl) (Zp 5 rfl (OV.move rfl) ?_))
 obtain ⟨p15, ha16, hb17, hc18, hd19, h⟩ := h
 refine Zp 6 rfl (OV.indexAddr rfl rfl rfl rfl ha16 hb17 hc18 hd19) ?_
 obtain ⟨x20, hr21, h⟩ := h
 refine Zp 7 rfl (OV.loadT rfl rfl rfl hr21) (GA.eff 8 rfl (by kernel_rfl) (Zc h ok_ref02_cmp ?_))
 rintro _ H24 ⟨r23, rfl, h⟩
 obtain ⟨hle22, h⟩ := h
 refine GA.back hle22 (Zp 9 rfl (OV.assign rfl) (GA.done (by kernel_rfl) (GL.nil (Zo (Zm (Zi (.bool ((r23 : Int) != 0)) (GL.nil ?_)))))))
 refine Zd (fun hc25 => ?_) fun hc25 => ?_
 replace h := h.1 hc25
 refine Zo (Zm (Za (GL.nil ?_)))
 exact GC.ret (fun _ _ hf hs => post_tmp1 rfl rfl hf hs ⟨r23, rfl, h⟩)
 replace h := h.2 hc25
 refine GC.skip_to (fun _ _ h => h) (GC.region (Zm (Zi (.int .i64 (w .i64 (x1 + 1))) (Za ?_))))
 exact GL.jump (fun _ _ h => h) (w .i64 (x1 + 1)) h ⟨rfl, rfl, rfl, trivial⟩
 replace h := h.2 hc5
 refine GC.exit_to (fun _ _ h => h) (Zo (Zm (Zq (Zm (Zq (Zc h ok_ref02_ints ?_))))))
 rintro _ H27 ⟨r26, rfl, h⟩
 refine Za (GL.nil ?_)
 exact GC.ret (fun _ _ hf hs => post_tmp1 rfl rfl hf hs ⟨r26, rfl, h⟩)
def sh_cmp_Compare_uint8 (C : Ctx) (p_x : Int) (p_y : Int) (K : Int → Heap → Prop) (H : Heap) : Prop :=
 c_cmp_isNaN_uint8 C p_x (fun r1 H2 =>
 c_cmp_isNaN_uint8 C p_y (fun r3 H4 =>
 ift r1
 (ift r3
 (K 0 H4)
 (K (-1) H4))
 (ift r3
 (K 1 H4)
 (ift (decide ((p_x : Int) < p_y))
 (K (-1) H4)
 (ift (decide ((p_x : Int) > p_y))
 (K 1 H4)
 (K 0 H4))))) H2) H
theorem ad_cmp_Compare_uint8 (C : Ctx) (p_x : Int) (p_y : Int) (K : Int → Heap → Prop) (H : Heap) (h : sh_cmp_Compare_uint8 C p_x p_y K H) : c_cmp_Compare_uint8 C p_x p_y K H := by
 refine Spec.enter Tryz.func70 rfl Tryz.ntmps70 rfl (GC.sub [(0, .int .u8 p_x), (1, .int .u8 p_y)] ⟨rfl, rfl, trivial⟩ (Zo (Za (GL.nil (Zo (Zm (Zc h ok_cmp_isNaN_uint8 ?_)))))))
 rintro _ H2 ⟨r1, rfl, h⟩
 refine Za (GL.nil (Zo (Zm (Zc h ok_cmp_isNaN_uint8 ?_))))
 rintro _ H4 ⟨r3, rfl, h⟩
 refine Za (GL.nil (GC.seq (Zo (Zm (GL.nil ?_)))))
 refine Zd (fun hc5 => ?_) fun hc5 => ?_
 replace h := h.1 hc5
 refine GC.seq (Zo (Zm (GL.nil ?_)))
 refine Zd (fun hc6 => ?_) fun hc6 => ?_
 replace h := h.1 hc6
 refine Zo (Za (GL.nil ?_))
 exact GC.ret (fun _ _ hf hs => post_tmp1 rfl rfl hf hs ⟨0, rfl, h⟩)
 replace h := h.2 hc6
 refine GC.skip (Zo (Za (GL.nil ?_)))
 exact GC.ret (fun _ _ hf hs => post_tmp1 rfl rfl hf hs ⟨(-1), rfl, h⟩)
 replace h := h.2 hc5
 refine GC.skip (GC.seq (Zo (Zm (GL.nil ?_))))
 refine Zd (fun hc7 => ?_) fun hc7 => ?_
 replace h := h.1 hc7
 refine Zo (Za (GL.nil ?_))
 exact GC.ret (fun _ _ hf hs => post_tmp1 rfl rfl hf hs ⟨1, rfl, h⟩)
 replace h := h.2 hc7
 refine GC.skip (GC.seq (Zo (Zm (Zm (Zi (.bool (decide ((p_x : Int) < p_y))) (GL.nil ?_))))))
 refine Zd (fun hc8 => ?_) fun hc8 => ?_
 replace h := h.1 hc8
 refine Zo (Za (GL.nil ?_))
 exact GC.ret (fun _ _ hf hs => post_tmp1 rfl rfl hf hs ⟨(-1), rfl, h⟩)
 replace h := h.2 hc8
 refine GC.skip (GC.seq (Zo (Zm (Zm (Zi (.bool (decide ((p_x : Int) > p_y))) (GL.nil ?_))))))
 refine Zd (fun hc9 => ?_) fun hc9 => ?_
 replace h := h.1 hc9
 refine Zo (Za (GL.nil ?_))
 exact GC.ret (fun _ _ hf hs => post_tmp1 rfl rfl hf hs ⟨1, rfl, h⟩)
 replace h := h.2 hc9
 refine GC.skip (Zo (Za (GL.nil ?_)))
 exact GC.ret (fun _ _ hf hs => post_tmp1 rfl rfl hf hs ⟨0, rfl, h⟩)
def sh_value_bigs (C : Ctx) (p_a : Str) (p_b : Str) (K : Int → Heap → Prop) (H : Heap) : Prop :=
 c_strings_HasPrefix C p_a [45] (fun r1 H2 =>
 c_strings_HasPrefix C p_b [45] (fun r3 H4 =>
 ift (r1 && r3)
 (dr H4 fun Hs7 =>
 slS p_b 1 (List.length p_b : Int) fun t9 =>
 slS p_a 1 (List.length p_a : Int) fun t15 =>
 c_value_bigs C t9 t15 (fun r22 H23 =>
 Heap.le Hs7 H23 ∧
 K r22 H23) H4)
 (ift r1
 (K (-1) H4)
 (ift r3
 (K 1 H4)
 (c_cmp_Compare_int C (List.length p_a : Int) (List.length p_b : Int) (fun r26 H27 =>
 c_cmp_Compare_string C p_a p_b (fun r28 H29 =>
 nw ([.int .i64 r26, .int .i64 r28]) (fun b30 H31 =>
 c_cmp_Or_int C (Sl.of (some (b30, 0)) 2 2) (fun r32 H33 =>
 K r32 H33) H31) H29) H27) H4)))) H2) H
theorem ad_value_bigs (C : Ctx) (p_a : Str) (p_b : Str) (K : Int → Heap → Prop) (H : Heap) (h : sh_value_bigs C p_a p_b K H) : c_value_bigs C p_a p_b K H := by
 refine Spec.enter Tryz.func71 rfl Tryz.ntmps71 rfl (GC.sub [(0, sv p_a), (1, sv p_b)] ⟨rfl, rfl, trivial⟩ (Zo (Za (GL.nil (Zo (Zm (Zc h ok_strings_HasPrefix ?_)))))))
 rintro _ H2 ⟨r1, rfl, h⟩
 refine Zm (Zc h ok_strings_HasPrefix ?_)
 rintro _ H4 ⟨r3, rfl, h⟩
 refine Za (Za (GL.nil (GC.seq (GC.block (Zo (Zm (Zm ?_)))))))
 refine GL.cut0 2 [(15, .bool (r1 && r3)), (0, sv p_a), (1, sv p_b), (5, .bool r1), (6, .bool r3)] ?_ ?_
 rcases Bool.eq_false_or_eq_true r1 with hc5 | hc5
 refine Zu hc5 (OV.move rfl) (Zt hc5 ?_)
 exact GL.jump0 (fun _ _ h => h) () rfl ⟨(by rw [hc5]; rfl), rfl, rfl, rfl, rfl, trivial⟩
 refine Zk hc5 (Zn hc5 ?_)
 exact GL.jump0 (fun _ _ h => h) () rfl ⟨(by rw [hc5]; rfl), rfl, rfl, rfl, rfl, trivial⟩
 refine Za (GL.nil ?_)
 refine Zd (fun hc6 => ?_) fun hc6 => ?_
 replace h := h.1 hc6
 refine GC.seq ?_
 obtain ⟨Hs7, hle8, h⟩ := h
 refine GC.any (Hs := Hs7) (by kernel_rfl) hle8 (Zp 0 rfl (OV.move rfl) ?_)
 obtain ⟨h10, h11, h12, t9, h13, h⟩ := h
 refine Zp 1 rfl (OV.sliceStr (s := p_b) h10 h11 h12 h13 rfl rfl rfl rfl rfl rfl) (Zp 2 rfl (OV.move rfl) ?_)
 obtain ⟨h16, h17, h18, t15, h19, h⟩ := h
 refine Zp 3 rfl (OV.sliceStr (s := p_a) h16 h17 h18 h19 rfl rfl rfl rfl rfl rfl) (GA.eff 4 rfl (by kernel_rfl) (Zc h ok_value_bigs ?_))
 rintro _ H23 ⟨r22, rfl, h⟩
 obtain ⟨hle21, h⟩ := h
 refine GA.back hle21 (Zp 5 rfl (OV.assign rfl) (GA.done (by kernel_rfl) (GL.nil ?_)))
 exact GC.ret (fun _ _ hf hs => post_tmp1 rfl rfl hf hs ⟨r22, rfl, h⟩)
 replace h := h.2 hc6
 refine Zo (Zm (Za (GL.nil ?_)))
 refine Zd (fun hc24 => ?_) fun hc24 => ?_
 replace h := h.1 hc24
 refine Zo (Za (GL.nil ?_))
 exact GC.ret (fun _ _ hf hs => post_tmp1 rfl rfl hf hs ⟨(-1), rfl, h⟩)
 replace h := h.2 hc24
 refine Zo (Zm (Za (GL.nil ?_)))
 refine Zd (fun hc25 => ?_) fun hc25 => ?_
 replace h := h.1 hc25
 refine Zo (Za (GL.nil ?_))
 exact GC.ret (fun _ _ hf hs => post_tmp1 rfl rfl hf hs ⟨1, rfl, h⟩)
 replace h := h.2 hc25
 refine GC.skip_to (fun _ _ h => h) (Zo (Zm (Zr (Zm (Zr (Zc h ok_cmp_Compare_int ?_))))))
 rintro _ H27 ⟨r26, rfl, h⟩
 refine Zm (Zm (Zc h ok_cmp_Compare_string ?_))
 rintro _ H29 ⟨r28, rfl, h⟩
 refine GL.buildSlice (cs := [.int .i64 r26, .int .i64 r28]) h trivial rfl (vs := [(0, .int .i64 r26), (1, .int .i64 r28)]) rfl ⟨3, fun _ => by kernel_rfl⟩ ?_
 intro b30 H31 h
 refine Zc h ok_cmp_Or_int ?_
 rintro _ H33 ⟨r32, rfl, h⟩
 refine Za (GL.nil ?_)
 exact GC.ret (fun _ _ hf hs => post_tmp1 rfl rfl hf hs ⟨r32, rfl, h⟩)
def sh_cmp_Compare_string (C : Ctx) (p_x : Str) (p_y : Str) (K : Int → Heap → Prop) (H : Heap) : Prop :=
 c_cmp_isNaN_string C p_x (fun r1 H2 =>
 c_cmp_isNaN_string C p_y (fun r3 H4 =>
 ift r1
 (ift r3
 (K 0 H4)
 (K (-1) H4))
 (ift r3
 (K 1 H4)
 (ift (slt p_x p_y)
 (K (-1) H4)
 (ift (!(slt p_x p_y || (p_x == p_y)))
 (K 1 H4)
 (K 0 H4))))) H2) H
theorem ad_cmp_Compare_string (C : Ctx) (p_x : Str) (p_y : Str) (K : Int → Heap → Prop) (H : Heap) (h : sh_cmp_Compare_string C p_x p_y K H) : c_cmp_Compare_string C p_x p_y K H := by
 refine Spec.enter Tryz.func72 rfl Tryz.ntmps72 rfl (GC.sub [(0, sv p_x), (1, sv p_y)] ⟨rfl, rfl, trivial⟩ (Zo (Za (GL.nil (Zo (Zm (Zc h ok_cmp_isNaN_string ?_)))))))
 rintro _ H2 ⟨r1, rfl, h⟩
 refine Za (GL.nil (Zo (Zm (Zc h ok_cmp_isNaN_string ?_))))
 rintro _ H4 ⟨r3, rfl, h⟩
 refine Za (GL.nil (GC.seq (Zo (Zm (GL.nil ?_)))))
 refine Zd (fun hc5 => ?_) fun hc5 => ?_
 replace h := h.1 hc5
 refine GC.seq (Zo (Zm (GL.nil ?_)))
 refine Zd (fun hc6 => ?_) fun hc6 => ?_
 replace h := h.1 hc6
 refine Zo (Za (GL.nil ?_))
 exact GC.ret (fun _ _ hf hs => post_tmp1 rfl rfl hf hs ⟨0, rfl, h⟩)
 replace h := h.2 hc6
 refine GC.skip (Zo (Za (GL.nil ?_)))
 exact GC.ret (fun _ _ hf hs => post_tmp1 rfl rfl hf hs ⟨(-1), rfl, h⟩)
 replace h := h.2 hc5
 refine GC.skip (GC.seq (Zo (Zm (GL.nil ?_))))
 refine Zd (fun hc7 => ?_) fun hc7 => ?_
 replace h := h.1 hc7
 refine Zo (Za (GL.nil ?_))
 exact GC.ret (fun _ _ hf hs => post_tmp1 rfl rfl hf hs ⟨1, rfl, h⟩)
 replace h := h.2 hc7
 refine GC.skip (GC.seq (Zo (Zm (Zm (Zv (OV.sbin (a := p_x) (b := p_y) (v := .bool (slt p_x p_y)) rfl rfl rfl) (GL.nil ?_))))))
 refine Zd (fun hc8 => ?_) fun hc8 => ?_
 replace h := h.1 hc8
 refine Zo (Za (GL.nil ?_))
 exact GC.ret (fun _ _ hf hs => post_tmp1 rfl rfl hf hs ⟨(-1), rfl, h⟩)
 replace h := h.2 hc8
 refine GC.skip (GC.seq (Zo (Zm (Zm (Zv (OV.sbin (a := p_x) (b := p_y) (v := .bool (!(slt p_x p_y || (p_x == p_y)))) rfl rfl rfl) (GL.nil ?_))))))
 refine Zd (fun hc9 => ?_) fun hc9 => ?_
 replace h := h.1 hc9
 refine Zo (Za (GL.nil ?_))
 exact GC.ret (fun _ _ hf hs => post_tmp1 rfl rfl hf hs ⟨1, rfl, h⟩)
 replace h := h.2 hc9
 refine GC.skip (Zo (Za (GL.nil ?_)))
 exact GC.ret (fun _ _ hf hs => post_tmp1 rfl rfl hf hs ⟨0, rfl, h⟩)
def sh_cmp_Or_int (C : Ctx) (p_vals : Sl) (K : Int → Heap → Prop) (H : Heap) : Prop :=
 lp (α := Int) 0 H (fun x1 J2 H3 =>
 ift (decide ((x1 : Int) < (Sl.len p_vals : Int)))
 (ixa p_vals x1 fun p5 =>
 ldI H3 .i64 (p5.1, p5.2 + (x1 : Int).toNat * 1) fun x10 =>
 ift ((x10 : Int) != 0)
 (K x10 H3)
 (J2 (w .i64 (x1 + 1)) H3))
 (K 0 H3))
theorem ad_cmp_Or_int (C : Ctx) (p_vals : Sl) (K : Int → Heap → Prop) (H : Heap) (h : sh_cmp_Or_int C p_vals K H) : c_cmp_Or_int C p_vals K H := by
 refine Spec.enter Tryz.func73 rfl Tryz.ntmps73 rfl (GC.sub [(0, slv p_vals)] ⟨rfl, trivial⟩ (Zo (Za (GL.nil (Zo (Za (GL.nil (GC.seq (Zo (Zm (Zq ?_)))))))))))
 refine Zm (GL.nil (GC.block (GC.loop (α := Int) h (fun x1 => [(8, .int .i64 x1), (3, .int .i64 0), (6, slv p_vals), (7, .int .i64 (Sl.len p_vals : Int))]) ⟨rfl, rfl, rfl, rfl, trivial⟩ ?_)))
 intro x1 H3 J2 h
 refine Zo (Zi (.bool (decide ((x1 : Int) < (Sl.len p_vals : Int)))) (GL.nil (GC.seq ?_)))
 refine Zd (fun hc4 => ?_) fun hc4 => ?_
 replace h := h.1 hc4
 refine GC.skip (GC.seq (GC.block (Zo ?_)))
 obtain ⟨p5, ha6, hb7, hc8, hd9, h⟩ := h
 refine Zx ha6 hb7 hc8 hd9 ?_
 obtain ⟨x10, hr11, h⟩ := h
 refine Zl hr11 (Za (GL.nil (Zo (Zm (Zm (Zi (.bool ((x10 : Int) != 0)) (GL.nil ?_)))))))
 refine Zd (fun hc12 => ?_) fun hc12 => ?_
 replace h := h.1 hc12
 refine Zo (Zm (Za (GL.nil ?_)))
 exact GC.ret (fun _ _ hf hs => post_tmp1 rfl rfl hf hs ⟨x10, rfl, h⟩)
 replace h := h.2 hc12
 refine GC.skip_to (fun _ _ h => h) (GC.region (Zi (.int .i64 (w .i64 (x1 + 1))) (Zm ?_)))
 exact GL.jump (fun _ _ h => h) (w .i64 (x1 + 1)) h ⟨rfl, rfl, rfl, rfl, trivial⟩
 replace h := h.2 hc4
 refine GC.exit_to (fun _ _ h => h) (Zo (Zm (Za (GL.nil ?_))))
 exact GC.ret (fun _ _ hf hs => post_tmp1 rfl rfl hf hs ⟨0, rfl, h⟩)
def sh_cmp_Compare_int64 (C : Ctx) (p_x : Int) (p_y : Int) (K : Int → Heap → Prop) (H : Heap) : Prop :=
 c_cmp_isNaN_int64 C p_x (fun r1 H2 =>
 c_cmp_isNaN_int64 C p_y (fun r3 H4 =>
 ift r1
 (ift r3
 (K 0 H4)
 (K (-1) H4))
 (ift r3
 (K 1 H4)
 (ift (decide ((p_x : Int) < p_y))
 (K (-1) H4)
 (ift (decide ((p_x : Int) > p_y))
 (K 1 H4)
 (K 0 H4))))) H2) H
theorem ad_cmp_Compare_int64 (C : Ctx) (p_x : Int) (p_y : Int) (K : Int → Heap → Prop) (H : Heap) (h : sh_cmp_Compare_int64 C p_x p_y K H) : c_cmp_Compare_int64 C p_x p_y K H := by
 refine Spec.enter Tryz.func74 rfl Tryz.ntmps74 rfl (GC.sub [(0, .int .i64 p_x), (1, .int .i64 p_y)] ⟨rfl, rfl, trivial⟩ (Zo (Za (GL.nil (Zo (Zm (Zc h ok_cmp_isNaN_int64 ?_)))))))
 rintro _ H2 ⟨r1, rfl, h⟩
 refine Za (GL.nil (Zo (Zm (Zc h ok_cmp_isNaN_int64 ?_))))
 rintro _ H4 ⟨r3, rfl, h⟩
 refine Za (GL.nil (GC.seq (Zo (Zm (GL.nil ?_)))))
 refine Zd (fun hc5 => ?_) fun hc5 => ?_
 replace h := h.1 hc5
 refine GC.seq (Zo (Zm (GL.nil ?_)))
 refine Zd (fun hc6 => ?_) fun hc6 => ?_
 replace h := h.1 hc6
 refine Zo (Za (GL.nil ?_))
 exact GC.ret (fun _ _ hf hs => post_tmp1 rfl rfl hf hs ⟨0, rfl, h⟩)
 replace h := h.2 hc6
 refine GC.skip (Zo (Za (GL.nil ?_)))
 exact GC.ret (fun _ _ hf hs => post_tmp1 rfl rfl hf hs ⟨(-1), rfl, h⟩)
 replace h := h.2 hc5
 refine GC.skip (GC.seq (Zo (Zm (GL.nil ?_))))
 refine Zd (fun hc7 => ?_) fun hc7 => ?_
 replace h := h.1 hc7
 refine Zo (Za (GL.nil ?_))
 exact GC.ret (fun _ _ hf hs => post_tmp1 rfl rfl hf hs ⟨1, rfl, h⟩)
 replace h := h.2 hc7
 refine GC.skip (GC.seq (Zo (Zm (Zm (Zi (.bool (decide ((p_x : Int) < p_y))) (GL.nil ?_))))))
 refine Zd (fun hc8 => ?_) fun hc8 => ?_
 replace h := h.1 hc8
 refine Zo (Za (GL.nil ?_))
 exact GC.ret (fun _ _ hf hs => post_tmp1 rfl rfl hf hs ⟨(-1), rfl, h⟩)
 replace h := h.2 hc8
 refine GC.skip (GC.seq (Zo (Zm (Zm (Zi (.bool (decide ((p_x : Int) > p_y))) (GL.nil ?_))))))
 refine Zd (fun hc9 => ?_) fun hc9 => ?_
 replace h := h.1 hc9
 refine Zo (Za (GL.nil ?_))
 exact GC.ret (fun _ _ hf hs => post_tmp1 rfl rfl hf hs ⟨1, rfl, h⟩)
 replace h := h.2 hc9
 refine GC.skip (Zo (Za (GL.nil ?_)))
 exact GC.ret (fun _ _ hf hs => post_tmp1 rfl rfl hf hs ⟨0, rfl, h⟩)
def sh_strings_TrimPrefix (C : Ctx) (p_s : Str) (p_prefix : Str) (K : Str → Heap → Prop) (H : Heap) : Prop :=
 c_internal_stringslite_TrimPrefix C p_s p_prefix (fun r1 H2 =>
 K r1 H2) H
theorem ad_strings_TrimPrefix (C : Ctx) (p_s : Str) (p_prefix : Str) (K : Str → Heap → Prop) (H : Heap) (h : sh_strings_TrimPrefix C p_s p_prefix K H) : c_strings_TrimPrefix C p_s p_prefix K H := by
 refine Spec.enter Tryz.func75 rfl Tryz.ntmps75 rfl (GC.sub [(0, sv p_s), (1, sv p_prefix)] ⟨rfl, rfl, trivial⟩ (Zo (Za (GL.nil (Zo (Zm (Zm (Zc h ok_internal_stringslite_TrimPrefix ?_))))))))
 rintro _ H2 ⟨r1, rfl, h⟩
 refine Za (GL.nil ?_)
 exact GC.ret (fun _ _ hf hs => post_tmp1 rfl rfl hf hs ⟨r1, rfl, h⟩)
def sh_strings_Trim (C : Ctx) (p_s : Str) (p_cutset : Str) (K : Str → Heap → Prop) (H : Heap) : Prop :=
 ift ((p_s == ([] : Str)) || (p_cutset == ([] : Str)))
 (K p_s H)
 (jn (α := Bool) (fun b3 H10 =>
 ift b3
 (dr H10 fun Hs12 =>
 ixs p_cutset 0 fun c14 =>
 ixs p_cutset 0 fun c17 =>
 c_strings_trimRightByte C p_s (c14.toNat : Int) (fun r21 H22 =>
 Heap.le Hs12 H22 ∧
 c_strings_trimLeftByte C r21 (c17.toNat : Int) (fun r24 H25 =>
 Heap.le Hs12 H25 ∧
 K r24 H25) H22) H10)
 (c_strings_makeASCIISet C p_cutset (fun r26 r27 H28 =>
 nw ((List.replicate 256 (.bool false : Value))) (fun b29 H30 =>
 stC 256 (b29, 0) r26 (fun H31 =>
 ift r27
 (c_strings_trimRightASCII C p_s (some (b29, 0)) (fun r35 H36 =>
 c_strings_trimLeftASCII C r35 (some (b29, 0)) (fun r37 H38 =>
 K r37 H38) H36) H31)
 (c_strings_trimRightUnicode C p_s p_cutset (fun r39 H40 =>
 c_strings_trimLeftUnicode C r39 p_cutset (fun r41 H42 =>
 K r41 H42) H40) H31)) H30) H28) H10))
 (fun J4 => ift (((List.length p_cutset : Int) : Int) == 1)
 (ixs p_cutset 0 fun c7 =>
 J4 (decide (((c7.toNat : Int) : Int) < 128)) H)
 (J4 false H)))
theorem ad_strings_Trim (C : Ctx) (p_s : Str) (p_cutset : Str) (K : Str → Heap → Prop) (H : Heap) (h : sh_strings_Trim C p_s p_cutset K H) : c_strings_Trim C p_s p_cutset K H := by
 refine Spec.enter Tryz.func76 rfl Tryz.ntmps76 rfl (GC.sub [(0, sv p_s), (1, sv p_cutset)] ⟨rfl, rfl, trivial⟩ (Zo (Za (GL.nil (GC.seq (Zo (Zm (Zv (OV.sbin (a := p_s) (b := ([] : Str)) (v := .bool (p_s == ([] : Str))) rfl rfl rfl) (Zm ?_)))))))))
 refine GL.cut0 3 [(12, .bool ((p_s == ([] : Str)) || (p_cutset == ([] : Str)))), (0, sv p_s), (1, sv p_cutset)] ?_ ?_
 rcases Zb (p_s == ([] : Str)) with hc1 | hc1
 refine Zk hc1 (Zk hc1 (Zt hc1 ?_))
 exact GL.jump0 (fun _ _ h => h) () rfl ⟨(by rw [hc1]; rfl), rfl, rfl, trivial⟩
 refine Zu hc1 (OV.move rfl) (Zu hc1 (OV.sbin (a := p_cutset) (b := ([] : Str)) (v := .bool (p_cutset == ([] : Str))) rfl rfl rfl) (Zn hc1 ?_))
 exact GL.jump0 (fun _ _ h => h) () rfl ⟨(by rw [hc1]; rfl), rfl, rfl, trivial⟩
 refine GL.nil ?_
 refine Zd (fun hc2 => ?_) fun hc2 => ?_
 replace h := h.1 hc2
 refine Zo (Zm (Za (GL.nil ?_)))
 exact GC.ret (fun _ _ hf hs => post_tmp1 rfl rfl hf hs ⟨p_s, rfl, h⟩)
 replace h := h.2 hc2
 refine GC.skip (GC.seq (Zo (Zm (Zr (Zi (.bool (((List.length p_cutset : Int) : Int) == 1)) (Zm ?_))))))
 obtain ⟨J4, h, hR5⟩ := h
 refine GL.cut (α := Bool) 4 J4 (fun b3 => [(21, .bool b3), (0, sv p_s), (1, sv p_cutset)]) ?_ ?_
 rcases Zb (((List.length p_cutset : Int) : Int) == 1) with hc6 | hc6
 replace h := h.1 hc6
 refine Zu hc6 (OV.move rfl) ?_
 obtain ⟨c7, ha8, hb9, h⟩ := h
 refine Zu hc6 (OV.indexStr rfl rfl rfl ha8 hb9) (Zu hc6 (OV.ibin (v := .bool (decide (((c7.toNat : Int) : Int) < 128))) rfl rfl rfl) (Zt hc6 ?_))
 exact GL.jump (fun _ _ h => h) (decide (((c7.toNat : Int) : Int) < 128)) h ⟨rfl, rfl, rfl, trivial⟩
 replace h := h.2 hc6
 refine Zk hc6 (Zk hc6 (Zk hc6 (Zn hc6 ?_)))
 exact GL.jump (fun _ _ h => h) false h ⟨rfl, rfl, rfl, trivial⟩
 intro b3 H10 h
 replace h := hR5 b3 H10 h
 refine GL.nil ?_
 refine Zd (fun hc11 => ?_) fun hc11 => ?_
 replace h := h.1 hc11
 refine GC.seq ?_
 obtain ⟨Hs12, hle13, h⟩ := h
 refine GC.any (Hs := Hs12) (by kernel_rfl) hle13 (Zp 0 rfl (OV.move rfl) (Zp 1 rfl (OV.move rfl) ?_))
 obtain ⟨c14, ha15, hb16, h⟩ := h
 refine Zp 2 rfl (OV.indexStr rfl rfl rfl ha15 hb16) (Zp 4 rfl (OV.move rfl) ?_)
 obtain ⟨c17, ha18, hb19, h⟩ := h
 refine Zp 5 rfl (OV.indexStr rfl rfl rfl ha18 hb19) (GA.eff 3 rfl (by kernel_rfl) (Zc h ok_strings_trimRightByte ?_))
 rintro _ H22 ⟨r21, rfl, h⟩
 obtain ⟨hle20, h⟩ := h
 refine GA.back hle20 (GA.eff 6 rfl (by kernel_rfl) (Zc h ok_strings_trimLeftByte ?_))
 rintro _ H25 ⟨r24, rfl, h⟩
 obtain ⟨hle23, h⟩ := h
 refine GA.back hle23 (Zp 7 rfl (OV.assign rfl) (GA.done (by kernel_rfl) (GL.nil ?_)))
 exact GC.ret (fun _ _ hf hs => post_tmp1 rfl rfl hf hs ⟨r24, rfl, h⟩)
 replace h := h.2 hc11
 refine GC.skip (GC.seq (Zo (Zm (Zc h ok_strings_makeASCIISet ?_))))
 rintro _ H28 ⟨r26, r27, rfl, h⟩
 refine Zm (Zv (OV.extract (v := .agg (List.toArray r26)) rfl rfl) (Zv (OV.extract (v := .bool r27) rfl rfl) (GL.alloc (cs := (List.replicate 256 (.bool false : Value))) h trivial rfl rfl rfl ?_)))
 intro b29 H30 h
 obtain ⟨hl32, h133, h⟩ := h
 refine GL.storeT (p := (b29, 0)) (vs := r26) h trivial rfl rfl h133 (by rw [hl32]; rfl) ?_
 intro H31 h
 refine Za (GL.nil (Zo (Zm (GL.nil ?_))))
 refine Zd (fun hc34 => ?_) fun hc34 => ?_
 replace h := h.1 hc34
 refine Zo (Zm (Zc h ok_strings_trimRightASCII ?_))
 rintro _ H36 ⟨r35, rfl, h⟩
 refine Zc h ok_strings_trimLeftASCII ?_
 rintro _ H38 ⟨r37, rfl, h⟩
 refine Za (GL.nil ?_)
 exact GC.ret (fun _ _ hf hs => post_tmp1 rfl rfl hf hs ⟨r37, rfl, h⟩)
 replace h := h.2 hc34
 refine GC.skip (Zo (Zm (Zm (Zc h ok_strings_trimRightUnicode ?_))))
 rintro _ H40 ⟨r39, rfl, h⟩
 refine Zm (Zc h ok_strings_trimLeftUnicode ?_)
 rintro _ H42 ⟨r41, rfl, h⟩
 refine Za (GL.nil ?_)
 exact GC.ret (fun _ _ hf hs => post_tmp1 rfl rfl hf hs ⟨r41, rfl, h⟩)
def sh_internal_stringslite_Cut (C : Ctx) (p_s : Str) (p_sep : Str) (K : Str → Str → Bool → Heap → Prop) (H : Heap) : Prop :=
 c_internal_stringslite_Index C p_s p_sep (fun r1 H2 =>
 ift (decide ((r1 : Int) ≥ 0))
 (slS p_s 0 r1 fun t4 =>
 slS p_s (w .i64 (r1 + (List.length p_sep : Int))) (List.length p_s : Int) fun t10 =>
 K t4 t10 true H2)
 (K p_s [] false H2)) H
theorem ad_internal_stringslite_Cut (C : Ctx) (p_s : Str) (p_sep : Str) (K : Str → Str → Bool → Heap → Prop) (H : Heap) (h : sh_internal_stringslite_Cut C p_s p_sep K H) : c_internal_stringslite_Cut C p_s p_sep K H := by
 refine Spec.enter Tryz.func77 rfl Tryz.ntmps77 rfl (GC.sub [(0, sv p_s), (1, sv p_sep)] ⟨rfl, rfl, trivial⟩ (Zo (Za (Za (Za (GL.nil (GC.seq (Zo (Zm (Zm (Zc h ok_internal_stringslite_Index ?_)))))))))))
 rintro _ H2 ⟨r1, rfl, h⟩
 refine Za (GL.nil (Zo (Zm (Zi (.bool (decide ((r1 : Int) ≥ 0))) (GL.nil ?_)))))
 refine Zd (fun hc3 => ?_) fun hc3 => ?_
 replace h := h.1 hc3
 refine GC.seq (GC.draw (by kernel_rfl) (by kernel_rfl) (GQ.val trivial rfl (OV.move (v := sv p_s) rfl) (GQ.val trivial rfl (OV.move (v := .int .i64 r1) rfl) ?_)))
 obtain ⟨h5, h6, h7, t4, h8, h⟩ := h
 refine GQ.val trivial rfl (OV.sliceStr (s := p_s) h5 h6 h7 h8 rfl rfl rfl rfl rfl rfl) (GQ.val trivial rfl (OV.move (v := sv p_s) rfl) (GQ.val trivial rfl (OV.move (v := .int .i64 r1) rfl) (GQ.val trivial rfl (OV.move (v := sv p_sep) rfl) (GQ.val trivial rfl (OV.lenStr (s := p_sep) rfl rfl) (GQ.val trivial rfl (OV.ibin (v := .int .i64 (w .i64 (r1 + (List.length p_sep : Int)))) rfl rfl rfl) ?_)))))
 obtain ⟨h11, h12, h13, t10, h14, h⟩ := h
 refine GQ.val trivial rfl (OV.sliceStr (s := p_s) h11 h12 h13 h14 rfl rfl rfl rfl rfl rfl) (GQ.val trivial rfl (OV.assign (v := sv t4) rfl) (GQ.val trivial rfl (OV.assign (v := sv t10) rfl) (GQ.val trivial rfl (OV.assign (v := .bool true) rfl) (GQ.nil (GL.nil ?_)))))
 exact GC.ret (fun _ _ hf hs => post_tmp3 rfl rfl rfl rfl hf hs ⟨t4, t10, true, rfl, h⟩)
 replace h := h.2 hc3
 refine GC.skip (Zo (Zm (Za (Za (Za (GL.nil ?_))))))
 exact GC.ret (fun _ _ hf hs => post_tmp3 rfl rfl rfl rfl hf hs ⟨p_s, [], false, rfl, h⟩)
def sh_slices_insertionSortCmpFunc_zset_Entry (C : Ctx) (p_data : Sl) (p_a : Int) (p_b : Int) (p_cmp : Value) (K : Heap → Prop) (H : Heap) : Prop :=
 lp (α := Int) (w .i64 (p_a + 1)) H (fun x1 J2 H3 =>
 ift (decide ((x1 : Int) < p_b))
 (lp (α := Int) x1 H3 (fun x5 J6 H7 =>
 jn (α := Bool) (fun x9 H10 =>
 ift x9
 (jn (α := Unit) (fun x34 H35 =>
 J6 (w .i64 (x5 - 1)) H35)
 (fun J33 => dr H10 fun Hs37 =>
 ixa p_data (w .i64 (x5 - 1)) fun p39 =>
 ixa p_data x5 fun p44 =>
 (ldT H10 T_zset_Entry.c (p39.1, p39.2 + (w .i64 (x5 - 1) : Int).toNat * 2) fun x50 =>
 Heap.le Hs37 H10 ∧
 ldT H10 T_zset_Entry.c (p44.1, p44.2 + (x5 : Int).toNat * 2) fun x53 =>
 Heap.le Hs37 H10 ∧
 ixa p_data x5 fun p55 =>
 stT (p55.1, p55.2 + (x5 : Int).toNat * 2) (T_zset_Entry.c x50) (fun H61 =>
 Heap.le Hs37 H61 ∧
 ixa p_data (w .i64 (x5 - 1)) fun p62 =>
 stT (p62.1, p62.2 + (w .i64 (x5 - 1) : Int).toNat * 2) (T_zset_Entry.c x53) (fun H67 =>
 J33 () H67) H61) H10) ∧
 (ldT H10 T_zset_Entry.c (p44.1, p44.2 + (x5 : Int).toNat * 2) fun x69 =>
 Heap.le Hs37 H10 ∧
 ldT H10 T_zset_Entry.c (p39.1, p39.2 + (w .i64 (x5 - 1) : Int).toNat * 2) fun x72 =>
 Heap.le Hs37 H10 ∧
 ixa p_data x5 fun p74 =>
 stT (p74.1, p74.2 + (x5 : Int).toNat * 2) (T_zset_Entry.c x72) (fun H80 =>
 Heap.le Hs37 H80 ∧
 ixa p_data (w .i64 (x5 - 1)) fun p81 =>
 stT (p81.1, p81.2 + (w .i64 (x5 - 1) : Int).toNat * 2) (T_zset_Entry.c x69) (fun H86 =>
 J33 () H86) H80) H10)))
 (J2 (w .i64 (x1 + 1)) H10))
 (fun J8 => dr H7 fun Hs12 =>
 ift (decide ((x5 : Int) > p_a))
 (ixa p_data x5 fun p15 =>
 ldT Hs12 T_zset_Entry.c (p15.1, p15.2 + (x5 : Int).toNat * 2) fun x20 =>
 ixa p_data (w .i64 (x5 - 1)) fun p22 =>
 ldT Hs12 T_zset_Entry.c (p22.1, p22.2 + (w .i64 (x5 - 1) : Int).toNat * 2) fun x27 =>
 callU Tryz.prog C p_cmp [.agg (T_zset_Entry.c x20).toArray, .agg (T_zset_Entry.c x27).toArray] H7 (fun v H31 => ∃ (r30 : Int), v = .int .i64 r30 ∧
 Heap.le Hs12 H31 ∧
 J8 (decide ((r30 : Int) < 0)) H31))
 (J8 false H7))))
 (K H3))
theorem ad_slices_insertionSortCmpFunc_zset_Entry (C : Ctx) (p_data : Sl) (p_a : Int) (p_b : Int) (p_cmp : Value) (K : Heap → Prop) (H : Heap) (h : sh_slices_insertionSortCmpFunc_zset_Entry C p_data p_a p_b p_cmp K H) : c_slices_insertionSortCmpFunc_zset_Entry C p_data p_a p_b p_cmp K H := by
 refine Spec.enter Tryz.func80 rfl Tryz.ntmps80 rfl (GC.sub [(0, slv p_data), (1, .int .i64 p_a), (2, .int .i64 p_b), (3, p_cmp)] ⟨rfl, rfl, rfl, rfl, trivial⟩ (Zo (Zm (Zi (.int .i64 (w .i64 (p_a + 1))) (Za (GL.nil (GC.block (GC.loop (α := Int) h (fun x1 => [(8, .int .i64 x1), (0, slv p_data), (1, .int .i64 p_a), (2, .int .i64 p_b), (3, p_cmp)]) ⟨rfl, rfl, rfl, rfl, rfl, trivial⟩ ?_))))))))
 intro x1 H3 J2 h
 refine GC.seq (Zo (Zm (Zm (Zi (.bool (decide ((x1 : Int) < p_b))) (GL.nil ?_)))))
 refine Zd (fun hc4 => ?_) fun hc4 => ?_
 replace h := h.1 hc4
 refine GC.skip (GC.seq (GC.block (Zo (Zm (Za (GL.nil (GC.block (GC.loop (α := Int) h (fun x5 => [(9, .int .i64 x5), (0, slv p_data), (1, .int .i64 p_a), (2, .int .i64 p_b), (3, p_cmp), (8, .int .i64 x1)]) ⟨rfl, rfl, rfl, rfl, rfl, rfl, trivial⟩ ?_))))))))
 intro x5 H7 J6 h
 refine GC.seq (GC.seq ?_)
 obtain ⟨J8, h, hR11⟩ := h
 refine GC.meet (α := Bool) J8 (fun x9 => [(34, .bool x9), (0, slv p_data), (1, .int .i64 p_a), (2, .int .i64 p_b), (3, p_cmp), (8, .int .i64 x1), (9, .int .i64 x5)]) ?_ ?_
 obtain ⟨Hs12, hle13, h⟩ := h
 refine GC.any (Hs := Hs12) (by kernel_rfl) hle13 (Zp 0 rfl (OV.move rfl) (Zp 1 rfl (OV.move rfl) (Zp 2 rfl (OV.ibin (v := .bool (decide ((x5 : Int) > p_a))) rfl rfl rfl) (Zp 3 rfl (OV.move rfl) ?_))))
 rcases Zb (decide ((x5 : Int) > p_a)) with hc14 | hc14
 replace h := h.1 hc14
 refine Zg 4 rfl ⟨_, _, rfl, rfl, hc14⟩ (OV.move rfl) (Zg 5 rfl ⟨_, _, rfl, rfl, hc14⟩ (OV.move rfl) (Zg 6 rfl ⟨_, _, rfl, rfl, hc14⟩ (OV.move rfl) ?_))
 obtain ⟨p15, ha16, hb17, hc18, hd19, h⟩ := h
 refine Zg 7 rfl ⟨_, _, rfl, rfl, hc14⟩ (OV.indexAddr rfl rfl rfl rfl ha16 hb17 hc18 hd19) ?_
 obtain ⟨x20, hr21, h⟩ := h
 refine Zg 8 rfl ⟨_, _, rfl, rfl, hc14⟩ (OV.loadT rfl rfl rfl hr21) (Zg 9 rfl ⟨_, _, rfl, rfl, hc14⟩ (OV.move rfl) (Zg 10 rfl ⟨_, _, rfl, rfl, hc14⟩ (OV.move rfl) (Zg 11 rfl ⟨_, _, rfl, rfl, hc14⟩ (OV.ibin (v := .int .i64 (w .i64 (x5 - 1))) rfl rfl rfl) ?_)))
 obtain ⟨p22, ha23, hb24, hc25, hd26, h⟩ := h
 refine Zg 12 rfl ⟨_, _, rfl, rfl, hc14⟩ (OV.indexAddr rfl rfl rfl rfl ha23 hb24 hc25 hd26) ?_
 obtain ⟨x27, hr28, h⟩ := h
 refine Zg 13 rfl ⟨_, _, rfl, rfl, hc14⟩ (OV.loadT rfl rfl rfl hr28) (GA.eff 14 rfl (by kernel_rfl) (GL.callU (xv := p_cmp) (vs := [.agg (T_zset_Entry.c x20).toArray, .agg (T_zset_Entry.c x27).toArray]) h ⟨_, _, rfl, rfl, hc14⟩ rfl rfl rfl ?_))
 rintro _ H31 ⟨r30, rfl, h⟩
 obtain ⟨hle29, h⟩ := h
 refine GA.back hle29 (Zg 15 rfl ⟨_, _, rfl, rfl, hc14⟩ (OV.ibin (v := .bool (decide ((r30 : Int) < 0))) rfl rfl rfl) (Zp 16 rfl (OV.pickT rfl hc14 rfl) (GA.done (by kernel_rfl) ?_)))
 exact GL.jump (fun _ _ h => h) (decide ((r30 : Int) < 0)) h ⟨rfl, rfl, rfl, rfl, rfl, rfl, rfl, trivial⟩
 replace h := h.2 hc14
 refine Zj 4 rfl ⟨_, rfl, .inl ⟨_, rfl, hc14⟩⟩ (Zj 5 rfl ⟨_, rfl, .inl ⟨_, rfl, hc14⟩⟩ (Zj 6 rfl ⟨_, rfl, .inl ⟨_, rfl, hc14⟩⟩ (Zj 7 rfl ⟨_, rfl, .inl ⟨_, rfl, hc14⟩⟩ (Zj 8 rfl ⟨_, rfl, .inl ⟨_, rfl, hc14⟩⟩ (Zj 9 rfl ⟨_, rfl, .inl ⟨_, rfl, hc14⟩⟩ (Zj 10 rfl ⟨_, rfl, .inl ⟨_, rfl, hc14⟩⟩ (Zj 11 rfl ⟨_, rfl, .inl ⟨_, rfl, hc14⟩⟩ (Zj 12 rfl ⟨_, rfl, .inl ⟨_, rfl, hc14⟩⟩ (Zj 13 rfl ⟨_, rfl, .inl ⟨_, rfl, hc14⟩⟩ (Zj 14 rfl ⟨_, rfl, .inl ⟨_, rfl, hc14⟩⟩ (Zj 15 rfl ⟨_, rfl, .inl ⟨_, rfl, hc14⟩⟩ ?_)))))))))))
 refine Zp 16 rfl (OV.pickF rfl hc14 rfl) (GA.done (by kernel_rfl) ?_)
 exact GL.jump (fun _ _ h => h) false h ⟨rfl, rfl, rfl, rfl, rfl, rfl, rfl, trivial⟩
 intro x9 H10 h
 replace h := hR11 x9 H10 h
 refine GL.nil ?_
 refine Zd (fun hc32 => ?_) fun hc32 => ?_
 replace h := h.1 hc32
 refine GC.skip (GC.seq (GC.block ?_))
 obtain ⟨J33, h, hR36⟩ := h
 refine GC.meet (α := Unit) J33 (fun _ => [(0, slv p_data), (1, .int .i64 p_a), (2, .int .i64 p_b), (3, p_cmp), (8, .int .i64 x1), (9, .int .i64 x5)]) ?_ ?_
 obtain ⟨Hs37, hle38, h⟩ := h
 refine GC.tail (Hs := Hs37) 17 (by kernel_rfl) hle38 (by kernel_rfl) (Zy 0 rfl (OV.move rfl) (Zy 1 rfl (OV.move rfl) (Zy 2 rfl (OV.move rfl) (Zy 3 rfl (OV.move rfl) (Zy 4 rfl (OV.ibin (v := .int .i64 (w .i64 (x5 - 1))) rfl rfl rfl) (Zy 5 rfl (OV.move rfl) (Zy 6 rfl (OV.move rfl) (Zy 7 rfl (OV.ibin (v := .int .i64 (w .i64 (x5 - 1))) rfl rfl rfl) ?_))))))))
 obtain ⟨p39, ha40, hb41, hc42, hd43, h⟩ := h
 refine Zy 8 rfl (OV.indexAddr rfl rfl rfl rfl ha40 hb41 hc42 hd43) (Zy 10 rfl (OV.move rfl) (Zy 11 rfl (OV.move rfl) ?_))
 obtain ⟨p44, ha45, hb46, hc47, hd48, h⟩ := h
 refine Zy 12 rfl (OV.indexAddr rfl rfl rfl rfl ha45 hb46 hc47 hd48) ?_
 refine GT.effs [9, 13] (by kernel_rfl) (by simp) (List.forall_mem_cons.2 ⟨⟨_, rfl, rfl, ?_⟩, List.forall_mem_cons.2 ⟨⟨_, rfl, rfl, ?_⟩, fun _ h => by cases h⟩⟩)
 replace h := h.1
 obtain ⟨x50, hr51, h⟩ := h
 refine Zv (OV.loadT rfl rfl rfl hr51) ?_
 obtain ⟨hle49, h⟩ := h
 refine GT.back hle49 (GT.eff 13 rfl (by kernel_rfl) rfl ?_)
 obtain ⟨x53, hr54, h⟩ := h
 refine Zv (OV.loadT rfl rfl rfl hr54) ?_
 obtain ⟨hle52, h⟩ := h
 refine GT.back hle52 ?_
 obtain ⟨p55, ha56, hb57, hc58, hd59, h⟩ := h
 refine Zy 14 rfl (OV.indexAddr rfl rfl rfl rfl ha56 hb57 hc58 hd59) (GT.eff 15 rfl (by kernel_rfl) rfl (GL.storeT (p := (p55.1, p55.2 + (x5 : Int).toNat * 2)) (vs := T_zset_Entry.c x50) h trivial rfl rfl rfl rfl ?_))
 intro H61 h
 obtain ⟨hle60, h⟩ := h
 refine GT.back hle60 ?_
 obtain ⟨p62, ha63, hb64, hc65, hd66, h⟩ := h
 refine Zy 16 rfl (OV.indexAddr rfl rfl rfl rfl ha63 hb64 hc65 hd66) (GT.done (by kernel_rfl) ?_)
 show GL _ _ _ _ _ [_] _ _
 refine GL.storeT (p := (p62.1, p62.2 + (w .i64 (x5 - 1) : Int).toNat * 2)) (vs := T_zset_Entry.c x53) h trivial rfl rfl rfl rfl ?_
 intro H67 h
 exact GL.jump (fun _ _ h => h) () h ⟨rfl, rfl, rfl, rfl, rfl, rfl, trivial⟩
 replace h := h.2
 obtain ⟨x69, hr70, h⟩ := h
 refine Zv (OV.loadT rfl rfl rfl hr70) ?_
 obtain ⟨hle68, h⟩ := h
 refine GT.back hle68 (GT.eff 9 rfl (by kernel_rfl) rfl ?_)
 obtain ⟨x72, hr73, h⟩ := h
 refine Zv (OV.loadT rfl rfl rfl hr73) ?_
 obtain ⟨hle71, h⟩ := h
 refine GT.back hle71 ?_
 obtain ⟨p74, ha75, hb76, hc77, hd78, h⟩ := h
 refine Zy 14 rfl (OV.indexAddr rfl rfl rfl rfl ha75 hb76 hc77 hd78) (GT.eff 15 rfl (by kernel_rfl) rfl (GL.storeT (p := (p74.1, p74.2 + (x5 : Int).toNat * 2)) (vs := T_zset_Entry.c x72) h trivial rfl rfl rfl rfl ?_))
 intro H80 h
 obtain ⟨hle79, h⟩ := h
 refine GT.back hle79 ?_
 obtain ⟨p81, ha82, hb83, hc84, hd85, h⟩ := h
 refine Zy 16 rfl (OV.indexAddr rfl rfl rfl rfl ha82 hb83 hc84 hd85) (GT.done (by kernel_rfl) ?_)
 show GL _ _ _ _ _ [_] _ _
 refine GL.storeT (p := (p81.1, p81.2 + (w .i64 (x5 - 1) : Int).toNat * 2)) (vs := T_zset_Entry.c x69) h trivial rfl rfl rfl rfl ?_
 intro H86 h
 exact GL.jump (fun _ _ h => h) () h ⟨rfl, rfl, rfl, rfl, rfl, rfl, trivial⟩
 intro x34 H35 h
 replace h := hR36 x34 H35 h
 refine GL.nil_to (fun _ _ h => h) (GC.region (Zm (Zi (.int .i64 (w .i64 (x5 - 1))) (Za ?_))))
 exact GL.jump (fun _ _ h => h) (w .i64 (x5 - 1)) h ⟨rfl, rfl, rfl, rfl, rfl, rfl, trivial⟩
 replace h := h.2 hc32
 refine GC.exit_to (fun _ _ h => h) (GC.region (Zm (Zi (.int .i64 (w .i64 (x1 + 1))) (Za ?_))))
 exact GL.jump (fun _ _ h => h) (w .i64 (x1 + 1)) h ⟨rfl, rfl, rfl, rfl, rfl, trivial⟩
 replace h := h.2 hc4
 exact GC.exit_ends (fun _ _ hf hs => post_tmp0 rfl hf hs ⟨rfl, h⟩)
def sh_slices_symMergeCmpFunc_zset_Entry (C : Ctx) (p_data : Sl) (p_a : Int) (p_m : Int) (p_b : Int) (p_cmp : Value) (K : Heap → Prop) (H : Heap) : Prop :=
 ift (((w .i64 (p_m - p_a)) : Int) == 1)
 (lp (α := Int × Int) (p_m, p_b) H (fun x2 J3 H4 =>
 ift (decide ((x2.1 : Int) < x2.2))
 (dr H4 fun Hs6 =>
 ixa p_data (w .i64 (sShr .u64 (w .u64 (w .i64 (x2.1 + x2.2))) 1)) fun p8 =>
 ldT Hs6 T_zset_Entry.c (p8.1, p8.2 + (w .i64 (sShr .u64 (w .u64 (w .i64 (x2.1 + x2.2))) 1) : Int).toNat * 2) fun x13 =>
 ixa p_data p_a fun p15 =>
 ldT Hs6 T_zset_Entry.c (p15.1, p15.2 + (p_a : Int).toNat * 2) fun x20 =>
 callU Tryz.prog C p_cmp [.agg (T_zset_Entry.c x13).toArray, .agg (T_zset_Entry.c x20).toArray] H4 (fun v H24 => ∃ (r23 : Int), v = .int .i64 r23 ∧
 Heap.le Hs6 H24 ∧
 ift (decide ((r23 : Int) < 0))
 (J3 ((w .i64 ((w .i64 (sShr .u64 (w .u64 (w .i64 (x2.1 + x2.2))) 1)) + 1)), x2.2) H24)
 (J3 (x2.1, (w .i64 (sShr .u64 (w .u64 (w .i64 (x2.1 + x2.2))) 1))) H24)))
 (lp (α := Int) p_a H4 (fun x26 J27 H28 =>
 ift (decide ((x26 : Int) < (w .i64 (x2.1 - 1))))
 (jn (α := Unit) (fun x31 H32 =>
 J27 (w .i64 (x26 + 1)) H32)
 (fun J30 => dr H28 fun Hs34 =>
 ixa p_data (w .i64 (x26 + 1)) fun p36 =>
 ixa p_data x26 fun p41 =>
 (ldT H28 T_zset_Entry.c (p36.1, p36.2 + (w .i64 (x26 + 1) : Int).toNat * 2) fun x47 =>
 Heap.le Hs34 H28 ∧
 ldT H28 T_zset_Entry.c (p41.1, p41.2 + (x26 : Int).toNat * 2) fun x50 =>
 Heap.le Hs34 H28 ∧
 ixa p_data x26 fun p52 =>
 stT (p52.1, p52.2 + (x26 : Int).toNat * 2) (T_zset_Entry.c x47) (fun H58 =>
 Heap.le Hs34 H58 ∧
 ixa p_data (w .i64 (x26 + 1)) fun p59 =>
 stT (p59.1, p59.2 + (w .i64 (x26 + 1) : Int).toNat * 2) (T_zset_Entry.c x50) (fun H64 =>
 J30 () H64) H58) H28) ∧
 (ldT H28 T_zset_Entry.c (p41.1, p41.2 + (x26 : Int).toNat * 2) fun x66 =>
 Heap.le Hs34 H28 ∧
 ldT H28 T_zset_Entry.c (p36.1, p36.2 + (w .i64 (x26 + 1) : Int).toNat * 2) fun x69 =>
 Heap.le Hs34 H28 ∧
 ixa p_data x26 fun p71 =>
 stT (p71.1, p71.2 + (x26 : Int).toNat * 2) (T_zset_Entry.c x69) (fun H77 =>
 Heap.le Hs34 H77 ∧
 ixa p_data (w .i64 (x26 + 1)) fun p78 =>
 stT (p78.1, p78.2 + (w .i64 (x26 + 1) : Int).toNat * 2) (T_zset_Entry.c x66) (fun H83 =>
 J30 () H83) H77) H28)))
 (K H28)))))
 (ift (((w .i64 (p_b - p_m)) : Int) == 1)
 (lp (α := Int × Int) (p_a, p_m) H (fun x85 J86 H87 =>
 ift (decide ((x85.1 : Int) < x85.2))
 (dr H87 fun Hs89 =>
 ixa p_data p_m fun p91 =>
 ldT Hs89 T_zset_Entry.c (p91.1, p91.2 + (p_m : Int).toNat * 2) fun x96 =>
 ixa p_data (w .i64 (sShr .u64 (w .u64 (w .i64 (x85.1 + x85.2))) 1)) fun p98 =>
 ldT Hs89 T_zset_Entry.c (p98.1, p98.2 + (w .i64 (sShr .u64 (w .u64 (w .i64 (x85.1 + x85.2))) 1) : Int).toNat * 2) fun x103 =>
 callU Tryz.prog C p_cmp [.agg (T_zset_Entry.c x96).toArray, .agg (T_zset_Entry.c x103).toArray] H87 (fun v H107 => ∃ (r106 : Int), v = .int .i64 r106 ∧
 Heap.le Hs89 H107 ∧
 ift (!(decide ((r106 : Int) < 0)))
 (J86 ((w .i64 ((w .i64 (sShr .u64 (w .u64 (w .i64 (x85.1 + x85.2))) 1)) + 1)), x85.2) H107)
 (J86 (x85.1, (w .i64 (sShr .u64 (w .u64 (w .i64 (x85.1 + x85.2))) 1))) H107)))
 (lp (α := Int) p_m H87 (fun x109 J110 H111 =>
 ift (decide ((x109 : Int) > x85.1))
 (jn (α := Unit) (fun x114 H115 =>
 J110 (w .i64 (x109 - 1)) H115)
 (fun J113 => dr H111 fun Hs117 =>
 ixa p_data (w .i64 (x109 - 1)) fun p119 =>
 ixa p_data x109 fun p124 =>
 (ldT H111 T_zset_Entry.c (p119.1, p119.2 + (w .i64 (x109 - 1) : Int).toNat * 2) fun x130 =>
 Heap.le Hs117 H111 ∧
 ldT H111 T_zset_Entry.c (p124.1, p124.2 + (x109 : Int).toNat * 2) fun x133 =>
 Heap.le Hs117 H111 ∧
 ixa p_data x109 fun p135 =>
 stT (p135.1, p135.2 + (x109 : Int).toNat * 2) (T_zset_Entry.c x130) (fun H141 =>
 Heap.le Hs117 H141 ∧
 ixa p_data (w .i64 (x109 - 1)) fun p142 =>
 stT (p142.1, p142.2 + (w .i64 (x109 - 1) : Int).toNat * 2) (T_zset_Entry.c x133) (fun H147 =>
 J113 () H147) H141) H111) ∧
 (ldT H111 T_zset_Entry.c (p124.1, p124.2 + (x109 : Int).toNat * 2) fun x149 =>
 Heap.le Hs117 H111 ∧
 ldT H111 T_zset_Entry.c (p119.1, p119.2 + (w .i64 (x109 - 1) : Int).toNat * 2) fun x152 =>
 Heap.le Hs117 H111 ∧
 ixa p_data x109 fun p154 =>
 stT (p154.1, p154.2 + (x109 : Int).toNat * 2) (T_zset_Entry.c x152) (fun H160 =>
 Heap.le Hs117 H160 ∧
 ixa p_data (w .i64 (x109 - 1)) fun p161 =>
 stT (p161.1, p161.2 + (w .i64 (x109 - 1) : Int).toNat * 2) (T_zset_Entry.c x149) (fun H166 =>
 J113 () H166) H160) H111)))
 (K H111)))))
 (jn (α := Int × Int) (fun x168 H169 =>
 lp (α := Int × Int) (x168.1, x168.2) H169 (fun x172 J173 H174 =>
 ift (decide ((x172.1 : Int) < x172.2))
 (dr H174 fun Hs176 =>
 ixa p_data (w .i64 ((w .i64 ((w .i64 ((w .i64 (sShr .u64 (w .u64 (w .i64 (p_a + p_b))) 1)) + p_m)) - 1)) - (w .i64 (sShr .u64 (w .u64 (w .i64 (x172.1 + x172.2))) 1)))) fun p178 =>
 ldT Hs176 T_zset_Entry.c (p178.1, p178.2 + (w .i64 ((w .i64 ((w .i64 ((w .i64 (sShr .u64 (w .u64 (w .i64 (p_a + p_b))) 1)) + p_m)) - 1)) - (w .i64 (sShr .u64 (w .u64 (w .i64 (x172.1 + x172.2))) 1))) : Int).toNat * 2) fun x183 =>
 ixa p_data (w .i64 (sShr .u64 (w .u64 (w .i64 (x172.1 + x172.2))) 1)) fun p185 =>
 ldT Hs176 T_zset_Entry.c (p185.1, p185.2 + (w .i64 (sShr .u64 (w .u64 (w .i64 (x172.1 + x172.2))) 1) : Int).toNat * 2) fun x190 =>
 callU Tryz.prog C p_cmp [.agg (T_zset_Entry.c x183).toArray, .agg (T_zset_Entry.c x190).toArray] H174 (fun v H194 => ∃ (r193 : Int), v = .int .i64 r193 ∧
 Heap.le Hs176 H194 ∧
 ift (!(decide ((r193 : Int) < 0)))
 (J173 ((w .i64 ((w .i64 (sShr .u64 (w .u64 (w .i64 (x172.1 + x172.2))) 1)) + 1)), x172.2) H194)
 (J173 (x172.1, (w .i64 (sShr .u64 (w .u64 (w .i64 (x172.1 + x172.2))) 1))) H194)))
 (jn (α := Unit) (fun x197 H198 =>
 jn (α := Unit) (fun x204 H205 =>
 ift ((decide (((w .i64 (sShr .u64 (w .u64 (w .i64 (p_a + p_b))) 1)) : Int) < (w .i64 ((w .i64 ((w .i64 (sShr .u64 (w .u64 (w .i64 (p_a + p_b))) 1)) + p_m)) - x172.1)))) && (decide (((w .i64 ((w .i64 ((w .i64 (sShr .u64 (w .u64 (w .i64 (p_a + p_b))) 1)) + p_m)) - x172.1)) : Int) < p_b)))
 (c_slices_symMergeCmpFunc_zset_Entry C p_data (w .i64 (sShr .u64 (w .u64 (w .i64 (p_a + p_b))) 1)) (w .i64 ((w .i64 ((w .i64 (sShr .u64 (w .u64 (w .i64 (p_a + p_b))) 1)) + p_m)) - x172.1)) p_b p_cmp (fun H212 =>
 K H212) H205)
 (K H205))
 (fun J203 => ift ((decide ((p_a : Int) < x172.1)) && (decide ((x172.1 : Int) < (w .i64 (sShr .u64 (w .u64 (w .i64 (p_a + p_b))) 1)))))
 (c_slices_symMergeCmpFunc_zset_Entry C p_data p_a x172.1 (w .i64 (sShr .u64 (w .u64 (w .i64 (p_a + p_b))) 1)) p_cmp (fun H209 =>
 J203 () H209) H198)
 (J203 () H198)))
 (fun J196 => ift ((decide ((x172.1 : Int) < p_m)) && (decide ((p_m : Int) < (w .i64 ((w .i64 ((w .i64 (sShr .u64 (w .u64 (w .i64 (p_a + p_b))) 1)) + p_m)) - x172.1)))))
 (c_slices_rotateCmpFunc_zset_Entry C p_data x172.1 p_m (w .i64 ((w .i64 ((w .i64 (sShr .u64 (w .u64 (w .i64 (p_a + p_b))) 1)) + p_m)) - x172.1)) p_cmp (fun H202 =>
 J196 () H202) H174)
 (J196 () H174)))))
 (fun J167 => ift (decide ((p_m : Int) > (w .i64 (sShr .u64 (w .u64 (w .i64 (p_a + p_b))) 1))))
 (J167 ((w .i64 ((w .i64 ((w .i64 (sShr .u64 (w .u64 (w .i64 (p_a + p_b))) 1)) + p_m)) - p_b)), (w .i64 (sShr .u64 (w .u64 (w .i64 (p_a + p_b))) 1))) H)
 (J167 (p_a, p_m) H))))
theorem ad_slices_symMergeCmpFunc_zset_Entry (C : Ctx) (p_data : Sl) (p_a : Int) (p_m : Int) (p_b : Int) (p_cmp : Value) (K : Heap → Prop) (H : Heap) (h : sh_slices_symMergeCmpFunc_zset_Entry C p_data p_a p_m p_b p_cmp K H) : c_slices_symMergeCmpFunc_zset_Entry C p_data p_a p_m p_b p_cmp K H := by
 refine Spec.enter Tryz.func81 rfl Tryz.ntmps81 rfl (GC.sub [(0, slv p_data), (1, .int .i64 p_a), (2, .int .i64 p_m), (3, .int .i64 p_b), (4, p_cmp)] ⟨rfl, rfl, rfl, rfl, rfl, trivial⟩ (GC.seq (Zo (Zm (Zm (Zi (.int .i64 (w .i64 (p_m - p_a))) (Zi (.bool (((w .i64 (p_m - p_a)) : Int) == 1)) (GL.nil ?_))))))))
 refine Zd (fun hc1 => ?_) fun hc1 => ?_
 replace h := h.1 hc1
 refine Zo (Zm (Za (GL.nil (Zo (Zm (Za (GL.nil (GC.seq (GC.block (GC.loop (α := Int × Int) h (fun x2 => [(10, .int .i64 x2.1), (11, .int .i64 x2.2), (0, slv p_data), (1, .int .i64 p_a), (4, p_cmp)]) ⟨rfl, rfl, rfl, rfl, rfl, trivial⟩ ?_))))))))))
 intro x2 H4 J3 h
 refine GC.seq (Zo (Zm (Zm (Zi (.bool (decide ((x2.1 : Int) < x2.2))) (GL.nil ?_)))))
 refine Zd (fun hc5 => ?_) fun hc5 => ?_
 replace h := h.1 hc5
 refine GC.skip (GC.block (Zo (Zm (Zm (Zi (.int .i64 (w .i64 (x2.1 + x2.2))) (Zv (OV.convInt rfl rfl rfl) (Zv (OV.shr rfl rfl (by decide)) (Zv (OV.convInt rfl rfl rfl) (Za (GL.nil (GC.seq ?_)))))))))))
 obtain ⟨Hs6, hle7, h⟩ := h
 refine GC.any (Hs := Hs6) (by kernel_rfl) hle7 (Zp 0 rfl (OV.move rfl) (Zp 1 rfl (OV.move rfl) (Zp 2 rfl (OV.move rfl) ?_)))
 obtain ⟨p8, ha9, hb10, hc11, hd12, h⟩ := h
 refine Zp 3 rfl (OV.indexAddr rfl rfl rfl rfl ha9 hb10 hc11 hd12) ?_
 obtain ⟨x13, hr14, h⟩ := h
 refine Zp 4 rfl (OV.loadT rfl rfl rfl hr14) (Zp 5 rfl (OV.move rfl) (Zp 6 rfl (OV.move rfl) ?_))
 obtain ⟨p15, ha16, hb17, hc18, hd19, h⟩ := h
 refine Zp 7 rfl (OV.indexAddr rfl rfl rfl rfl ha16 hb17 hc18 hd19) ?_
 obtain ⟨x20, hr21, h⟩ := h
 refine Zp 8 rfl (OV.loadT rfl rfl rfl hr21) (GA.eff 9 rfl (by kernel_rfl) (GL.callU (xv := p_cmp) (vs := [.agg (T_zset_Entry.c x13).toArray, .agg (T_zset_Entry.c x20).toArray]) h trivial rfl rfl rfl ?_))
 rintro _ H24 ⟨r23, rfl, h⟩
 obtain ⟨hle22, h⟩ := h
 refine GA.back hle22 (Zp 10 rfl (OV.ibin (v := .bool (decide ((r23 : Int) < 0))) rfl rfl rfl) (GA.done (by kernel_rfl) (GL.nil ?_)))
 refine Zd (fun hc25 => ?_) fun hc25 => ?_
 replace h := h.1 hc25
 refine GC.region (Zm (Zi (.int .i64 (w .i64 ((w .i64 (sShr .u64 (w .u64 (w .i64 (x2.1 + x2.2))) 1)) + 1))) (Za ?_)))
 exact GL.jump (fun _ _ h => h) ((w .i64 ((w .i64 (sShr .u64 (w .u64 (w .i64 (x2.1 + x2.2))) 1)) + 1)), x2.2) h ⟨rfl, rfl, rfl, rfl, rfl, trivial⟩
 replace h := h.2 hc25
 refine GC.region (Zm (Za ?_))
 exact GL.jump (fun _ _ h => h) (x2.1, (w .i64 (sShr .u64 (w .u64 (w .i64 (x2.1 + x2.2))) 1))) h ⟨rfl, rfl, rfl, rfl, rfl, trivial⟩
 replace h := h.2 hc5
 refine GC.exit_to (fun _ _ h => h) (GC.seq (Zo (Zm (Za (GL.nil (GC.block (GC.loop (α := Int) h (fun x26 => [(13, .int .i64 x26), (0, slv p_data), (10, .int .i64 x2.1)]) ⟨rfl, rfl, rfl, trivial⟩ ?_)))))))
 intro x26 H28 J27 h
 refine GC.seq (Zo (Zm (Zm (Zi (.int .i64 (w .i64 (x2.1 - 1))) (Zi (.bool (decide ((x26 : Int) < (w .i64 (x2.1 - 1))))) (GL.nil ?_))))))
 refine Zd (fun hc29 => ?_) fun hc29 => ?_
 replace h := h.1 hc29
 refine GC.skip (GC.seq (GC.block ?_))
 obtain ⟨J30, h, hR33⟩ := h
 refine GC.meet (α := Unit) J30 (fun _ => [(0, slv p_data), (10, .int .i64 x2.1), (13, .int .i64 x26)]) ?_ ?_
 obtain ⟨Hs34, hle35, h⟩ := h
 refine GC.tail (Hs := Hs34) 17 (by kernel_rfl) hle35 (by kernel_rfl) (Zy 0 rfl (OV.move rfl) (Zy 1 rfl (OV.move rfl) (Zy 2 rfl (OV.move rfl) (Zy 3 rfl (OV.move rfl) (Zy 4 rfl (OV.ibin (v := .int .i64 (w .i64 (x26 + 1))) rfl rfl rfl) (Zy 5 rfl (OV.move rfl) (Zy 6 rfl (OV.move rfl) (Zy 7 rfl (OV.ibin (v := .int .i64 (w .i64 (x26 + 1))) rfl rfl rfl) ?_))))))))
 obtain ⟨p36, ha37, hb38, hc39, hd40, h⟩ := h
 refine Zy 8 rfl (OV.indexAddr rfl rfl rfl rfl ha37 hb38 hc39 hd40) (Zy 10 rfl (OV.move rfl) (Zy 11 rfl (OV.move rfl) ?_))
 obtain ⟨p41, ha42, hb43, hc44, hd45, h⟩ := h
 refine Zy 12 rfl (OV.indexAddr rfl rfl rfl rfl ha42 hb43 hc44 hd45) ?_
 refine GT.effs [9, 13] (by kernel_rfl) (by simp) (List.forall_mem_cons.2 ⟨⟨_, rfl, rfl, ?_⟩, List.forall_mem_cons.2 ⟨⟨_, rfl, rfl, ?_⟩, fun _ h => by cases h⟩⟩)
 replace h := h.1
 obtain ⟨x47, hr48, h⟩ := h
 refine Zv (OV.loadT rfl rfl rfl hr48) ?_
 obtain ⟨hle46, h⟩ := h
 refine GT.back hle46 (GT.eff 13 rfl (by kernel_rfl) rfl ?_)
 obtain ⟨x50, hr51, h⟩ := h
 refine Zv (OV.loadT rfl rfl rfl hr51) ?_
 obtain ⟨hle49, h⟩ := h
 refine GT.back hle49 ?_
 obtain ⟨p52, ha53, hb54, hc55, hd56, h⟩ := h
 refine Zy 14 rfl (OV.indexAddr rfl rfl rfl rfl ha53 hb54 hc55 hd56) (GT.eff 15 rfl (by kernel_rfl) rfl (GL.storeT (p := (p52.1, p52.2 + (x26 : Int).toNat * 2)) (vs := T_zset_Entry.c x47) h trivial rfl rfl rfl rfl ?_))
 intro H58 h
 obtain ⟨hle57, h⟩ := h
 refine GT.back hle57 ?_
 obtain ⟨p59, ha60, hb61, hc62, hd63, h⟩ := h
 refine Zy 16 rfl (OV.indexAddr rfl rfl rfl rfl ha60 hb61 hc62 hd63) (GT.done (by kernel_rfl) ?_)
 show GL _ _ _ _ _ [_] _ _
 refine GL.storeT (p := (p59.1, p59.2 + (w .i64 (x26 + 1) : Int).toNat * 2)) (vs := T_zset_Entry.c x50) h trivial rfl rfl rfl rfl ?_
 intro H64 h
 exact GL.jump (fun _ _ h => h) () h ⟨rfl, rfl, rfl, trivial⟩
 replace h := h.2
 obtain ⟨x66, hr67, h⟩ := h
 refine Zv (OV.loadT rfl rfl rfl hr67) ?_
 obtain ⟨hle65, h⟩ := h
 refine GT.back hle65 (GT.eff 9 rfl (by kernel_rfl) rfl ?_)
 obtain ⟨x69, hr70, h⟩ := h
 refine Zv (OV.loadT rfl rfl rfl hr70) ?_
 obtain ⟨hle68, h⟩ := h
 refine GT.back hle68 ?_
 obtain ⟨p71, ha72, hb73, hc74, hd75, h⟩ := h
 refine Zy 14 rfl (OV.indexAddr rfl rfl rfl rfl ha72 hb73 hc74 hd75) (GT.eff 15 rfl (by kernel_rfl) rfl (GL.storeT (p := (p71.1, p71.2 + (x26 : Int).toNat * 2)) (vs := T_zset_Entry.c x69) h trivial rfl rfl rfl rfl ?_))
 intro H77 h
 obtain ⟨hle76, h⟩ := h
 refine GT.back hle76 ?_
 obtain ⟨p78, ha79, hb80, hc81, hd82, h⟩ := h
 refine Zy 16 rfl (OV.indexAddr rfl rfl rfl rfl ha79 hb80 hc81 hd82) (GT.done (by kernel_rfl) ?_)
 show GL _ _ _ _ _ [_] _ _
 refine GL.storeT (p := (p78.1, p78.2 + (w .i64 (x26 + 1) : Int).toNat * 2)) (vs := T_zset_Entry.c x66) h trivial rfl rfl rfl rfl ?_
 intro H83 h
 exact GL.jump (fun _ _ h => h) () h ⟨rfl, rfl, rfl, trivial⟩
 intro x31 H32 h
 replace h := hR33 x31 H32 h
 refine GL.nil_to (fun _ _ h => h) (GC.region (Zm (Zi (.int .i64 (w .i64 (x26 + 1))) (Za ?_))))
 exact GL.jump (fun _ _ h => h) (w .i64 (x26 + 1)) h ⟨rfl, rfl, rfl, trivial⟩
 replace h := h.2 hc29
 refine GC.exit_to (fun _ _ h => h) ?_
 exact GC.ret (fun _ _ hf hs => post_tmp0 rfl hf hs ⟨rfl, h⟩)
 replace h := h.2 hc1
 refine GC.skip (GC.seq (Zo (Zm (Zm (Zi (.int .i64 (w .i64 (p_b - p_m))) (Zi (.bool (((w .i64 (p_b - p_m)) : Int) == 1)) (GL.nil ?_)))))))
 refine Zd (fun hc84 => ?_) fun hc84 => ?_
 replace h := h.1 hc84
 refine Zo (Zm (Za (GL.nil (Zo (Zm (Za (GL.nil (GC.seq (GC.block (GC.loop (α := Int × Int) h (fun x85 => [(14, .int .i64 x85.1), (15, .int .i64 x85.2), (0, slv p_data), (2, .int .i64 p_m), (4, p_cmp)]) ⟨rfl, rfl, rfl, rfl, rfl, trivial⟩ ?_))))))))))
 intro x85 H87 J86 h
 refine GC.seq (Zo (Zm (Zm (Zi (.bool (decide ((x85.1 : Int) < x85.2))) (GL.nil ?_)))))
 refine Zd (fun hc88 => ?_) fun hc88 => ?_
 replace h := h.1 hc88
 refine GC.skip (GC.block (Zo (Zm (Zm (Zi (.int .i64 (w .i64 (x85.1 + x85.2))) (Zv (OV.convInt rfl rfl rfl) (Zv (OV.shr rfl rfl (by decide)) (Zv (OV.convInt rfl rfl rfl) (Za (GL.nil (GC.seq ?_)))))))))))
 obtain ⟨Hs89, hle90, h⟩ := h
 refine GC.any (Hs := Hs89) (by kernel_rfl) hle90 (Zp 0 rfl (OV.move rfl) (Zp 1 rfl (OV.move rfl) (Zp 2 rfl (OV.move rfl) ?_)))
 obtain ⟨p91, ha92, hb93, hc94, hd95, h⟩ := h
 refine Zp 3 rfl (OV.indexAddr rfl rfl rfl rfl ha92 hb93 hc94 hd95) ?_
 obtain ⟨x96, hr97, h⟩ := h
 refine Zp 4 rfl (OV.loadT rfl rfl rfl hr97) (Zp 5 rfl (OV.move rfl) (Zp 6 rfl (OV.move rfl) ?_))
 obtain ⟨p98, ha99, hb100, hc101, hd102, h⟩ := h
 refine Zp 7 rfl (OV.indexAddr rfl rfl rfl rfl ha99 hb100 hc101 hd102) ?_
 obtain ⟨x103, hr104, h⟩ := h
 refine Zp 8 rfl (OV.loadT rfl rfl rfl hr104) (GA.eff 9 rfl (by kernel_rfl) (GL.callU (xv := p_cmp) (vs := [.agg (T_zset_Entry.c x96).toArray, .agg (T_zset_Entry.c x103).toArray]) h trivial rfl rfl rfl ?_))
 rintro _ H107 ⟨r106, rfl, h⟩
 obtain ⟨hle105, h⟩ := h
 refine GA.back hle105 (Zp 10 rfl (OV.ibin (v := .bool (decide ((r106 : Int) < 0))) rfl rfl rfl) (Zp 11 rfl (OV.not rfl) (GA.done (by kernel_rfl) (GL.nil ?_))))
 refine Zd (fun hc108 => ?_) fun hc108 => ?_
 replace h := h.1 hc108
 refine GC.region (Zm (Zi (.int .i64 (w .i64 ((w .i64 (sShr .u64 (w .u64 (w .i64 (x85.1 + x85.2))) 1)) + 1))) (Za ?_)))
 exact GL.jump (fun _ _ h => h) ((w .i64 ((w .i64 (sShr .u64 (w .u64 (w .i64 (x85.1 + x85.2))) 1)) + 1)), x85.2) h ⟨rfl, rfl, rfl, rfl, rfl, trivial⟩
 replace h := h.2 hc108
 refine GC.region (Zm (Za ?_))
 exact GL.jump (fun _ _ h => h) (x85.1, (w .i64 (sShr .u64 (w .u64 (w .i64 (x85.1 + x85.2))) 1))) h ⟨rfl, rfl, rfl, rfl, rfl, trivial⟩
 replace h := h.2 hc88
 refine GC.exit_to (fun _ _ h => h) (GC.seq (Zo (Zm (Za (GL.nil (GC.block (GC.loop (α := Int) h (fun x109 => [(17, .int .i64 x109), (0, slv p_data), (14, .int .i64 x85.1)]) ⟨rfl, rfl, rfl, trivial⟩ ?_)))))))
 intro x109 H111 J110 h
 refine GC.seq (Zo (Zm (Zm (Zi (.bool (decide ((x109 : Int) > x85.1))) (GL.nil ?_)))))
 refine Zd (fun hc112 => ?_) fun hc112 => ?_
 replace h := h.1 hc112
 refine GC.skip (GC.seq (GC.block ?_))
 obtain ⟨J113, h, hR116⟩ := h
 refine GC.meet (α := Unit) J113 (fun _ => [(0, slv p_data), (14, .int .i64 x85.1), (17, .int .i64 x109)]) ?_ ?_
 obtain ⟨Hs117, hle118, h⟩ := h
 refine GC.tail (Hs := Hs117) 17 (by kernel_rfl) hle118 (by kernel_rfl) (Zy 0 rfl (OV.move rfl) (Zy 1 rfl (OV.move rfl) (Zy 2 rfl (OV.move rfl) (Zy 3 rfl (OV.move rfl) (Zy 4 rfl (OV.ibin (v := .int .i64 (w .i64 (x109 - 1))) rfl rfl rfl) (Zy 5 rfl (OV.move rfl) (Zy 6 rfl (OV.move rfl) (Zy 7 rfl (OV.ibin (v := .int .i64 (w .i64 (x109 - 1))) rfl rfl rfl) ?_))))))))
 obtain ⟨p119, ha120, hb121, hc122, hd123, h⟩ := h
 refine Zy 8 rfl (OV.indexAddr rfl rfl rfl rfl ha120 hb121 hc122 hd123) (Zy 10 rfl (OV.move rfl) (Zy 11 rfl (OV.move rfl) ?_))
 obtain ⟨p124, ha125, hb126, hc127, hd128, h⟩ := h
 refine Zy 12 rfl (OV.indexAddr rfl rfl rfl rfl ha125 hb126 hc127 hd128) ?_
 refine GT.effs [9, 13] (by kernel_rfl) (by simp) (List.forall_mem_cons.2 ⟨⟨_, rfl, rfl, ?_⟩, List.forall_mem_cons.2 ⟨⟨_, rfl, rfl, ?_⟩, fun _ h => by cases h⟩⟩)
 replace h := h.1
 obtain ⟨x130, hr131, h⟩ := h
 refine Zv (OV.loadT rfl rfl rfl hr131) ?_
 obtain ⟨hle129, h⟩ := h
 refine GT.back hle129 (GT.eff 13 rfl (by kernel_rfl) rfl ?_)
 obtain ⟨x133, hr134, h⟩ := h
 refine Zv (OV.loadT rfl rfl rfl hr134) ?_
 obtain ⟨hle132, h⟩ := h
 refine GT.back hle132 ?_
 obtain ⟨p135, ha136, hb137, hc138, hd139, h⟩ := h
 refine Zy 14 rfl (OV.indexAddr rfl rfl rfl rfl ha136 hb137 hc138 hd139) (GT.eff 15 rfl (by kernel_rfl) rfl (GL.storeT (p := (p135.1, p135.2 + (x109 : Int).toNat * 2)) (vs := T_zset_Entry.c x130) h trivial rfl rfl rfl rfl ?_))
 intro H141 h
 obtain ⟨hle140, h⟩ := h
 refine GT.back hle140 ?_
 obtain ⟨p142, ha143, hb144, hc145, hd146, h⟩ := h
 refine Zy 16 rfl (OV.indexAddr rfl rfl rfl rfl ha143 hb144 hc145 hd146) (GT.done (by kernel_rfl) ?_)
 show GL _ _ _ _ _ [_] _ _
 refine GL.storeT (p := (p142.1, p142.2 + (w .i64 (x109 - 1) : Int).toNat * 2)) (vs := T_zset_Entry.c x133) h trivial rfl rfl rfl rfl ?_
 intro H147 h
 exact GL.jump (fun _ _ h => h) () h ⟨rfl, rfl, rfl, trivial⟩
 replace h := h.2
 obtain ⟨x149, hr150, h⟩ := h
 refine Zv (OV.loadT rfl rfl rfl hr150) ?_
 obtain ⟨hle148, h⟩ := h
 refine GT.back hle148 (GT.eff 9 rfl (by kernel_rfl) rfl ?_)
 obtain ⟨x152, hr153, h⟩ := h
 refine Zv (OV.loadT rfl rfl rfl hr153) ?_
 obtain ⟨hle151, h⟩ := h
 refine GT.back hle151 ?_
 obtain ⟨p154, ha155, hb156, hc157, hd158, h⟩ := h
 refine Zy 14 rfl (OV.indexAddr rfl rfl rfl rfl ha155 hb156 hc157 hd158) (GT.eff 15 rfl (by kernel_rfl) rfl (GL.storeT (p := (p154.1, p154.2 + (x109 : Int).toNat * 2)) (vs := T_zset_Entry.c x152) h trivial rfl rfl rfl rfl ?_))
 intro H160 h
 obtain ⟨hle159, h⟩ := h
 refine GT.back hle159 ?_
 obtain ⟨p161, ha162, hb163, hc164, hd165, h⟩ := h
 refine Zy 16 rfl (OV.indexAddr rfl rfl rfl rfl ha162 hb163 hc164 hd165) (GT.done (by kernel_rfl) ?_)
 show GL _ _ _ _ _ [_] _ _
 refine GL.storeT (p := (p161.1, p161.2 + (w .i64 (x109 - 1) : Int).toNat * 2)) (vs := T_zset_Entry.c x149) h trivial rfl rfl rfl rfl ?_
 intro H166 h
 exact GL.jump (fun _ _ h => h) () h ⟨rfl, rfl, rfl, trivial⟩
 intro x114 H115 h
 replace h := hR116 x114 H115 h
 refine GL.nil_to (fun _ _ h => h) (GC.region (Zm (Zi (.int .i64 (w .i64 (x109 - 1))) (Za ?_))))
 exact GL.jump (fun _ _ h => h) (w .i64 (x109 - 1)) h ⟨rfl, rfl, rfl, trivial⟩
 replace h := h.2 hc112
 refine GC.exit_to (fun _ _ h => h) ?_
 exact GC.ret (fun _ _ hf hs => post_tmp0 rfl hf hs ⟨rfl, h⟩)
 replace h := h.2 hc84
 refine GC.skip (Zo (Zm (Zm (Zi (.int .i64 (w .i64 (p_a + p_b))) (Zv (OV.convInt rfl rfl rfl) (Zv (OV.shr rfl rfl (by decide)) (Zv (OV.convInt rfl rfl rfl) (Za (GL.nil (Zo (Zm ?_)))))))))))
 refine Zm (Zi (.int .i64 (w .i64 ((w .i64 (sShr .u64 (w .u64 (w .i64 (p_a + p_b))) 1)) + p_m))) (Za (GL.nil (Zo (Za (Za (GL.nil ?_)))))))
 obtain ⟨J167, h, hR170⟩ := h
 refine GC.join (α := Int × Int) J167 (fun x168 => [(20, .int .i64 x168.1), (21, .int .i64 x168.2), (0, slv p_data), (1, .int .i64 p_a), (2, .int .i64 p_m), (3, .int .i64 p_b), (4, p_cmp), (18, .int .i64 (w .i64 (sShr .u64 (w .u64 (w .i64 (p_a + p_b))) 1))), (19, .int .i64 (w .i64 ((w .i64 (sShr .u64 (w .u64 (w .i64 (p_a + p_b))) 1)) + p_m)))]) ?_ ?_
 refine Zo (Zm (Zm (Zi (.bool (decide ((p_m : Int) > (w .i64 (sShr .u64 (w .u64 (w .i64 (p_a + p_b))) 1))))) (GL.nil ?_))))
 refine Zd (fun hc171 => ?_) fun hc171 => ?_
 replace h := h.1 hc171
 refine Zo (Zm (Zm (Zi (.int .i64 (w .i64 ((w .i64 ((w .i64 (sShr .u64 (w .u64 (w .i64 (p_a + p_b))) 1)) + p_m)) - p_b))) (Za (GL.nil (GC.region (Zm (Za ?_))))))))
 exact GL.jump (fun _ _ h => h) ((w .i64 ((w .i64 ((w .i64 (sShr .u64 (w .u64 (w .i64 (p_a + p_b))) 1)) + p_m)) - p_b)), (w .i64 (sShr .u64 (w .u64 (w .i64 (p_a + p_b))) 1))) h ⟨rfl, rfl, rfl, rfl, rfl, rfl, rfl, rfl, rfl, trivial⟩
 replace h := h.2 hc171
 refine Zo (Zm (Za (GL.nil (GC.region (Zm (Za ?_))))))
 exact GL.jump (fun _ _ h => h) (p_a, p_m) h ⟨rfl, rfl, rfl, rfl, rfl, rfl, rfl, rfl, rfl, trivial⟩
 intro x168 H169 h
 replace h := hR170 x168 H169 h
 refine Zo (Zm (Zi (.int .i64 (w .i64 ((w .i64 ((w .i64 (sShr .u64 (w .u64 (w .i64 (p_a + p_b))) 1)) + p_m)) - 1))) (Za (GL.nil (GC.seq (GC.block (GC.loop (α := Int × Int) h (fun x172 => [(20, .int .i64 x172.1), (21, .int .i64 x172.2), (0, slv p_data), (1, .int .i64 p_a), (2, .int .i64 p_m), (3, .int .i64 p_b), (4, p_cmp), (18, .int .i64 (w .i64 (sShr .u64 (w .u64 (w .i64 (p_a + p_b))) 1))), (19, .int .i64 (w .i64 ((w .i64 (sShr .u64 (w .u64 (w .i64 (p_a + p_b))) 1)) + p_m))), (22, .int .i64 (w .i64 ((w .i64 ((w .i64 (sShr .u64 (w .u64 (w .i64 (p_a + p_b))) 1)) + p_m)) - 1)))]) ⟨rfl, rfl, rfl, rfl, rfl, rfl, rfl, rfl, rfl, rfl, trivial⟩ ?_)))))))
 intro x172 H174 J173 h
 refine GC.seq (Zo (Zm (Zm (Zi (.bool (decide ((x172.1 : Int) < x172.2))) (GL.nil ?_)))))
 refine Zd (fun hc175 => ?_) fun hc175 => ?_
 replace h := h.1 hc175
 refine GC.skip (GC.block (Zo (Zm (Zm (Zi (.int .i64 (w .i64 (x172.1 + x172.2))) (Zv (OV.convInt rfl rfl rfl) (Zv (OV.shr rfl rfl (by decide)) (Zv (OV.convInt rfl rfl rfl) (Za (GL.nil (GC.seq ?_)))))))))))
 obtain ⟨Hs176, hle177, h⟩ := h
 refine GC.any (Hs := Hs176) (by kernel_rfl) hle177 (Zp 0 rfl (OV.move rfl) (Zp 1 rfl (OV.move rfl) (Zp 2 rfl (OV.move rfl) (Zp 3 rfl (OV.move rfl) (Zp 4 rfl (OV.ibin (v := .int .i64 (w .i64 ((w .i64 ((w .i64 ((w .i64 (sShr .u64 (w .u64 (w .i64 (p_a + p_b))) 1)) + p_m)) - 1)) - (w .i64 (sShr .u64 (w .u64 (w .i64 (x172.1 + x172.2))) 1))))) rfl rfl rfl) ?_)))))
 obtain ⟨p178, ha179, hb180, hc181, hd182, h⟩ := h
 refine Zp 5 rfl (OV.indexAddr rfl rfl rfl rfl ha179 hb180 hc181 hd182) ?_
 obtain ⟨x183, hr184, h⟩ := h
 refine Zp 6 rfl (OV.loadT rfl rfl rfl hr184) (Zp 7 rfl (OV.move rfl) (Zp 8 rfl (OV.move rfl) ?_))
 obtain ⟨p185, ha186, hb187, hc188, hd189, h⟩ := h
 refine Zp 9 rfl (OV.indexAddr rfl rfl rfl rfl ha186 hb187 hc188 hd189) ?_
 obtain ⟨x190, hr191, h⟩ := h
 refine Zp 10 rfl (OV.loadT rfl rfl rfl hr191) (GA.eff 11 rfl (by kernel_rfl) (GL.callU (xv := p_cmp) (vs := [.agg (T_zset_Entry.c x183).toArray, .agg (T_zset_Entry.c x190).toArray]) h trivial rfl rfl rfl ?_))
 rintro _ H194 ⟨r193, rfl, h⟩
 obtain ⟨hle192, h⟩ := h
 refine GA.back hle192 (Zp 12 rfl (OV.ibin (v := .bool (decide ((r193 : Int) < 0))) rfl rfl rfl) (Zp 13 rfl (OV.not rfl) (GA.done (by kernel_rfl) (GL.nil ?_))))
 refine Zd (fun hc195 => ?_) fun hc195 => ?_
 replace h := h.1 hc195
 refine GC.region (Zm (Zi (.int .i64 (w .i64 ((w .i64 (sShr .u64 (w .u64 (w .i64 (x172.1 + x172.2))) 1)) + 1))) (Za ?_)))
 exact GL.jump (fun _ _ h => h) ((w .i64 ((w .i64 (sShr .u64 (w .u64 (w .i64 (x172.1 + x172.2))) 1)) + 1)), x172.2) h ⟨rfl, rfl, rfl, rfl, rfl, rfl, rfl, rfl, rfl, rfl, trivial⟩
 replace h := h.2 hc195
 refine GC.region (Zm (Za ?_))
 exact GL.jump (fun _ _ h => h) (x172.1, (w .i64 (sShr .u64 (w .u64 (w .i64 (x172.1 + x172.2))) 1))) h ⟨rfl, rfl, rfl, rfl, rfl, rfl, rfl, rfl, rfl, rfl, trivial⟩
 replace h := h.2 hc175
 refine GC.exit_to (fun _ _ h => h) (Zo (Zm (Zm (Zi (.int .i64 (w .i64 ((w .i64 ((w .i64 (sShr .u64 (w .u64 (w .i64 (p_a + p_b))) 1)) + p_m)) - x172.1))) (Za (GL.nil ?_))))))
 obtain ⟨J196, h, hR199⟩ := h
 refine GC.join (α := Unit) J196 (fun _ => [(0, slv p_data), (1, .int .i64 p_a), (3, .int .i64 p_b), (4, p_cmp), (18, .int .i64 (w .i64 (sShr .u64 (w .u64 (w .i64 (p_a + p_b))) 1))), (20, .int .i64 x172.1), (24, .int .i64 (w .i64 ((w .i64 ((w .i64 (sShr .u64 (w .u64 (w .i64 (p_a + p_b))) 1)) + p_m)) - x172.1)))]) ?_ ?_
 refine Zo (Zm (Zm (Zi (.bool (decide ((x172.1 : Int) < p_m))) (Zm ?_))))
 refine GL.cut0 4 [(185, .bool ((decide ((x172.1 : Int) < p_m)) && (decide ((p_m : Int) < (w .i64 ((w .i64 ((w .i64 (sShr .u64 (w .u64 (w .i64 (p_a + p_b))) 1)) + p_m)) - x172.1)))))), (0, slv p_data), (1, .int .i64 p_a), (2, .int .i64 p_m), (3, .int .i64 p_b), (4, p_cmp), (18, .int .i64 (w .i64 (sShr .u64 (w .u64 (w .i64 (p_a + p_b))) 1))), (20, .int .i64 x172.1), (24, .int .i64 (w .i64 ((w .i64 ((w .i64 (sShr .u64 (w .u64 (w .i64 (p_a + p_b))) 1)) + p_m)) - x172.1)))] ?_ ?_
 rcases Zb (decide ((x172.1 : Int) < p_m)) with hc200 | hc200
 refine Zu hc200 (OV.move rfl) (Zu hc200 (OV.move rfl) (Zu hc200 (OV.ibin (v := .bool (decide ((p_m : Int) < (w .i64 ((w .i64 ((w .i64 (sShr .u64 (w .u64 (w .i64 (p_a + p_b))) 1)) + p_m)) - x172.1))))) rfl rfl rfl) (Zt hc200 ?_)))
 exact GL.jump0 (fun _ _ h => h) () rfl ⟨(by rw [hc200]; rfl), rfl, rfl, rfl, rfl, rfl, rfl, rfl, rfl, trivial⟩
 refine Zk hc200 (Zk hc200 (Zk hc200 (Zn hc200 ?_)))
 exact GL.jump0 (fun _ _ h => h) () rfl ⟨(by rw [hc200]; rfl), rfl, rfl, rfl, rfl, rfl, rfl, rfl, rfl, trivial⟩
 refine GL.nil ?_
 refine Zd (fun hc201 => ?_) fun hc201 => ?_
 replace h := h.1 hc201
 refine GC.region (Zm (Zm (Zm (Zm (Zm (Zc h ok_slices_rotateCmpFunc_zset_Entry ?_))))))
 rintro _ H202 ⟨rfl, h⟩
 exact GL.jump (fun _ _ h => h) () h ⟨rfl, rfl, rfl, rfl, rfl, rfl, rfl, trivial⟩
 replace h := h.2 hc201
 exact GC.jump (fun _ _ h => h) () h ⟨rfl, rfl, rfl, rfl, rfl, rfl, rfl, trivial⟩
 intro x197 H198 h
 replace h := hR199 x197 H198 h
 obtain ⟨J203, h, hR206⟩ := h
 refine GC.join (α := Unit) J203 (fun _ => [(0, slv p_data), (3, .int .i64 p_b), (4, p_cmp), (18, .int .i64 (w .i64 (sShr .u64 (w .u64 (w .i64 (p_a + p_b))) 1))), (24, .int .i64 (w .i64 ((w .i64 ((w .i64 (sShr .u64 (w .u64 (w .i64 (p_a + p_b))) 1)) + p_m)) - x172.1)))]) ?_ ?_
 refine Zo (Zm (Zm (Zi (.bool (decide ((p_a : Int) < x172.1))) (Zm ?_))))
 refine GL.cut0 4 [(199, .bool ((decide ((p_a : Int) < x172.1)) && (decide ((x172.1 : Int) < (w .i64 (sShr .u64 (w .u64 (w .i64 (p_a + p_b))) 1)))))), (0, slv p_data), (1, .int .i64 p_a), (3, .int .i64 p_b), (4, p_cmp), (18, .int .i64 (w .i64 (sShr .u64 (w .u64 (w .i64 (p_a + p_b))) 1))), (20, .int .i64 x172.1), (24, .int .i64 (w .i64 ((w .i64 ((w .i64 (sShr .u64 (w .u64 (w .i64 (p_a + p_b))) 1)) + p_m)) - x172.1)))] ?_ ?_
 rcases Zb (decide ((p_a : Int) < x172.1)) with hc207 | hc207
 refine Zu hc207 (OV.move rfl) (Zu hc207 (OV.move rfl) (Zu hc207 (OV.ibin (v := .bool (decide ((x172.1 : Int) < (w .i64 (sShr .u64 (w .u64 (w .i64 (p_a + p_b))) 1))))) rfl rfl rfl) (Zt hc207 ?_)))
 exact GL.jump0 (fun _ _ h => h) () rfl ⟨(by rw [hc207]; rfl), rfl, rfl, rfl, rfl, rfl, rfl, rfl, trivial⟩
 refine Zk hc207 (Zk hc207 (Zk hc207 (Zn hc207 ?_)))
 exact GL.jump0 (fun _ _ h => h) () rfl ⟨(by rw [hc207]; rfl), rfl, rfl, rfl, rfl, rfl, rfl, rfl, trivial⟩
 refine GL.nil ?_
 refine Zd (fun hc208 => ?_) fun hc208 => ?_
 replace h := h.1 hc208
 refine GC.region (Zm (Zm (Zm (Zm (Zm (Zc h ok_slices_symMergeCmpFunc_zset_Entry ?_))))))
 rintro _ H209 ⟨rfl, h⟩
 exact GL.jump (fun _ _ h => h) () h ⟨rfl, rfl, rfl, rfl, rfl, trivial⟩
 replace h := h.2 hc208
 exact GC.jump (fun _ _ h => h) () h ⟨rfl, rfl, rfl, rfl, rfl, trivial⟩
 intro x204 H205 h
 replace h := hR206 x204 H205 h
 refine Zo (Zm (Zm (Zi (.bool (decide (((w .i64 (sShr .u64 (w .u64 (w .i64 (p_a + p_b))) 1)) : Int) < (w .i64 ((w .i64 ((w .i64 (sShr .u64 (w .u64 (w .i64 (p_a + p_b))) 1)) + p_m)) - x172.1))))) (Zm ?_))))
 refine GL.cut0 4 [(213, .bool ((decide (((w .i64 (sShr .u64 (w .u64 (w .i64 (p_a + p_b))) 1)) : Int) < (w .i64 ((w .i64 ((w .i64 (sShr .u64 (w .u64 (w .i64 (p_a + p_b))) 1)) + p_m)) - x172.1)))) && (decide (((w .i64 ((w .i64 ((w .i64 (sShr .u64 (w .u64 (w .i64 (p_a + p_b))) 1)) + p_m)) - x172.1)) : Int) < p_b)))), (0, slv p_data), (3, .int .i64 p_b), (4, p_cmp), (18, .int .i64 (w .i64 (sShr .u64 (w .u64 (w .i64 (p_a + p_b))) 1))), (24, .int .i64 (w .i64 ((w .i64 ((w .i64 (sShr .u64 (w .u64 (w .i64 (p_a + p_b))) 1)) + p_m)) - x172.1)))] ?_ ?_
 rcases Zb (decide (((w .i64 (sShr .u64 (w .u64 (w .i64 (p_a + p_b))) 1)) : Int) < (w .i64 ((w .i64 ((w .i64 (sShr .u64 (w .u64 (w .i64 (p_a + p_b))) 1)) + p_m)) - x172.1)))) with hc210 | hc210
 refine Zu hc210 (OV.move rfl) (Zu hc210 (OV.move rfl) (Zu hc210 (OV.ibin (v := .bool (decide (((w .i64 ((w .i64 ((w .i64 (sShr .u64 (w .u64 (w .i64 (p_a + p_b))) 1)) + p_m)) - x172.1)) : Int) < p_b))) rfl rfl rfl) (Zt hc210 ?_)))
 exact GL.jump0 (fun _ _ h => h) () rfl ⟨(by rw [hc210]; rfl), rfl, rfl, rfl, rfl, rfl, trivial⟩
 refine Zk hc210 (Zk hc210 (Zk hc210 (Zn hc210 ?_)))
 exact GL.jump0 (fun _ _ h => h) () rfl ⟨(by rw [hc210]; rfl), rfl, rfl, rfl, rfl, rfl, trivial⟩
 refine GL.nil ?_
 refine Zd (fun hc211 => ?_) fun hc211 => ?_
 replace h := h.1 hc211
 refine GC.region (Zm (Zm (Zm (Zm (Zm (Zc h ok_slices_symMergeCmpFunc_zset_Entry ?_))))))
 rintro _ H212 ⟨rfl, h⟩
 exact GL.ends (fun _ _ hf hs => post_tmp0 rfl hf hs ⟨rfl, h⟩)
 replace h := h.2 hc211
 exact GC.ends (fun _ _ hf hs => post_tmp0 rfl hf hs ⟨rfl, h⟩)
def sh_ref02_Check (C : Ctx) (p_v : T_api_Value) (K : Int → Heap → Prop) (H : Heap) : Prop :=
 nw (T_api_Value.c p_v) (fun b1 H2 =>
 ldT H2 T_api_Value.c (b1, 0) fun x3 =>
 c_ref02_Depth C x3 (fun r5 H6 =>
 ift (decide ((r5 : Int) > 64))
 (K 65 H6)
 (ldT H6 T_api_Value.c (b1, 0) fun x8 =>
 c_ref02_form C x8 (fun r10 H11 =>
 ift (!r10)
 (K 4 H11)
 (ldT H11 T_api_Value.c (b1, 0) fun x13 =>
 c_ref02_fits C x13 (fun r15 H16 =>
 ift (!r15)
 (K 40 H16)
 (K 0 H16)) H11)) H6)) H2) H
theorem ad_ref02_Check (C : Ctx) (p_v : T_api_Value) (K : Int → Heap → Prop) (H : Heap) (h : sh_ref02_Check C p_v K H) : c_ref02_Check C p_v K H := by
 refine Spec.enter Tryz.func82 rfl Tryz.ntmps82 rfl (GC.sub [(0, .agg (T_api_Value.c p_v).toArray)] ⟨rfl, trivial⟩ (Zo (GL.box (v := .agg (T_api_Value.c p_v).toArray) (cs := T_api_Value.c p_v) h trivial rfl rfl rfl ?_)))
 intro b1 H2 h
 refine Za (GL.nil (GC.seq (Zo ?_)))
 obtain ⟨x3, hr4, h⟩ := h
 refine Zv (OV.loadT rfl rfl rfl hr4) (Zc h ok_ref02_Depth ?_)
 rintro _ H6 ⟨r5, rfl, h⟩
 refine Zi (.bool (decide ((r5 : Int) > 64))) (GL.nil ?_)
 refine Zd (fun hc7 => ?_) fun hc7 => ?_
 replace h := h.1 hc7
 refine Zo (Za (GL.nil ?_))
 exact GC.ret (fun _ _ hf hs => post_tmp1 rfl rfl hf hs ⟨65, rfl, h⟩)
 replace h := h.2 hc7
 refine GC.skip (GC.seq (Zo ?_))
 obtain ⟨x8, hr9, h⟩ := h
 refine Zv (OV.loadT rfl rfl rfl hr9) (Zc h ok_ref02_form ?_)
 rintro _ H11 ⟨r10, rfl, h⟩
 refine Zv (OV.not rfl) (GL.nil ?_)
 refine Zd (fun hc12 => ?_) fun hc12 => ?_
 replace h := h.1 hc12
 refine Zo (Za (GL.nil ?_))
 exact GC.ret (fun _ _ hf hs => post_tmp1 rfl rfl hf hs ⟨4, rfl, h⟩)
 replace h := h.2 hc12
 refine GC.skip (GC.seq (Zo ?_))
 obtain ⟨x13, hr14, h⟩ := h
 refine Zv (OV.loadT rfl rfl rfl hr14) (Zc h ok_ref02_fits ?_)
 rintro _ H16 ⟨r15, rfl, h⟩
 refine Zv (OV.not rfl) (GL.nil ?_)
 refine Zd (fun hc17 => ?_) fun hc17 => ?_
 replace h := h.1 hc17
 refine Zo (Za (GL.nil ?_))
 exact GC.ret (fun _ _ hf hs => post_tmp1 rfl rfl hf hs ⟨40, rfl, h⟩)
 replace h := h.2 hc17
 refine GC.skip (Zo (Za (GL.nil ?_)))
 exact GC.ret (fun _ _ hf hs => post_tmp1 rfl rfl hf hs ⟨0, rfl, h⟩)
def sh_ref02_cmp (C : Ctx) (p_a : T_api_Value) (p_b : T_api_Value) (K : Int → Heap → Prop) (H : Heap) : Prop :=
 nw (T_api_Value.c p_a) (fun b1 H2 =>
 nw (T_api_Value.c p_b) (fun b3 H4 =>
 ldI H4 .u8 ((b1, 0).1, (b1, 0).2 + 0) fun x5 =>
 ldI H4 .u8 ((b3, 0).1, (b3, 0).2 + 0) fun x7 =>
 ift ((x5 : Int) != x7)
 (ldI H4 .u8 ((b1, 0).1, (b1, 0).2 + 0) fun x10 =>
 ldI H4 .u8 ((b3, 0).1, (b3, 0).2 + 0) fun x12 =>
 c_ref02_ints C (w .i64 x10) (w .i64 x12) (fun r14 H15 =>
 K r14 H15) H4)
 (ldI H4 .u8 ((b1, 0).1, (b1, 0).2 + 0) fun x16 =>
 ift ((x16 : Int) == 3)
 (ldS H4 ((b1, 0).1, (b1, 0).2 + 2) fun x19 =>
 ldS H4 ((b3, 0).1, (b3, 0).2 + 2) fun x21 =>
 c_ref02_Bigs C x19 x21 (fun r23 H24 =>
 K r23 H24) H4)
 (ift ((x16 : Int) == 4)
 (ldS H4 ((b1, 0).1, (b1, 0).2 + 2) fun x26 =>
 ldS H4 ((b3, 0).1, (b3, 0).2 + 2) fun x28 =>
 c_ref02_texts C x26 x28 (fun r30 H31 =>
 K r30 H31) H4)
 (ift ((x16 : Int) == 5)
 (ldL H4 ((b1, 0).1, (b1, 0).2 + 3) fun x33 =>
 ldL H4 ((b3, 0).1, (b3, 0).2 + 3) fun x35 =>
 c_ref02_rows C x33 x35 (fun r37 H38 =>
 K r37 H38) H4)
 (ift ((x16 : Int) == 6)
 (ldS H4 ((b1, 0).1, (b1, 0).2 + 2) fun x40 =>
 ldS H4 ((b3, 0).1, (b3, 0).2 + 2) fun x42 =>
 c_ref02_texts C x40 x42 (fun r44 H45 =>
 ift ((r44 : Int) != 0)
 (K r44 H45)
 (ldL H45 ((b1, 0).1, (b1, 0).2 + 3) fun x47 =>
 ldL H45 ((b3, 0).1, (b3, 0).2 + 3) fun x49 =>
 c_ref02_rows C x47 x49 (fun r51 H52 =>
 K r51 H52) H45)) H4)
 (ldI H4 .i64 ((b1, 0).1, (b1, 0).2 + 1) fun x53 =>
 ldI H4 .i64 ((b3, 0).1, (b3, 0).2 + 1) fun x55 =>
 c_ref02_ints C x53 x55 (fun r57 H58 =>
 K r57 H58) H4)))))) H2) H
theorem ad_ref02_cmp (C : Ctx) (p_a : T_api_Value) (p_b : T_api_Value) (K : Int → Heap → Prop) (H : Heap) (h : sh_ref02_cmp C p_a p_b K H) : c_ref02_cmp C p_a p_b K H := by
 refine Spec.enter Tryz.func83 rfl Tryz.ntmps83 rfl (GC.sub [(0, .agg (T_api_Value.c p_a).toArray), (1, .agg (T_api_Value.c p_b).toArray)] ⟨rfl, rfl, trivial⟩ (Zo (GL.box (v := .agg (T_api_Value.c p_a).toArray) (cs := T_api_Value.c p_a) h trivial rfl rfl rfl ?_)))
 intro b1 H2 h
 refine GL.box (v := .agg (T_api_Value.c p_b).toArray) (cs := T_api_Value.c p_b) h trivial rfl rfl rfl ?_
 intro b3 H4 h
 refine Za (GL.nil (GC.seq (Zo (Zf ?_))))
 obtain ⟨x5, hr6, h⟩ := h
 refine Zl hr6 (Zf ?_)
 obtain ⟨x7, hr8, h⟩ := h
 refine Zl hr8 (Zi (.bool ((x5 : Int) != x7)) (GL.nil ?_))
 refine Zd (fun hc9 => ?_) fun hc9 => ?_
 replace h := h.1 hc9
 refine Zo (Zf ?_)
 obtain ⟨x10, hr11, h⟩ := h
 refine Zl hr11 (Zv (OV.convInt rfl rfl rfl) (Zf ?_))
 obtain ⟨x12, hr13, h⟩ := h
 refine Zl hr13 (Zv (OV.convInt rfl rfl rfl) (Zc h ok_ref02_ints ?_))
 rintro _ H15 ⟨r14, rfl, h⟩
 refine Za (GL.nil ?_)
 exact GC.ret (fun _ _ hf hs => post_tmp1 rfl rfl hf hs ⟨r14, rfl, h⟩)
 replace h := h.2 hc9
 refine GC.skip (GC.seq (Zo (Zf ?_)))
 obtain ⟨x16, hr17, h⟩ := h
 refine Zl hr17 (GL.nil (GC.block (Zo (Zi (.bool ((x16 : Int) == 3)) (Za (GL.nil ?_))))))
 refine Zd (fun hc18 => ?_) fun hc18 => ?_
 replace h := h.1 hc18
 refine Zo (Zf ?_)
 obtain ⟨x19, hr20, h⟩ := h
 refine Zl hr20 (Zf ?_)
 obtain ⟨x21, hr22, h⟩ := h
 refine Zl hr22 (Zc h ok_ref02_Bigs ?_)
 rintro _ H24 ⟨r23, rfl, h⟩
 refine Za (GL.nil ?_)
 exact GC.ret (fun _ _ hf hs => post_tmp1 rfl rfl hf hs ⟨r23, rfl, h⟩)
 replace h := h.2 hc18
 refine Zo (Zi (.bool ((x16 : Int) == 4)) (Za (GL.nil ?_)))
 refine Zd (fun hc25 => ?_) fun hc25 => ?_
 replace h := h.1 hc25
 refine Zo (Zf ?_)
 obtain ⟨x26, hr27, h⟩ := h
 refine Zl hr27 (Zf ?_)
 obtain ⟨x28, hr29, h⟩ := h
 refine Zl hr29 (Zc h ok_ref02_texts ?_)
 rintro _ H31 ⟨r30, rfl, h⟩
 refine Za (GL.nil ?_)
 exact GC.ret (fun _ _ hf hs => post_tmp1 rfl rfl hf hs ⟨r30, rfl, h⟩)
 replace h := h.2 hc25
 refine Zo (Zi (.bool ((x16 : Int) == 5)) (Za (GL.nil ?_)))
 refine Zd (fun hc32 => ?_) fun hc32 => ?_
 replace h := h.1 hc32
 refine Zo (Zf ?_)
 obtain ⟨x33, hr34, h⟩ := h
 refine Zl hr34 (Zf ?_)
 obtain ⟨x35, hr36, h⟩ := h
 refine Zl hr36 (Zc h ok_ref02_rows ?_)
 rintro _ H38 ⟨r37, rfl, h⟩
 refine Za (GL.nil ?_)
 exact GC.ret (fun _ _ hf hs => post_tmp1 rfl rfl hf hs ⟨r37, rfl, h⟩)
 replace h := h.2 hc32
 refine Zo (Zi (.bool ((x16 : Int) == 6)) (Za (GL.nil ?_)))
 refine Zd (fun hc39 => ?_) fun hc39 => ?_
 replace h := h.1 hc39
 refine Zo (Zf ?_)
 obtain ⟨x40, hr41, h⟩ := h
 refine Zl hr41 (Zf ?_)
 obtain ⟨x42, hr43, h⟩ := h
 refine Zl hr43 (Zc h ok_ref02_texts ?_)
 rintro _ H45 ⟨r44, rfl, h⟩
 refine Za (GL.nil (GC.seq (Zo (Zm (Zi (.bool ((r44 : Int) != 0)) (GL.nil ?_))))))
 refine Zd (fun hc46 => ?_) fun hc46 => ?_
 replace h := h.1 hc46
 refine Zo (Zm (Za (GL.nil ?_)))
 exact GC.ret (fun _ _ hf hs => post_tmp1 rfl rfl hf hs ⟨r44, rfl, h⟩)
 replace h := h.2 hc46
 refine GC.skip (Zo (Zf ?_))
 obtain ⟨x47, hr48, h⟩ := h
 refine Zl hr48 (Zf ?_)
 obtain ⟨x49, hr50, h⟩ := h
 refine Zl hr50 (Zc h ok_ref02_rows ?_)
 rintro _ H52 ⟨r51, rfl, h⟩
 refine Za (GL.nil ?_)
 exact GC.ret (fun _ _ hf hs => post_tmp1 rfl rfl hf hs ⟨r51, rfl, h⟩)
 replace h := h.2 hc39
 refine GC.skip_to (fun _ _ h => h) (Zo (Zf ?_))
 obtain ⟨x53, hr54, h⟩ := h
 refine Zl hr54 (Zf ?_)
 obtain ⟨x55, hr56, h⟩ := h
 refine Zl hr56 (Zc h ok_ref02_ints ?_)
 rintro _ H58 ⟨r57, rfl, h⟩
 refine Za (GL.nil ?_)
 exact GC.ret (fun _ _ hf hs => post_tmp1 rfl rfl hf hs ⟨r57, rfl, h⟩)
def sh_ref02_ints (C : Ctx) (p_a : Int) (p_b : Int) (K : Int → Heap → Prop) (H : Heap) : Prop :=
 ift (decide ((p_a : Int) < p_b))
 (K (-1) H)
 (ift (decide ((p_a : Int) > p_b))
 (K 1 H)
 (K 0 H))
theorem ad_ref02_ints (C : Ctx) (p_a : Int) (p_b : Int) (K : Int → Heap → Prop) (H : Heap) (h : sh_ref02_ints C p_a p_b K H) : c_ref02_ints C p_a p_b K H := by
 refine Spec.enter Tryz.func84 rfl Tryz.ntmps84 rfl (GC.sub [(0, .int .i64 p_a), (1, .int .i64 p_b)] ⟨rfl, rfl, trivial⟩ (Zo (Za (GL.nil (GC.seq (Zo (Zm (Zm (Zi (.bool (decide ((p_a : Int) < p_b))) (GL.nil ?_))))))))))
 refine Zd (fun hc1 => ?_) fun hc1 => ?_
 replace h := h.1 hc1
 refine Zo (Za (GL.nil ?_))
 exact GC.ret (fun _ _ hf hs => post_tmp1 rfl rfl hf hs ⟨(-1), rfl, h⟩)
 replace h := h.2 hc1
 refine GC.skip (GC.seq (Zo (Zm (Zm (Zi (.bool (decide ((p_a : Int) > p_b))) (GL.nil ?_))))))
 refine Zd (fun hc2 => ?_) fun hc2 => ?_
 replace h := h.1 hc2
 refine Zo (Za (GL.nil ?_))
 exact GC.ret (fun _ _ hf hs => post_tmp1 rfl rfl hf hs ⟨1, rfl, h⟩)
 replace h := h.2 hc2
 refine GC.skip (Zo (Za (GL.nil ?_)))
 exact GC.ret (fun _ _ hf hs => post_tmp1 rfl rfl hf hs ⟨0, rfl, h⟩)
def sh_cmp_isNaN_uint8 (C : Ctx) (p_x : Int) (K : Bool → Heap → Prop) (H : Heap) : Prop :=
 K ((p_x : Int) != p_x) H
theorem ad_cmp_isNaN_uint8 (C : Ctx) (p_x : Int) (K : Bool → Heap → Prop) (H : Heap) (h : sh_cmp_isNaN_uint8 C p_x K H) : c_cmp_isNaN_uint8 C p_x K H := by
 refine Spec.enter Tryz.func85 rfl Tryz.ntmps85 rfl (GC.sub [(0, .int .u8 p_x)] ⟨rfl, trivial⟩ (Zo (Za (GL.nil (Zo (Zm (Zm (Zi (.bool ((p_x : Int) != p_x)) (Za (GL.nil ?_))))))))))
 exact GC.ret (fun _ _ hf hs => post_tmp1 rfl rfl hf hs ⟨((p_x : Int) != p_x), rfl, h⟩)
def sh_strings_HasPrefix (C : Ctx) (p_s : Str) (p_prefix : Str) (K : Bool → Heap → Prop) (H : Heap) : Prop :=
 c_internal_stringslite_HasPrefix C p_s p_prefix (fun r1 H2 =>
 K r1 H2) H
theorem ad_strings_HasPrefix (C : Ctx) (p_s : Str) (p_prefix : Str) (K : Bool → Heap → Prop) (H : Heap) (h : sh_strings_HasPrefix C p_s p_prefix K H) : c_strings_HasPrefix C p_s p_prefix K H := by
 refine Spec.enter Tryz.func86 rfl Tryz.ntmps86 rfl (GC.sub [(0, sv p_s), (1, sv p_prefix)] ⟨rfl, rfl, trivial⟩ (Zo (Za (GL.nil (Zo (Zm (Zm (Zc h ok_internal_stringslite_HasPrefix ?_))))))))
 rintro _ H2 ⟨r1, rfl, h⟩
 refine Za (GL.nil ?_)
 exact GC.ret (fun _ _ hf hs => post_tmp1 rfl rfl hf hs ⟨r1, rfl, h⟩)
def sh_cmp_Compare_int (C : Ctx) (p_x : Int) (p_y : Int) (K : Int → Heap → Prop) (H : Heap) : Prop :=
 c_cmp_isNaN_int C p_x (fun r1 H2 =>
 c_cmp_isNaN_int C p_y (fun r3 H4 =>
 ift r1
 (ift r3
 (K 0 H4)
 (K (-1) H4))
 (ift r3
 (K 1 H4)
 (ift (decide ((p_x : Int) < p_y))
 (K (-1) H4)
 (ift (decide ((p_x : Int) > p_y))
 (K 1 H4)
 (K 0 H4))))) H2) H
theorem ad_cmp_Compare_int (C : Ctx) (p_x : Int) (p_y : Int) (K : Int → Heap → Prop) (H : Heap) (h : sh_cmp_Compare_int C p_x p_y K H) : c_cmp_Compare_int C p_x p_y K H := by
 refine Spec.enter Tryz.func87 rfl Tryz.ntmps87 rfl (GC.sub [(0, .int .i64 p_x), (1, .int .i64 p_y)] ⟨rfl, rfl, trivial⟩ (Zo (Za (GL.nil (Zo (Zm (Zc h ok_cmp_isNaN_int ?_)))))))
 rintro _ H2 ⟨r1, rfl, h⟩
 refine Za (GL.nil (Zo (Zm (Zc h ok_cmp_isNaN_int ?_))))
 rintro _ H4 ⟨r3, rfl, h⟩
 refine Za (GL.nil (GC.seq (Zo (Zm (GL.nil ?_)))))
 refine Zd (fun hc5 => ?_) fun hc5 => ?_
 replace h := h.1 hc5
 refine GC.seq (Zo (Zm (GL.nil ?_)))
 refine Zd (fun hc6 => ?_) fun hc6 => ?_
 replace h := h.1 hc6
 refine Zo (Za (GL.nil ?_))
 exact GC.ret (fun _ _ hf hs => post_tmp1 rfl rfl hf hs ⟨0, rfl, h⟩)
 replace h := h.2 hc6
 refine GC.skip (Zo (Za (GL.nil ?_)))
 exact GC.ret (fun _ _ hf hs => post_tmp1 rfl rfl hf hs ⟨(-1), rfl, h⟩)
 replace h := h.2 hc5
 refine GC.skip (GC.seq (Zo (Zm (GL.nil ?_))))
 refine Zd (fun hc7 => ?_) fun hc7 => ?_
 replace h := h.1 hc7
 refine Zo (Za (GL.nil ?_))
 exact GC.ret (fun _ _ hf hs => post_tmp1 rfl rfl hf hs ⟨1, rfl, h⟩)
 replace h := h.2 hc7
 refine GC.skip (GC.seq (Zo (Zm (Zm (Zi (.bool (decide ((p_x : Int) < p_y))) (GL.nil ?_))))))
 refine Zd (fun hc8 => ?_) fun hc8 => ?_
 replace h := h.1 hc8
 refine Zo (Za (GL.nil ?_))
 exact GC.ret (fun _ _ hf hs => post_tmp1 rfl rfl hf hs ⟨(-1), rfl, h⟩)
 replace h := h.2 hc8
 refine GC.skip (GC.seq (Zo (Zm (Zm (Zi (.bool (decide ((p_x : Int) > p_y))) (GL.nil ?_))))))
 refine Zd (fun hc9 => ?_) fun hc9 => ?_
 replace h := h.1 hc9
 refine Zo (Za (GL.nil ?_))
 exact GC.ret (fun _ _ hf hs => post_tmp1 rfl rfl hf hs ⟨1, rfl, h⟩)
 replace h := h.2 hc9
 refine GC.skip (Zo (Za (GL.nil ?_)))
 exact GC.ret (fun _ _ hf hs => post_tmp1 rfl rfl hf hs ⟨0, rfl, h⟩)
def sh_cmp_isNaN_string (C : Ctx) (p_x : Str) (K : Bool → Heap → Prop) (H : Heap) : Prop :=
 K (!(p_x == p_x)) H
theorem ad_cmp_isNaN_string (C : Ctx) (p_x : Str) (K : Bool → Heap → Prop) (H : Heap) (h : sh_cmp_isNaN_string C p_x K H) : c_cmp_isNaN_string C p_x K H := by
 refine Spec.enter Tryz.func88 rfl Tryz.ntmps88 rfl (GC.sub [(0, sv p_x)] ⟨rfl, trivial⟩ (Zo (Za (GL.nil (Zo (Zm (Zm (Zv (OV.sbin (a := p_x) (b := p_x) (v := .bool (!(p_x == p_x))) rfl rfl rfl) (Za (GL.nil ?_))))))))))
 exact GC.ret (fun _ _ hf hs => post_tmp1 rfl rfl hf hs ⟨(!(p_x == p_x)), rfl, h⟩)
def sh_cmp_isNaN_int64 (C : Ctx) (p_x : Int) (K : Bool → Heap → Prop) (H : Heap) : Prop :=
 K ((p_x : Int) != p_x) H
theorem ad_cmp_isNaN_int64 (C : Ctx) (p_x : Int) (K : Bool → Heap → Prop) (H : Heap) (h : sh_cmp_isNaN_int64 C p_x K H) : c_cmp_isNaN_int64 C p_x K H := by
 refine Spec.enter Tryz.func89 rfl Tryz.ntmps89 rfl (GC.sub [(0, .int .i64 p_x)] ⟨rfl, trivial⟩ (Zo (Za (GL.nil (Zo (Zm (Zm (Zi (.bool ((p_x : Int) != p_x)) (Za (GL.nil ?_))))))))))
 exact GC.ret (fun _ _ hf hs => post_tmp1 rfl rfl hf hs ⟨((p_x : Int) != p_x), rfl, h⟩)
def sh_internal_stringslite_TrimPrefix (C : Ctx) (p_s : Str) (p_prefix : Str) (K : Str → Heap → Prop) (H : Heap) : Prop :=
 c_internal_stringslite_HasPrefix C p_s p_prefix (fun r1 H2 =>
 ift r1
 (slS p_s (List.length p_prefix : Int) (List.length p_s : Int) fun t4 =>
 K t4 H2)
 (K p_s H2)) H
theorem ad_internal_stringslite_TrimPrefix (C : Ctx) (p_s : Str) (p_prefix : Str) (K : Str → Heap → Prop) (H : Heap) (h : sh_internal_stringslite_TrimPrefix C p_s p_prefix K H) : c_internal_stringslite_TrimPrefix C p_s p_prefix K H := by
 refine Spec.enter Tryz.func90 rfl Tryz.ntmps90 rfl (GC.sub [(0, sv p_s), (1, sv p_prefix)] ⟨rfl, rfl, trivial⟩ (Zo (Za (GL.nil (GC.seq (Zo (Zm (Zm (Zc h ok_internal_stringslite_HasPrefix ?_)))))))))
 rintro _ H2 ⟨r1, rfl, h⟩
 refine GL.nil ?_
 refine Zd (fun hc3 => ?_) fun hc3 => ?_
 replace h := h.1 hc3
 refine Zo (Zm (Zm (Zr ?_)))
 obtain ⟨h5, h6, h7, t4, h8, h⟩ := h
 refine Zv (OV.sliceStr (s := p_s) h5 h6 h7 h8 rfl rfl rfl rfl rfl rfl) (Za (GL.nil ?_))
 exact GC.ret (fun _ _ hf hs => post_tmp1 rfl rfl hf hs ⟨t4, rfl, h⟩)
 replace h := h.2 hc3
 refine GC.skip (Zo (Zm (Za (GL.nil ?_))))
 exact GC.ret (fun _ _ hf hs => post_tmp1 rfl rfl hf hs ⟨p_s, rfl, h⟩)
def sh_strings_makeASCIISet (C : Ctx) (p_chars : Str) (K : List Value → Bool → Heap → Prop) (H : Heap) : Prop :=
 nw ((List.replicate 256 (.bool false : Value))) (fun b1 H2 =>
 lp (α := Int) 0 H2 (fun x3 J4 H5 =>
 ift (decide ((x3 : Int) < (List.length p_chars : Int)))
 (ixs p_chars x3 fun c7 =>
 ift (decide (((c7.toNat : Int) : Int) ≥ 128))
 (ldC H5 256 (b1, 0) fun x11 =>
 stC 256 (b1, 0) x11 (fun H14 =>
 ldC H14 256 (b1, 0) fun x17 =>
 K x17 false H14) H5)
 (ixr (b1, 0) 256 (c7.toNat : Int) <|
 st ((b1, 0).1, (b1, 0).2 + ((c7.toNat : Int) : Int).toNat * 1) (.bool true) (fun H22 =>
 J4 (w .i64 (x3 + 1)) H22) H5))
 (ldC H5 256 (b1, 0) fun x23 =>
 stC 256 (b1, 0) x23 (fun H26 =>
 ldC H26 256 (b1, 0) fun x29 =>
 K x29 true H26) H5))) H
theorem ad_strings_makeASCIISet (C : Ctx) (p_chars : Str) (K : List Value → Bool → Heap → Prop) (H : Heap) (h : sh_strings_makeASCIISet C p_chars K H) : c_strings_makeASCIISet C p_chars K H := by
 refine Spec.enter Tryz.func93 rfl Tryz.ntmps93 rfl (GC.sub [(0, sv p_chars)] ⟨rfl, trivial⟩ (Zo (GL.alloc (cs := (List.replicate 256 (.bool false : Value))) h trivial rfl rfl rfl ?_)))
 intro b1 H2 h
 refine Za (GL.nil (GC.seq (Zo (Za (GL.nil (GC.block (GC.loop (α := Int) h (fun x3 => [(4, .int .i64 x3), (0, sv p_chars), (2, pv (some (b1, 0)))]) ⟨rfl, rfl, rfl, trivial⟩ ?_)))))))
 intro x3 H5 J4 h
 refine GC.seq (Zo (Zm (Zm (Zr (Zi (.bool (decide ((x3 : Int) < (List.length p_chars : Int)))) (GL.nil ?_))))))
 refine Zd (fun hc6 => ?_) fun hc6 => ?_
 replace h := h.1 hc6
 refine GC.skip (GC.seq (GC.block (Zo (Zm (Zm ?_)))))
 obtain ⟨c7, ha8, hb9, h⟩ := h
 refine Zs ha8 hb9 (Za (GL.nil (GC.seq (Zo (Zm (Zi (.bool (decide (((c7.toNat : Int) : Int) ≥ 128))) (GL.nil ?_)))))))
 refine Zd (fun hc10 => ?_) fun hc10 => ?_
 replace h := h.1 hc10
 refine Zo ?_
 obtain ⟨x11, hl13, hr12, h⟩ := h
 refine Zv (OV.loadT (p := (b1, 0)) (cs := x11) rfl rfl (by rw [hl13]; rfl) hr12) ?_
 obtain ⟨hl15, h116, h⟩ := h
 refine GL.storeT (p := (b1, 0)) (vs := x11) h trivial rfl rfl h116 (by rw [hl15]; rfl) ?_
 intro H14 h
 refine Za (GL.nil ?_)
 obtain ⟨x17, hl19, hr18, h⟩ := h
 exact GC.ret (fun _ _ hf hs => post_res2 rfl (RV.cellT (p := (b1, 0)) (cs := x17) rfl rfl (by rw [hl19]; rfl) hr18) (RV.tmp rfl) hf hs ⟨x17, false, rfl, h⟩)
 replace h := h.2 hc10
 refine GC.skip (GC.region (Zm ?_))
 obtain ⟨ha20, hb21, h⟩ := h
 refine Zv (OV.indexAddrA (p := (b1, 0)) rfl rfl rfl rfl ha20 hb21) (GL.store (p := ((b1, 0).1, (b1, 0).2 + ((c7.toNat : Int) : Int).toNat * 1)) (v := .bool true) h trivial rfl rfl rfl rfl ?_)
 intro H22 h
 refine GL.nil_to (fun _ _ h => h) (GC.region (Zm (Zi (.int .i64 (w .i64 (x3 + 1))) (Za ?_))))
 exact GL.jump (fun _ _ h => h) (w .i64 (x3 + 1)) h ⟨rfl, rfl, rfl, trivial⟩
 replace h := h.2 hc6
 refine GC.exit_to (fun _ _ h => h) (Zo ?_)
 obtain ⟨x23, hl25, hr24, h⟩ := h
 refine Zv (OV.loadT (p := (b1, 0)) (cs := x23) rfl rfl (by rw [hl25]; rfl) hr24) ?_
 obtain ⟨hl27, h128, h⟩ := h
 refine GL.storeT (p := (b1, 0)) (vs := x23) h trivial rfl rfl h128 (by rw [hl27]; rfl) ?_
 intro H26 h
 refine Za (GL.nil ?_)
 obtain ⟨x29, hl31, hr30, h⟩ := h
 exact GC.ret (fun _ _ hf hs => post_res2 rfl (RV.cellT (p := (b1, 0)) (cs := x29) rfl rfl (by rw [hl31]; rfl) hr30) (RV.tmp rfl) hf hs ⟨x29, true, rfl, h⟩)
def sh_strings_trimLeftASCII (C : Ctx) (p_s : Str) (p_as : Option (Nat × Nat)) (K : Str → Heap → Prop) (H : Heap) : Prop :=
 jn (α := Str) (fun x2 H3 =>
 K x2 H3)
 (fun J1 => lp (α := Str) p_s H (fun x5 J6 H7 =>
 ift (decide (((List.length x5 : Int) : Int) > 0))
 (ixs x5 0 fun c9 =>
 c_strings_asciiSet_contains C p_as (c9.toNat : Int) (fun r12 H13 =>
 ift (!r12)
 (J1 x5 H13)
 (slS x5 1 (List.length x5 : Int) fun t15 =>
 J6 t15 H13)) H7)
 (J1 x5 H7)))
theorem ad_strings_trimLeftASCII (C : Ctx) (p_s : Str) (p_as : Option (Nat × Nat)) (K : Str → Heap → Prop) (H : Heap) (h : sh_strings_trimLeftASCII C p_s p_as K H) : c_strings_trimLeftASCII C p_s p_as K H := by
 refine Spec.enter Tryz.func94 rfl Tryz.ntmps94 rfl (GC.sub [(0, sv p_s), (1, pv p_as)] ⟨rfl, rfl, trivial⟩ (Zo (Za (GL.nil ?_))))
 obtain ⟨J1, h, hR4⟩ := h
 refine GC.join (α := Str) J1 (fun x2 => [(0, sv x2)]) ?_ ?_
 refine GC.block (GC.loop (α := Str) h (fun x5 => [(0, sv x5), (1, pv p_as)]) ⟨rfl, rfl, trivial⟩ ?_)
 intro x5 H7 J6 h
 refine GC.seq (Zo (Zm (Zr (Zi (.bool (decide (((List.length x5 : Int) : Int) > 0))) (GL.nil ?_)))))
 refine Zd (fun hc8 => ?_) fun hc8 => ?_
 replace h := h.1 hc8
 refine GC.skip (GC.block (GC.seq (Zo (Zm (Zm ?_)))))
 obtain ⟨c9, ha10, hb11, h⟩ := h
 refine Zs ha10 hb11 (Zc h ok_strings_asciiSet_contains ?_)
 rintro _ H13 ⟨r12, rfl, h⟩
 refine Zv (OV.not rfl) (GL.nil ?_)
 refine Zd (fun hc14 => ?_) fun hc14 => ?_
 replace h := h.1 hc14
 exact GC.exit_jump (fun _ _ h => h) x5 h ⟨rfl, trivial⟩
 replace h := h.2 hc14
 refine GC.skip (GC.region (Zm ?_))
 obtain ⟨h16, h17, h18, t15, h19, h⟩ := h
 refine Zv (OV.sliceStr (s := x5) h16 h17 h18 h19 rfl rfl rfl rfl rfl rfl) (Za ?_)
 exact GL.jump (fun _ _ h => h) t15 h ⟨rfl, rfl, trivial⟩
 replace h := h.2 hc8
 exact GC.exit_jump (fun _ _ h => h) x5 h ⟨rfl, trivial⟩
 intro x2 H3 h
 replace h := hR4 x2 H3 h
 refine Zo (Zm (Za (GL.nil ?_)))
 exact GC.ret (fun _ _ hf hs => post_tmp1 rfl rfl hf hs ⟨x2, rfl, h⟩)
def sh_strings_trimRightASCII (C : Ctx) (p_s : Str) (p_as : Option (Nat × Nat)) (K : Str → Heap → Prop) (H : Heap) : Prop :=
 jn (α := Str) (fun x2 H3 =>
 K x2 H3)
 (fun J1 => lp (α := Str) p_s H (fun x5 J6 H7 =>
 ift (decide (((List.length x5 : Int) : Int) > 0))
 (ixs x5 (w .i64 ((List.length x5 : Int) - 1)) fun c9 =>
 c_strings_asciiSet_contains C p_as (c9.toNat : Int) (fun r12 H13 =>
 ift (!r12)
 (J1 x5 H13)
 (slS x5 0 (w .i64 ((List.length x5 : Int) - 1)) fun t15 =>
 J6 t15 H13)) H7)
 (J1 x5 H7)))
theorem ad_strings_trimRightASCII (C : Ctx) (p_s : Str) (p_as : Option (Nat × Nat)) (K : Str → Heap → Prop) (H : Heap) (h : sh_strings_trimRightASCII C p_s p_as K H) : c_strings_trimRightASCII C p_s p_as K H := by
 refine Spec.enter Tryz.func95 rfl Tryz.ntmps95 rfl (GC.sub [(0, sv p_s), (1, pv p_as)] ⟨rfl, rfl, trivial⟩ (Zo (Za (GL.nil ?_))))
 obtain ⟨J1, h, hR4⟩ := h
 refine GC.join (α := Str) J1 (fun x2 => [(0, sv x2)]) ?_ ?_
 refine GC.block (GC.loop (α := Str) h (fun x5 => [(0, sv x5), (1, pv p_as)]) ⟨rfl, rfl, trivial⟩ ?_)
 intro x5 H7 J6 h
 refine GC.seq (Zo (Zm (Zr (Zi (.bool (decide (((List.length x5 : Int) : Int) > 0))) (GL.nil ?_)))))
 refine Zd (fun hc8 => ?_) fun hc8 => ?_
 replace h := h.1 hc8
 refine GC.skip (GC.block (GC.seq (Zo (Zm (Zm (Zm (Zr (Zi (.int .i64 (w .i64 ((List.length x5 : Int) - 1))) ?_))))))))
 obtain ⟨c9, ha10, hb11, h⟩ := h
 refine Zs ha10 hb11 (Zc h ok_strings_asciiSet_contains ?_)
 rintro _ H13 ⟨r12, rfl, h⟩
 refine Zv (OV.not rfl) (GL.nil ?_)
 refine Zd (fun hc14 => ?_) fun hc14 => ?_
 replace h := h.1 hc14
 exact GC.exit_jump (fun _ _ h => h) x5 h ⟨rfl, trivial⟩
 replace h := h.2 hc14
 refine GC.skip (GC.region (Zm (Zm (Zr (Zi (.int .i64 (w .i64 ((List.length x5 : Int) - 1))) ?_)))))
 obtain ⟨h16, h17, h18, t15, h19, h⟩ := h
 refine Zv (OV.sliceStr (s := x5) h16 h17 h18 h19 rfl rfl rfl rfl rfl rfl) (Za ?_)
 exact GL.jump (fun _ _ h => h) t15 h ⟨rfl, rfl, trivial⟩
 replace h := h.2 hc8
 exact GC.exit_jump (fun _ _ h => h) x5 h ⟨rfl, trivial⟩
 intro x2 H3 h
 replace h := hR4 x2 H3 h
 refine Zo (Zm (Za (GL.nil ?_)))
 exact GC.ret (fun _ _ hf hs => post_tmp1 rfl rfl hf hs ⟨x2, rfl, h⟩)
def sh_internal_stringslite_Index (C : Ctx) (p_s : Str) (p_substr : Str) (K : Int → Heap → Prop) (H : Heap) : Prop :=
 ift ((((List.length p_substr : Int) : Int) == 0) || (p_substr == p_s))
 (K 0 H)
 (ift (((List.length p_substr : Int) : Int) == 1)
 (ixs p_substr 0 fun c4 =>
 c_internal_stringslite_IndexByte C p_s (c4.toNat : Int) (fun r7 H8 =>
 K r7 H8) H)
 (ift (decide (((List.length p_substr : Int) : Int) ≥ (List.length p_s : Int)))
 (K (-1) H)
 (ldI H .i64 (0, 0) fun x10 =>
 ift ((decide (((List.length p_substr : Int) : Int) ≤ x10)) && (decide (((List.length p_s : Int) : Int) ≤ 64)))
 (False)
 (ixs p_substr 0 fun c14 =>
 ixs p_substr 1 fun c17 =>
 lp (α := Int × Int) (0, 0) H (fun x20 J21 H22 =>
 ift (decide ((x20.1 : Int) < (w .i64 ((w .i64 ((List.length p_s : Int) - (List.length p_substr : Int))) + 1))))
 (jn (α := Int) (fun x25 H26 =>
 ixs p_s (w .i64 (x25 + 1)) fun c41 =>
 jn (α := Bool) (fun b44 H54 =>
 ift b44
 (K x25 H54)
 (ldI H54 .i64 (0, 0) fun x56 =>
 jn (α := Bool) (fun b58 H64 =>
 ift b58
 (False)
 (ldI H64 .i64 (0, 0) fun x72 =>
 ift (((decide (((List.length p_substr : Int) : Int) > x72)) && (decide (((w .i64 (x20.2 + 1)) : Int) ≥ (w .i64 (4 + (sShr .i64 (w .i64 (x25 + 1)) 4)))))) && (decide (((w .i64 (x25 + 1)) : Int) < (w .i64 ((w .i64 ((List.length p_s : Int) - (List.length p_substr : Int))) + 1)))))
 (slS p_s (w .i64 (x25 + 1)) (List.length p_s : Int) fun t77 =>
 c_internal_bytealg_IndexRabinKarp_string C t77 p_substr (fun r83 H84 =>
 ift (decide ((r83 : Int) < 0))
 (K (-1) H84)
 (K (w .i64 ((w .i64 (x25 + 1)) + r83)) H84)) H64)
 (J21 ((w .i64 (x25 + 1)), (w .i64 (x20.2 + 1))) H64)))
 (fun J59 => ift (decide (((List.length p_substr : Int) : Int) ≤ x56))
 (c_internal_bytealg_Cutover C (w .i64 (x25 + 1)) (fun r62 H63 =>
 J59 (decide (((w .i64 (x20.2 + 1)) : Int) > r62)) H63) H54)
 (J59 false H54))))
 (fun J45 => ift (((c41.toNat : Int) : Int) == (c17.toNat : Int))
 (slS p_s x25 (w .i64 (x25 + (List.length p_substr : Int))) fun t48 =>
 J45 (t48 == p_substr) H26)
 (J45 false H26)))
 (fun J24 => ixs p_s x20.1 fun c28 =>
 ift (((c28.toNat : Int) : Int) != (c14.toNat : Int))
 (slS p_s (w .i64 (x20.1 + 1)) (w .i64 ((w .i64 ((List.length p_s : Int) - (List.length p_substr : Int))) + 1)) fun t32 =>
 c_internal_stringslite_IndexByte C t32 (c14.toNat : Int) (fun r38 H39 =>
 ift (decide ((r38 : Int) < 0))
 (K (-1) H39)
 (J24 (w .i64 (x20.1 + (w .i64 (r38 + 1)))) H39)) H22)
 (J24 x20.1 H22)))
 (K (-1) H22))))))
theorem ad_internal_stringslite_Index (C : Ctx) (p_s : Str) (p_substr : Str) (K : Int → Heap → Prop) (H : Heap) (h : sh_internal_stringslite_Index C p_s p_substr K H) : c_internal_stringslite_Index C p_s p_substr K H := by
 refine Spec.enter Tryz.func98 rfl Tryz.ntmps98 rfl (GC.sub [(0, sv p_s), (1, sv p_substr)] ⟨rfl, rfl, trivial⟩ (Zo (Za (GL.nil (Zo (Zm (Zr (Za (GL.nil (GC.seq (GC.block ?_)))))))))))
 refine Zo (Zm (Zi (.bool (((List.length p_substr : Int) : Int) == 0)) (Zm ?_)))
 refine GL.cut0 4 [(23, .bool ((((List.length p_substr : Int) : Int) == 0) || (p_substr == p_s))), (0, sv p_s), (1, sv p_substr), (5, .int .i64 (List.length p_substr : Int))] ?_ ?_
 rcases Zb (((List.length p_substr : Int) : Int) == 0) with hc1 | hc1
 refine Zk hc1 (Zk hc1 (Zk hc1 (Zt hc1 ?_)))
 exact GL.jump0 (fun _ _ h => h) () rfl ⟨(by rw [hc1]; rfl), rfl, rfl, rfl, trivial⟩
 refine Zu hc1 (OV.move rfl) (Zu hc1 (OV.move rfl) (Zu hc1 (OV.sbin (a := p_substr) (b := p_s) (v := .bool (p_substr == p_s)) rfl rfl rfl) (Zn hc1 ?_)))
 exact GL.jump0 (fun _ _ h => h) () rfl ⟨(by rw [hc1]; rfl), rfl, rfl, rfl, trivial⟩
 refine Za (GL.nil ?_)
 refine Zd (fun hc2 => ?_) fun hc2 => ?_
 replace h := h.1 hc2
 refine Zo (Za (GL.nil ?_))
 exact GC.ret (fun _ _ hf hs => post_tmp1 rfl rfl hf hs ⟨0, rfl, h⟩)
 replace h := h.2 hc2
 refine Zo (Zm (Zi (.bool (((List.length p_substr : Int) : Int) == 1)) (Za (GL.nil ?_))))
 refine Zd (fun hc3 => ?_) fun hc3 => ?_
 replace h := h.1 hc3
 refine Zo (Zm (Zm ?_))
 obtain ⟨c4, ha5, hb6, h⟩ := h
 refine Zs ha5 hb6 (Zc h ok_internal_stringslite_IndexByte ?_)
 rintro _ H8 ⟨r7, rfl, h⟩
 refine Za (GL.nil ?_)
 exact GC.ret (fun _ _ hf hs => post_tmp1 rfl rfl hf hs ⟨r7, rfl, h⟩)
 replace h := h.2 hc3
 refine Zo (Zm (Zm (Zr (Zi (.bool (decide (((List.length p_substr : Int) : Int) ≥ (List.length p_s : Int)))) (Za (GL.nil ?_))))))
 refine Zd (fun hc9 => ?_) fun hc9 => ?_
 replace h := h.1 hc9
 refine Zo (Za (GL.nil ?_))
 exact GC.ret (fun _ _ hf hs => post_tmp1 rfl rfl hf hs ⟨(-1), rfl, h⟩)
 replace h := h.2 hc9
 refine Zo (Zm ?_)
 obtain ⟨x10, hr11, h⟩ := h
 refine Zl hr11 (Zi (.bool (decide (((List.length p_substr : Int) : Int) ≤ x10))) (Zm ?_))
 refine GL.cut0 4 [(44, .bool ((decide (((List.length p_substr : Int) : Int) ≤ x10)) && (decide (((List.length p_s : Int) : Int) ≤ 64)))), (0, sv p_s), (1, sv p_substr), (5, .int .i64 (List.length p_substr : Int))] ?_ ?_
 rcases Zb (decide (((List.length p_substr : Int) : Int) ≤ x10)) with hc12 | hc12
 refine Zu hc12 (OV.move rfl) (Zu hc12 (OV.lenStr rfl rfl) (Zu hc12 (OV.ibin (v := .bool (decide (((List.length p_s : Int) : Int) ≤ 64))) rfl rfl rfl) (Zt hc12 ?_)))
 exact GL.jump0 (fun _ _ h => h) () rfl ⟨(by rw [hc12]; rfl), rfl, rfl, rfl, trivial⟩
 refine Zk hc12 (Zk hc12 (Zk hc12 (Zn hc12 ?_)))
 exact GL.jump0 (fun _ _ h => h) () rfl ⟨(by rw [hc12]; rfl), rfl, rfl, rfl, trivial⟩
 refine Za (GL.nil ?_)
 refine Zd (fun hc13 => ?_) fun hc13 => ?_
 replace h := h.1 hc13
 refine GC.seq ?_
 exact GC.never h
 replace h := h.2 hc13
 refine GC.skip_to (fun _ _ h => h) (Zo (Zm ?_))
 obtain ⟨c14, ha15, hb16, h⟩ := h
 refine Zs ha15 hb16 (Za (GL.nil (Zo (Zm ?_))))
 obtain ⟨c17, ha18, hb19, h⟩ := h
 refine Zs ha18 hb19 (Za (GL.nil (Zo (Za (GL.nil (Zo (Zm (Zr (Zm (Zi (.int .i64 (w .i64 ((List.length p_s : Int) - (List.length p_substr : Int)))) (Zi (.int .i64 (w .i64 ((w .i64 ((List.length p_s : Int) - (List.length p_substr : Int))) + 1))) ?_)))))))))))
 refine Za (GL.nil (Zo (Za (GL.nil (GC.seq (GC.block (GC.loop (α := Int × Int) h (fun x20 => [(8, .int .i64 x20.1), (10, .int .i64 x20.2), (0, sv p_s), (1, sv p_substr), (5, .int .i64 (List.length p_substr : Int)), (6, .int .u8 (c14.toNat : Int)), (7, .int .u8 (c17.toNat : Int)), (9, .int .i64 (w .i64 ((w .i64 ((List.length p_s : Int) - (List.length p_substr : Int))) + 1)))]) ⟨rfl, rfl, rfl, rfl, rfl, rfl, rfl, rfl, trivial⟩ ?_)))))))
 intro x20 H22 J21 h
 refine GC.seq (Zo (Zm (Zm (Zi (.bool (decide ((x20.1 : Int) < (w .i64 ((w .i64 ((List.length p_s : Int) - (List.length p_substr : Int))) + 1))))) (GL.nil ?_)))))
 refine Zd (fun hc23 => ?_) fun hc23 => ?_
 replace h := h.1 hc23
 refine GC.skip (GC.block ?_)
 obtain ⟨J24, h, hR27⟩ := h
 refine GC.join (α := Int) J24 (fun x25 => [(8, .int .i64 x25), (0, sv p_s), (1, sv p_substr), (5, .int .i64 (List.length p_substr : Int)), (6, .int .u8 (c14.toNat : Int)), (7, .int .u8 (c17.toNat : Int)), (9, .int .i64 (w .i64 ((w .i64 ((List.length p_s : Int) - (List.length p_substr : Int))) + 1))), (10, .int .i64 x20.2)]) ?_ ?_
 refine Zo (Zm (Zm ?_))
 obtain ⟨c28, ha29, hb30, h⟩ := h
 refine Zs ha29 hb30 (Zm (Zi (.bool (((c28.toNat : Int) : Int) != (c14.toNat : Int))) (GL.nil ?_)))
 refine Zd (fun hc31 => ?_) fun hc31 => ?_
 replace h := h.1 hc31
 refine Zo (Zm (Zm (Zi (.int .i64 (w .i64 (x20.1 + 1))) (Zm ?_))))
 obtain ⟨h33, h34, h35, t32, h36, h⟩ := h
 refine Zv (OV.sliceStr (s := p_s) h33 h34 h35 h36 rfl rfl rfl rfl rfl rfl) (Zm (Zc h ok_internal_stringslite_IndexByte ?_))
 rintro _ H39 ⟨r38, rfl, h⟩
 refine Za (GL.nil (GC.seq (Zo (Zm (Zi (.bool (decide ((r38 : Int) < 0))) (GL.nil ?_))))))
 refine Zd (fun hc40 => ?_) fun hc40 => ?_
 replace h := h.1 hc40
 refine Zo (Za (GL.nil ?_))
 exact GC.ret (fun _ _ hf hs => post_tmp1 rfl rfl hf hs ⟨(-1), rfl, h⟩)
 replace h := h.2 hc40
 refine GC.skip (GC.region (Zm (Zm (Zi (.int .i64 (w .i64 (r38 + 1))) (Zi (.int .i64 (w .i64 (x20.1 + (w .i64 (r38 + 1))))) (Za ?_))))))
 exact GL.jump (fun _ _ h => h) (w .i64 (x20.1 + (w .i64 (r38 + 1)))) h ⟨rfl, rfl, rfl, rfl, rfl, rfl, rfl, rfl, trivial⟩
 replace h := h.2 hc31
 exact GC.jump (fun _ _ h => h) x20.1 h ⟨rfl, rfl, rfl, rfl, rfl, rfl, rfl, rfl, trivial⟩
 intro x25 H26 h
 replace h := hR27 x25 H26 h
 refine GC.seq (Zo (Zm (Zm (Zi (.int .i64 (w .i64 (x25 + 1))) ?_))))
 obtain ⟨c41, ha42, hb43, h⟩ := h
 refine Zs ha42 hb43 (Zm (Zi (.bool (((c41.toNat : Int) : Int) == (c17.toNat : Int))) (Zm ?_)))
 obtain ⟨J45, h, hR46⟩ := h
 refine GL.cut (α := Bool) 9 J45 (fun b44 => [(93, .bool b44), (0, sv p_s), (1, sv p_substr), (5, .int .i64 (List.length p_substr : Int)), (6, .int .u8 (c14.toNat : Int)), (7, .int .u8 (c17.toNat : Int)), (8, .int .i64 x25), (9, .int .i64 (w .i64 ((w .i64 ((List.length p_s : Int) - (List.length p_substr : Int))) + 1))), (10, .int .i64 x20.2)]) ?_ ?_
 rcases Zb (((c41.toNat : Int) : Int) == (c17.toNat : Int)) with hc47 | hc47
 replace h := h.1 hc47
 refine Zu hc47 (OV.move rfl) (Zu hc47 (OV.move rfl) (Zu hc47 (OV.move rfl) (Zu hc47 (OV.move rfl) (Zu hc47 (OV.ibin (v := .int .i64 (w .i64 (x25 + (List.length p_substr : Int)))) rfl rfl rfl) ?_))))
 obtain ⟨h49, h50, h51, t48, h52, h⟩ := h
 refine Zu hc47 (OV.sliceStr (s := p_s) h49 h50 h51 h52 rfl rfl rfl rfl rfl rfl) (Zu hc47 (OV.move rfl) (Zu hc47 (OV.sbin (a := t48) (b := p_substr) (v := .bool (t48 == p_substr)) rfl rfl rfl) (Zt hc47 ?_)))
 exact GL.jump (fun _ _ h => h) (t48 == p_substr) h ⟨rfl, rfl, rfl, rfl, rfl, rfl, rfl, rfl, rfl, trivial⟩
 replace h := h.2 hc47
 refine Zk hc47 (Zk hc47 (Zk hc47 (Zk hc47 (Zk hc47 (Zk hc47 (Zk hc47 (Zk hc47 (Zn hc47 ?_))))))))
 exact GL.jump (fun _ _ h => h) false h ⟨rfl, rfl, rfl, rfl, rfl, rfl, rfl, rfl, rfl, trivial⟩
 intro b44 H54 h
 replace h := hR46 b44 H54 h
 refine GL.nil ?_
 refine Zd (fun hc55 => ?_) fun hc55 => ?_
 replace h := h.1 hc55
 refine Zo (Zm (Za (GL.nil ?_)))
 exact GC.ret (fun _ _ hf hs => post_tmp1 rfl rfl hf hs ⟨x25, rfl, h⟩)
 replace h := h.2 hc55
 refine GC.skip (Zo (Zm (Zi (.int .i64 (w .i64 (x25 + 1))) (Za (GL.nil (Zo (Zm (Zi (.int .i64 (w .i64 (x20.2 + 1))) (Za (GL.nil (Zo ?_)))))))))))
 refine Zm ?_
 obtain ⟨x56, hr57, h⟩ := h
 refine Zl hr57 (Zi (.bool (decide (((List.length p_substr : Int) : Int) ≤ x56))) (Zm ?_))
 obtain ⟨J59, h, hR60⟩ := h
 refine GL.cut (α := Bool) 5 J59 (fun b58 => [(107, .bool b58), (0, sv p_s), (1, sv p_substr), (5, .int .i64 (List.length p_substr : Int)), (6, .int .u8 (c14.toNat : Int)), (7, .int .u8 (c17.toNat : Int)), (8, .int .i64 (w .i64 (x25 + 1))), (9, .int .i64 (w .i64 ((w .i64 ((List.length p_s : Int) - (List.length p_substr : Int))) + 1))), (10, .int .i64 (w .i64 (x20.2 + 1)))]) ?_ ?_
 rcases Zb (decide (((List.length p_substr : Int) : Int) ≤ x56)) with hc61 | hc61
 replace h := h.1 hc61
 refine Zu hc61 (OV.move rfl) (Zu hc61 (OV.move rfl) (GL.call h ⟨_, _, rfl, rfl, hc61⟩ rfl ok_internal_bytealg_Cutover (vs := [.int .i64 (w .i64 (x25 + 1))]) rfl ?_))
 rintro _ H63 ⟨r62, rfl, h⟩
 refine Zu hc61 (OV.ibin (v := .bool (decide (((w .i64 (x20.2 + 1)) : Int) > r62))) rfl rfl rfl) (Zt hc61 ?_)
 exact GL.jump (fun _ _ h => h) (decide (((w .i64 (x20.2 + 1)) : Int) > r62)) h ⟨rfl, rfl, rfl, rfl, rfl, rfl, rfl, rfl, rfl, trivial⟩
 replace h := h.2 hc61
 refine Zk hc61 (Zk hc61 (Zk hc61 (Zk hc61 (Zn hc61 ?_))))
 exact GL.jump (fun _ _ h => h) false h ⟨rfl, rfl, rfl, rfl, rfl, rfl, rfl, rfl, rfl, trivial⟩
 intro b58 H64 h
 replace h := hR60 b58 H64 h
 refine GL.nil ?_
 refine Zd (fun hc65 => ?_) fun hc65 => ?_
 replace h := h.1 hc65
 refine GC.seq ?_
 exact GC.never h
 replace h := h.2 hc65
 refine Zo (Zm ?_)
 obtain ⟨x72, hr73, h⟩ := h
 refine Zl hr73 (Zi (.bool (decide (((List.length p_substr : Int) : Int) > x72))) (Zm ?_))
 refine GL.cut0 6 [(127, .bool ((decide (((List.length p_substr : Int) : Int) > x72)) && (decide (((w .i64 (x20.2 + 1)) : Int) ≥ (w .i64 (4 + (sShr .i64 (w .i64 (x25 + 1)) 4))))))), (0, sv p_s), (1, sv p_substr), (5, .int .i64 (List.length p_substr : Int)), (6, .int .u8 (c14.toNat : Int)), (7, .int .u8 (c17.toNat : Int)), (8, .int .i64 (w .i64 (x25 + 1))), (9, .int .i64 (w .i64 ((w .i64 ((List.length p_s : Int) - (List.length p_substr : Int))) + 1))), (10, .int .i64 (w .i64 (x20.2 + 1)))] ?_ ?_
 rcases Zb (decide (((List.length p_substr : Int) : Int) > x72)) with hc74 | hc74
 refine Zu hc74 (OV.move rfl) (Zu hc74 (OV.move rfl) (Zu hc74 (OV.shr rfl rfl (by decide)) (Zu hc74 (OV.ibin (v := .int .i64 (w .i64 (4 + (sShr .i64 (w .i64 (x25 + 1)) 4)))) rfl rfl rfl) (Zu hc74 (OV.ibin (v := .bool (decide (((w .i64 (x20.2 + 1)) : Int) ≥ (w .i64 (4 + (sShr .i64 (w .i64 (x25 + 1)) 4)))))) rfl rfl rfl) (Zt hc74 ?_)))))
 exact GL.jump0 (fun _ _ h => h) () rfl ⟨(by rw [hc74]; rfl), rfl, rfl, rfl, rfl, rfl, rfl, rfl, rfl, trivial⟩
 refine Zk hc74 (Zk hc74 (Zk hc74 (Zk hc74 (Zk hc74 (Zn hc74 ?_)))))
 exact GL.jump0 (fun _ _ h => h) () rfl ⟨(by rw [hc74]; rfl), rfl, rfl, rfl, rfl, rfl, rfl, rfl, rfl, trivial⟩
 refine Zm ?_
 refine GL.cut0 4 [(132, .bool (((decide (((List.length p_substr : Int) : Int) > x72)) && (decide (((w .i64 (x20.2 + 1)) : Int) ≥ (w .i64 (4 + (sShr .i64 (w .i64 (x25 + 1)) 4)))))) && (decide (((w .i64 (x25 + 1)) : Int) < (w .i64 ((w .i64 ((List.length p_s : Int) - (List.length p_substr : Int))) + 1)))))), (0, sv p_s), (1, sv p_substr), (5, .int .i64 (List.length p_substr : Int)), (6, .int .u8 (c14.toNat : Int)), (7, .int .u8 (c17.toNat : Int)), (8, .int .i64 (w .i64 (x25 + 1))), (9, .int .i64 (w .i64 ((w .i64 ((List.length p_s : Int) - (List.length p_substr : Int))) + 1))), (10, .int .i64 (w .i64 (x20.2 + 1)))] ?_ ?_
 rcases Zb ((decide (((List.length p_substr : Int) : Int) > x72)) && (decide (((w .i64 (x20.2 + 1)) : Int) ≥ (w .i64 (4 + (sShr .i64 (w .i64 (x25 + 1)) 4)))))) with hc75 | hc75
 refine Zu hc75 (OV.move rfl) (Zu hc75 (OV.move rfl) (Zu hc75 (OV.ibin (v := .bool (decide (((w .i64 (x25 + 1)) : Int) < (w .i64 ((w .i64 ((List.length p_s : Int) - (List.length p_substr : Int))) + 1))))) rfl rfl rfl) (Zt hc75 ?_)))
 exact GL.jump0 (fun _ _ h => h) () rfl ⟨(by rw [hc75]; rfl), rfl, rfl, rfl, rfl, rfl, rfl, rfl, rfl, trivial⟩
 refine Zk hc75 (Zk hc75 (Zk hc75 (Zn hc75 ?_)))
 exact GL.jump0 (fun _ _ h => h) () rfl ⟨(by rw [hc75]; rfl), rfl, rfl, rfl, rfl, rfl, rfl, rfl, rfl, trivial⟩
 refine GL.nil ?_
 refine Zd (fun hc76 => ?_) fun hc76 => ?_
 replace h := h.1 hc76
 refine Zo (Zm (Zm ?_))
 obtain ⟨h78, h79, h80, t77, h81, h⟩ := h
 refine Zv (OV.sliceStr (s := p_s) h78 h79 h80 h81 rfl rfl rfl rfl rfl rfl) (Zm (Zc h ok_internal_bytealg_IndexRabinKarp_string ?_))
 rintro _ H84 ⟨r83, rfl, h⟩
 refine Za (GL.nil (GC.seq (Zo (Zm (Zi (.bool (decide ((r83 : Int) < 0))) (GL.nil ?_))))))
 refine Zd (fun hc85 => ?_) fun hc85 => ?_
 replace h := h.1 hc85
 refine Zo (Za (GL.nil ?_))
 exact GC.ret (fun _ _ hf hs => post_tmp1 rfl rfl hf hs ⟨(-1), rfl, h⟩)
 replace h := h.2 hc85
 refine GC.skip (Zo (Zm (Zm (Zi (.int .i64 (w .i64 ((w .i64 (x25 + 1)) + r83))) (Za (GL.nil ?_))))))
 exact GC.ret (fun _ _ hf hs => post_tmp1 rfl rfl hf hs ⟨(w .i64 ((w .i64 (x25 + 1)) + r83)), rfl, h⟩)
 replace h := h.2 hc76
 exact GC.jump (fun _ _ h => h) ((w .i64 (x25 + 1)), (w .i64 (x20.2 + 1))) h ⟨rfl, rfl, rfl, rfl, rfl, rfl, rfl, rfl, trivial⟩
 replace h := h.2 hc23
 refine GC.exit_to (fun _ _ h => h) (Zo (Za (GL.nil ?_)))
 exact GC.ret (fun _ _ hf hs => post_tmp1 rfl rfl hf hs ⟨(-1), rfl, h⟩)
def sh_slices_rotateCmpFunc_zset_Entry (C : Ctx) (p_data : Sl) (p_a : Int) (p_m : Int) (p_b : Int) (p_cmp : Value) (K : Heap → Prop) (H : Heap) : Prop :=
 lp (α := Int × Int) ((w .i64 (p_m - p_a)), (w .i64 (p_b - p_m))) H (fun x1 J2 H3 =>
 ift ((x1.1 : Int) != x1.2)
 (ift (decide ((x1.1 : Int) > x1.2))
 (c_slices_swapRangeCmpFunc_zset_Entry C p_data (w .i64 (p_m - x1.1)) p_m x1.2 p_cmp (fun H6 =>
 J2 ((w .i64 (x1.1 - x1.2)), x1.2) H6) H3)
 (c_slices_swapRangeCmpFunc_zset_Entry C p_data (w .i64 (p_m - x1.1)) (w .i64 ((w .i64 (p_m + x1.2)) - x1.1)) x1.1 p_cmp (fun H7 =>
 J2 (x1.1, (w .i64 (x1.2 - x1.1))) H7) H3))
 (c_slices_swapRangeCmpFunc_zset_Entry C p_data (w .i64 (p_m - x1.1)) p_m x1.1 p_cmp (fun H8 =>
 K H8) H3))
theorem ad_slices_rotateCmpFunc_zset_Entry (C : Ctx) (p_data : Sl) (p_a : Int) (p_m : Int) (p_b : Int) (p_cmp : Value) (K : Heap → Prop) (H : Heap) (h : sh_slices_rotateCmpFunc_zset_Entry C p_data p_a p_m p_b p_cmp K H) : c_slices_rotateCmpFunc_zset_Entry C p_data p_a p_m p_b p_cmp K H := by
 refine Spec.enter Tryz.func100 rfl Tryz.ntmps100 rfl (GC.sub [(0, slv p_data), (1, .int .i64 p_a), (2, .int .i64 p_m), (3, .int .i64 p_b), (4, p_cmp)] ⟨rfl, rfl, rfl, rfl, rfl, trivial⟩ (Zo (Zm (Zm (Zi (.int .i64 (w .i64 (p_m - p_a))) (Za (GL.nil (Zo (Zm (Zm (Zi (.int .i64 (w .i64 (p_b - p_m))) ?_)))))))))))
 refine Za (GL.nil (GC.seq (GC.block (GC.loop (α := Int × Int) h (fun x1 => [(10, .int .i64 x1.1), (11, .int .i64 x1.2), (0, slv p_data), (2, .int .i64 p_m), (4, p_cmp)]) ⟨rfl, rfl, rfl, rfl, rfl, trivial⟩ ?_))))
 intro x1 H3 J2 h
 refine GC.seq (Zo (Zm (Zm (Zi (.bool ((x1.1 : Int) != x1.2)) (GL.nil ?_)))))
 refine Zd (fun hc4 => ?_) fun hc4 => ?_
 replace h := h.1 hc4
 refine GC.skip (GC.block (Zo (Zm (Zm (Zi (.bool (decide ((x1.1 : Int) > x1.2))) (GL.nil ?_))))))
 refine Zd (fun hc5 => ?_) fun hc5 => ?_
 replace h := h.1 hc5
 refine Zo (Zm (Zm (Zm (Zi (.int .i64 (w .i64 (p_m - x1.1))) (Zm (Zm (Zm (Zc h ok_slices_swapRangeCmpFunc_zset_Entry ?_))))))))
 rintro _ H6 ⟨rfl, h⟩
 refine GL.nil (GC.region (Zm (Zm (Zi (.int .i64 (w .i64 (x1.1 - x1.2))) (Za ?_)))))
 exact GL.jump (fun _ _ h => h) ((w .i64 (x1.1 - x1.2)), x1.2) h ⟨rfl, rfl, rfl, rfl, rfl, trivial⟩
 replace h := h.2 hc5
 refine Zo (Zm (Zm (Zm (Zi (.int .i64 (w .i64 (p_m - x1.1))) (Zm (Zm (Zi (.int .i64 (w .i64 (p_m + x1.2))) (Zm (Zi (.int .i64 (w .i64 ((w .i64 (p_m + x1.2)) - x1.1))) (Zm (Zm ?_)))))))))))
 refine Zc h ok_slices_swapRangeCmpFunc_zset_Entry ?_
 rintro _ H7 ⟨rfl, h⟩
 refine GL.nil (GC.region (Zm (Zm (Zi (.int .i64 (w .i64 (x1.2 - x1.1))) (Za ?_)))))
 exact GL.jump (fun _ _ h => h) (x1.1, (w .i64 (x1.2 - x1.1))) h ⟨rfl, rfl, rfl, rfl, rfl, trivial⟩
 replace h := h.2 hc4
 refine GC.exit_to (fun _ _ h => h) (GC.region (Zm (Zm (Zm (Zi (.int .i64 (w .i64 (p_m - x1.1))) (Zm (Zm (Zm (Zc h ok_slices_swapRangeCmpFunc_zset_Entry ?_)))))))))
 rintro _ H8 ⟨rfl, h⟩
 exact GL.ends (fun _ _ hf hs => post_tmp0 rfl hf hs ⟨rfl, h⟩)
end Sx
end

