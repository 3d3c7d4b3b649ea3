/-
  Texts of this family, one behind the other: Sh3, Sh, FmtI, ValQ, ValU, ValP1, ValP2, ValP3.
-/
import Derived.Test.YtgmcalaliipajaaGreatDoorAC3
import Derived.Shelf.Strconv.Itoa4
noncomputable section
set_option linter.unusedVariables false
set_option linter.unusedSimpArgs false
set_option maxRecDepth 10000
namespace Sx
section
set_option maxRecDepth 100000
open Go Go.Proofs
def Qfm (C : Ctx) (p_s : Str) (K : Int → Bool → Heap → Prop) (H : Heap) : Prop :=
 QbC C p_s [45] (fun r1 H2 =>
 jn (α := Bool) (fun b3 H9 =>
 jn (α := Bool) (fun b10 H18 =>
 ift b10
 (K 0 false H18)
 (K (List.length r1 : Int) true H18))
 (fun J11 => ift b3
 (J11 true H9)
 (ixs r1 0 fun c14 =>
 J11 ((((c14.toNat : Int) : Int) == 48) && (!(p_s == ([48] : Str)))) H9)))
 (fun J4 => ift (r1 == ([] : Str))
 (J4 true H2)
 (QaH C r1 [48, 49, 50, 51, 52, 53, 54, 55, 56, 57] (fun r7 H8 =>
 J4 (!(r7 == ([] : Str))) H8) H2))) H
theorem Qir (C p_s K H) (h : Qfm C p_s K H) : QdQ C p_s K H := by
 refine Ye Tryz.func77 rfl Tryz.ntmps77 [(0, sv p_s)] (Zo (Za (Za (GL.nil (Zo (Zm (Zc h Qfb ?_)))))))
 rintro _ H2 ⟨r1, rfl, h⟩
 refine Za (GL.nil (GC.seq (Zo (Zm (Zv (OV.sbin (a := r1) (b := ([] : Str)) (v := .bool (r1 == ([] : Str))) rfl rfl rfl) (Zm ?_))))))
 obtain ⟨J4, h, hR5⟩ := h
 refine GL.cut (α := Bool) 4 J4 (fun b3 => [(13, .bool b3), (0, sv p_s), (4, sv r1)]) ?_ ?_
 rcases h.em with ⟨u6, h⟩ | ⟨u6, h⟩
 refine Zk u6 (Zk u6 (Zk u6 (Zt u6 ?_)))
 exact Yj I3 true h
 refine Zu u6 Ym (GL.call h (Yt u6) rfl QiH (vs := [sv r1, sv [48, 49, 50, 51, 52, 53, 54, 55, 56, 57]]) rfl ?_)
 rintro _ H8 ⟨r7, rfl, h⟩
 refine Zu u6 (OV.sbin (a := r7) (b := ([] : Str)) (v := .bool (!(r7 == ([] : Str)))) rfl rfl rfl) (Zn u6 ?_)
 exact Yj I3 (!(r7 == ([] : Str))) h
 intro b3 H9 h
 replace h := hR5 b3 H9 h
 refine Zm ?_
 obtain ⟨J11, h, hR12⟩ := h
 refine GL.cut (α := Bool) 8 J11 (fun b10 => [(22, .bool b10), (4, sv r1)]) ?_ ?_
 rcases h.em with ⟨u13, h⟩ | ⟨u13, h⟩
 refine Zk u13 (Zk u13 (Zk u13 (Zk u13 (GL.skip ⟨_, rfl, .inr rfl⟩ rfl (GL.skip ⟨_, rfl, .inr rfl⟩ rfl (Zk u13 (Zt u13 ?_)))))))
 exact Yj I3 true h
 refine Zu u13 Ym ?_
 obtain ⟨c14, ha15, hb16, h⟩ := h
 refine Zu u13 (OV.indexStr rfl rfl rfl ha15 hb16) (Zu u13 (OV.ibin (v := .bool (((c14.toNat : Int) : Int) == 48)) rfl rfl rfl) (Zu u13 Ym (GL.cut0 3 [(21, .bool ((((c14.toNat : Int) : Int) == 48) && (!(p_s == ([48] : Str))))), (4, sv r1), (14, .bool b3)] ?_ ?_)))
 rcases Zb (((c14.toNat : Int) : Int) == 48) with u17 | u17
 refine Zu u17 Ym (Zu u17 (OV.sbin (a := p_s) (b := ([48] : Str)) (v := .bool (!(p_s == ([48] : Str)))) rfl rfl rfl) (Zu u13 (OV.pickT rfl u17 rfl) ?_))
 exact GL.jump0 (fun _ _ h => h) () rfl ⟨(by rw [u17]; rfl), rfl, rfl, trivial⟩
 refine Zk u17 (Zk u17 (Zu u13 (OV.pickF rfl u17 rfl) ?_))
 exact GL.jump0 (fun _ _ h => h) () rfl ⟨(by rw [u17]; rfl), rfl, rfl, trivial⟩
 refine Zn u13 ?_
 exact Yj I3 ((((c14.toNat : Int) : Int) == 48) && (!(p_s == ([48] : Str)))) h
 intro b10 H18 h
 replace h := hR12 b10 H18 h
 refine GL.nil (Yd h (fun u19 h => ?_) fun u19 h => ?_)
 refine Zo (Za (Za (GL.nil ?_)))
 exact Y2 I3 ⟨0, false, rfl, h⟩
 refine GC.skip (Zo (Zm (Zr (Za (Za (GL.nil ?_))))))
 exact Y2 I3 ⟨(List.length r1 : Int), true, rfl, h⟩
def QfY (C : Ctx) (p_s : Str) (p_sep : Str) (K : Str → Str → Bool → Heap → Prop) (H : Heap) : Prop :=
 Qbz C p_s p_sep (fun r1 r2 r3 H4 =>
 K r1 r2 r3 H4) H
theorem Qji (C p_s p_sep K H) (h : QfY C p_s p_sep K H) : Qef C p_s p_sep K H := by
 refine Ye Tryz.func78 rfl Tryz.ntmps78 [(0, sv p_s), (1, sv p_sep)] (Zo (Za (Za (Za (GL.nil (Zo (Zm (Zm (Zc h Qde ?_)))))))))
 rintro _ H4 ⟨r1, r2, r3, rfl, h⟩
 refine Yv (sv r1) rfl rfl (Yv (sv r2) rfl rfl (Yv (.bool r3) rfl rfl (Za (Za (Za (GL.nil ?_))))))
 exact Y3 I3 ⟨r1, r2, r3, rfl, h⟩
def Qhl (C : Ctx) (p_s : Str) (K : Bool → Heap → Prop) (H : Heap) : Prop :=
 jn (α := Bool) (fun b2 H9 =>
 jn (α := Bool) (fun b10 H17 =>
 ift b10
 (K false H17)
 (lp (α := Int) 0 H17 (fun x19 J20 H21 =>
 ift (decide ((x19 : Int) < (List.length p_s : Int)))
 (ixs p_s x19 fun c23 =>
 ift (!(((((decide (((c23.toNat : Int) : Int) ≥ 97)) && (decide (((c23.toNat : Int) : Int) ≤ 122))) || ((decide (((c23.toNat : Int) : Int) ≥ 65)) && (decide (((c23.toNat : Int) : Int) ≤ 90)))) || ((decide (((c23.toNat : Int) : Int) ≥ 48)) && (decide (((c23.toNat : Int) : Int) ≤ 57)))) || (((c23.toNat : Int) : Int) == 95)))
 (K false H21)
 (J20 (w .i64 (x19 + 1)) H21))
 (K true H21))))
 (fun J11 => ift b2
 (J11 true H9)
 (ixs p_s 0 fun c14 =>
 J11 (decide (((c14.toNat : Int) : Int) > 122)) H9)))
 (fun J3 => ift ((p_s == ([] : Str)) || (decide (((List.length p_s : Int) : Int) > 32)))
 (J3 true H)
 (ixs p_s 0 fun c6 =>
 J3 (decide (((c6.toNat : Int) : Int) < 97)) H))
theorem Qkk (C p_s K H) (h : Qhl C p_s K H) : QbW C p_s K H := by
 refine Ye Tryz.func79 rfl Tryz.ntmps79 [(0, sv p_s)] (Zo (Za (GL.nil (GC.seq (Zo (Zm (Zv (OV.sbin (a := p_s) (b := ([] : Str)) (v := .bool (p_s == ([] : Str))) rfl rfl rfl) (Zm (GL.cut0 4 [(11, .bool ((p_s == ([] : Str)) || (decide (((List.length p_s : Int) : Int) > 32)))), (0, sv p_s)] ?_ ?_)))))))))
 rcases Zb (p_s == ([] : Str)) with hc1 | hc1
 refine Zk hc1 (Zk hc1 (Zk hc1 (Zt hc1 ?_)))
 exact GL.jump0 (fun _ _ h => h) () rfl ⟨(by rw [hc1]; rfl), rfl, trivial⟩
 refine Zu hc1 Ym (Zu hc1 (OV.lenStr rfl rfl) (Zu hc1 (OV.ibin (v := .bool (decide (((List.length p_s : Int) : Int) > 32))) rfl rfl rfl) (Zn hc1 ?_)))
 exact GL.jump0 (fun _ _ h => h) () rfl ⟨(by rw [hc1]; rfl), rfl, trivial⟩
 refine Zm ?_
 obtain ⟨J3, h, hR4⟩ := h
 refine GL.cut (α := Bool) 4 J3 (fun b2 => [(16, .bool b2), (0, sv p_s)]) ?_ ?_
 rcases h.em with ⟨hc5, h⟩ | ⟨hc5, h⟩
 refine Zk hc5 (Zk hc5 (Zk hc5 (Zt hc5 ?_)))
 exact Yj I3 true h
 refine Zu hc5 Ym ?_
 obtain ⟨c6, ha7, hb8, h⟩ := h
 refine Zu hc5 (OV.indexStr rfl rfl rfl ha7 hb8) (Zu hc5 (OV.ibin (v := .bool (decide (((c6.toNat : Int) : Int) < 97))) rfl rfl rfl) (Zn hc5 ?_))
 exact Yj I3 (decide (((c6.toNat : Int) : Int) < 97)) h
 intro b2 H9 h
 replace h := hR4 b2 H9 h
 refine Zm ?_
 obtain ⟨J11, h, hR12⟩ := h
 refine GL.cut (α := Bool) 4 J11 (fun b10 => [(21, .bool b10), (0, sv p_s)]) ?_ ?_
 rcases h.em with ⟨hc13, h⟩ | ⟨hc13, h⟩
 refine Zk hc13 (Zk hc13 (Zk hc13 (Zt hc13 ?_)))
 exact Yj I3 true h
 refine Zu hc13 Ym ?_
 obtain ⟨c14, ha15, hb16, h⟩ := h
 refine Zu hc13 (OV.indexStr rfl rfl rfl ha15 hb16) (Zu hc13 (OV.ibin (v := .bool (decide (((c14.toNat : Int) : Int) > 122))) rfl rfl rfl) (Zn hc13 ?_))
 exact Yj I3 (decide (((c14.toNat : Int) : Int) > 122)) h
 intro b10 H17 h
 replace h := hR12 b10 H17 h
 refine GL.nil (Yd h (fun hc18 h => ?_) fun hc18 h => ?_)
 refine Zo (Za (GL.nil ?_))
 exact Y1 I3 ⟨false, rfl, h⟩
 refine GC.skip (GC.seq (Zo (Zm (Zr (Zm (GL.nil (GC.block (Yp h (fun x19 => [(24, .int .i64 x19), (0, sv p_s), (23, .int .i64 (List.length p_s : Int))]) ?_))))))))
 intro x19 H21 J20 h
 refine Zo (Zi (.bool (decide ((x19 : Int) < (List.length p_s : Int)))) (GL.nil (GC.seq (Yd h (fun hc22 h => ?_) fun hc22 h => ?_))))
 refine GC.skip (GC.seq (GC.block (Zo (Zm (Za (GL.nil (Zo (Zm (Zm (Ys h fun c23 h => ?_))))))))))
 refine Za (GL.nil (Zo (Zm (Zi (.bool (decide (((c23.toNat : Int) : Int) ≥ 97))) (Zm (GL.cut0 3 [(35, .bool ((decide (((c23.toNat : Int) : Int) ≥ 97)) && (decide (((c23.toNat : Int) : Int) ≤ 122)))), (0, sv p_s), (4, .int .u8 (c23.toNat : Int)), (23, .int .i64 (List.length p_s : Int)), (24, .int .i64 x19)] ?_ ?_))))))
 rcases Zb (decide (((c23.toNat : Int) : Int) ≥ 97)) with hc26 | hc26
 refine Zu hc26 Ym (Zu hc26 (OV.ibin (v := .bool (decide (((c23.toNat : Int) : Int) ≤ 122))) rfl rfl rfl) (Zt hc26 ?_))
 exact GL.jump0 (fun _ _ h => h) () rfl ⟨(by rw [hc26]; rfl), rfl, rfl, rfl, rfl, trivial⟩
 refine Zk hc26 (Zk hc26 (Zn hc26 ?_))
 exact GL.jump0 (fun _ _ h => h) () rfl ⟨(by rw [hc26]; rfl), rfl, rfl, rfl, rfl, trivial⟩
 refine Zm (GL.cut0 7 [(43, .bool (((decide (((c23.toNat : Int) : Int) ≥ 97)) && (decide (((c23.toNat : Int) : Int) ≤ 122))) || ((decide (((c23.toNat : Int) : Int) ≥ 65)) && (decide (((c23.toNat : Int) : Int) ≤ 90))))), (0, sv p_s), (4, .int .u8 (c23.toNat : Int)), (23, .int .i64 (List.length p_s : Int)), (24, .int .i64 x19)] ?_ ?_)
 rcases Zb ((decide (((c23.toNat : Int) : Int) ≥ 97)) && (decide (((c23.toNat : Int) : Int) ≤ 122))) with hc27 | hc27
 refine Zk hc27 (Zk hc27 (Zk hc27 (GL.skip ⟨_, rfl, .inr rfl⟩ rfl (GL.skip ⟨_, rfl, .inr rfl⟩ rfl (Zk hc27 (Zt hc27 ?_))))))
 exact GL.jump0 (fun _ _ h => h) () rfl ⟨(by rw [hc27]; rfl), rfl, rfl, rfl, rfl, trivial⟩
 refine Zu hc27 Ym (Zu hc27 (OV.ibin (v := .bool (decide (((c23.toNat : Int) : Int) ≥ 65))) rfl rfl rfl) (Zu hc27 Ym (GL.cut0 3 [(42, .bool ((decide (((c23.toNat : Int) : Int) ≥ 65)) && (decide (((c23.toNat : Int) : Int) ≤ 90)))), (0, sv p_s), (4, .int .u8 (c23.toNat : Int)), (23, .int .i64 (List.length p_s : Int)), (24, .int .i64 x19), (36, .bool ((decide (((c23.toNat : Int) : Int) ≥ 97)) && (decide (((c23.toNat : Int) : Int) ≤ 122))))] ?_ ?_)))
 rcases Zb (decide (((c23.toNat : Int) : Int) ≥ 65)) with hc28 | hc28
 refine Zu hc28 Ym (Zu hc28 (OV.ibin (v := .bool (decide (((c23.toNat : Int) : Int) ≤ 90))) rfl rfl rfl) (Zu hc27 (OV.pickT rfl hc28 rfl) ?_))
 exact GL.jump0 (fun _ _ h => h) () rfl ⟨(by rw [hc28]; rfl), rfl, rfl, rfl, rfl, rfl, trivial⟩
 refine Zk hc28 (Zk hc28 (Zu hc27 (OV.pickF rfl hc28 rfl) ?_))
 exact GL.jump0 (fun _ _ h => h) () rfl ⟨(by rw [hc28]; rfl), rfl, rfl, rfl, rfl, rfl, trivial⟩
 refine Zn hc27 ?_
 exact GL.jump0 (fun _ _ h => h) () rfl ⟨(by rw [hc27]; rfl), rfl, rfl, rfl, rfl, trivial⟩
 refine Zm (GL.cut0 7 [(51, .bool ((((decide (((c23.toNat : Int) : Int) ≥ 97)) && (decide (((c23.toNat : Int) : Int) ≤ 122))) || ((decide (((c23.toNat : Int) : Int) ≥ 65)) && (decide (((c23.toNat : Int) : Int) ≤ 90)))) || ((decide (((c23.toNat : Int) : Int) ≥ 48)) && (decide (((c23.toNat : Int) : Int) ≤ 57))))), (0, sv p_s), (4, .int .u8 (c23.toNat : Int)), (23, .int .i64 (List.length p_s : Int)), (24, .int .i64 x19)] ?_ ?_)
 rcases Zb (((decide (((c23.toNat : Int) : Int) ≥ 97)) && (decide (((c23.toNat : Int) : Int) ≤ 122))) || ((decide (((c23.toNat : Int) : Int) ≥ 65)) && (decide (((c23.toNat : Int) : Int) ≤ 90)))) with hc29 | hc29
 refine Zk hc29 (Zk hc29 (Zk hc29 (GL.skip ⟨_, rfl, .inr rfl⟩ rfl (GL.skip ⟨_, rfl, .inr rfl⟩ rfl (Zk hc29 (Zt hc29 ?_))))))
 exact GL.jump0 (fun _ _ h => h) () rfl ⟨(by rw [hc29]; rfl), rfl, rfl, rfl, rfl, trivial⟩
 refine Zu hc29 Ym (Zu hc29 (OV.ibin (v := .bool (decide (((c23.toNat : Int) : Int) ≥ 48))) rfl rfl rfl) (Zu hc29 Ym (GL.cut0 3 [(50, .bool ((decide (((c23.toNat : Int) : Int) ≥ 48)) && (decide (((c23.toNat : Int) : Int) ≤ 57)))), (0, sv p_s), (4, .int .u8 (c23.toNat : Int)), (23, .int .i64 (List.length p_s : Int)), (24, .int .i64 x19), (44, .bool (((decide (((c23.toNat : Int) : Int) ≥ 97)) && (decide (((c23.toNat : Int) : Int) ≤ 122))) || ((decide (((c23.toNat : Int) : Int) ≥ 65)) && (decide (((c23.toNat : Int) : Int) ≤ 90)))))] ?_ ?_)))
 rcases Zb (decide (((c23.toNat : Int) : Int) ≥ 48)) with hc30 | hc30
 refine Zu hc30 Ym (Zu hc30 (OV.ibin (v := .bool (decide (((c23.toNat : Int) : Int) ≤ 57))) rfl rfl rfl) (Zu hc29 (OV.pickT rfl hc30 rfl) ?_))
 exact GL.jump0 (fun _ _ h => h) () rfl ⟨(by rw [hc30]; rfl), rfl, rfl, rfl, rfl, rfl, trivial⟩
 refine Zk hc30 (Zk hc30 (Zu hc29 (OV.pickF rfl hc30 rfl) ?_))
 exact GL.jump0 (fun _ _ h => h) () rfl ⟨(by rw [hc30]; rfl), rfl, rfl, rfl, rfl, rfl, trivial⟩
 refine Zn hc29 ?_
 exact GL.jump0 (fun _ _ h => h) () rfl ⟨(by rw [hc29]; rfl), rfl, rfl, rfl, rfl, trivial⟩
 refine Zm (GL.cut0 3 [(55, .bool (((((decide (((c23.toNat : Int) : Int) ≥ 97)) && (decide (((c23.toNat : Int) : Int) ≤ 122))) || ((decide (((c23.toNat : Int) : Int) ≥ 65)) && (decide (((c23.toNat : Int) : Int) ≤ 90)))) || ((decide (((c23.toNat : Int) : Int) ≥ 48)) && (decide (((c23.toNat : Int) : Int) ≤ 57)))) || (((c23.toNat : Int) : Int) == 95))), (0, sv p_s), (23, .int .i64 (List.length p_s : Int)), (24, .int .i64 x19)] ?_ ?_)
 rcases Zb ((((decide (((c23.toNat : Int) : Int) ≥ 97)) && (decide (((c23.toNat : Int) : Int) ≤ 122))) || ((decide (((c23.toNat : Int) : Int) ≥ 65)) && (decide (((c23.toNat : Int) : Int) ≤ 90)))) || ((decide (((c23.toNat : Int) : Int) ≥ 48)) && (decide (((c23.toNat : Int) : Int) ≤ 57)))) with hc31 | hc31
 refine Zk hc31 (Zk hc31 (Zt hc31 ?_))
 exact GL.jump0 (fun _ _ h => h) () rfl ⟨(by rw [hc31]; rfl), rfl, rfl, rfl, trivial⟩
 refine Zu hc31 Ym (Zu hc31 (OV.ibin (v := .bool (((c23.toNat : Int) : Int) == 95)) rfl rfl rfl) (Zn hc31 ?_))
 exact GL.jump0 (fun _ _ h => h) () rfl ⟨(by rw [hc31]; rfl), rfl, rfl, rfl, trivial⟩
 refine Zv (OV.not rfl) (GL.nil (Yd h (fun hc32 h => ?_) fun hc32 h => ?_))
 refine Zo (Za (GL.nil ?_))
 exact Y1 I3 ⟨false, rfl, h⟩
 refine GC.skip_to (fun _ _ h => h) (GC.region (Zi (.int .i64 (w .i64 (x19 + 1))) (Zm ?_)))
 exact Yj I3 (w .i64 (x19 + 1)) h
 refine GC.exit_to (fun _ _ h => h) (Zo (Za (GL.nil ?_)))
 exact Y1 I3 ⟨true, rfl, h⟩
def Qf3 (C : Ctx) (Y : List Value → (Bool → Heap → Prop) → Heap → Prop) (v0 : Nat × Nat) (K : Heap → Prop) (H : Heap) : Prop :=
 ldL H v0 fun x1 =>
 lp (α := Int) 0 H (fun x3 J4 H5 =>
 ift (decide ((x3 : Int) < (Sl.len x1 : Int)))
 (ixa x1 x3 fun p7 =>
 ldT H5 Qf.c (p7.1, p7.2 + (x3 : Int).toNat * 2) fun x12 =>
 nw (Qf.c Qf.zero) (fun b14 H15 =>
 (List.all (Qf.c x12) Value.oneCell' = true) ∧
 stT (b14, 0) (Qf.c x12) (fun H16 =>
 ldL H16 ((b14, 0).1, (b14, 0).2 + 0) fun x18 =>
 lp (α := Int) 0 H16 (fun x20 J21 H22 =>
 ift (decide ((x20 : Int) < (Sl.len x18 : Int)))
 (ixa x18 x20 fun p24 =>
 ldT H22 Qa.c (p24.1, p24.2 + (x20 : Int).toNat * 2) fun x29 =>
 nw (Qa.c Qa.zero) (fun b31 H32 =>
 stT (b31, 0) (Qa.c x29) (fun H33 =>
 ldT H33 Qa.c (b31, 0) fun x34 =>
 ldV H33 ((b14, 0).1, (b14, 0).2 + 1) fun x36 =>
 Y [.agg (Qa.c x34).toArray, x36] (fun r38 H39 =>
 ift (!r38)
 (K H39)
 (J21 (w .i64 (x20 + 1)) H39)) H33) H32) H22)
 (J4 (w .i64 (x3 + 1)) H22))) H15) H5)
 (K H5))
theorem Qjn (C : Ctx) {yl : Nat} {Y : List Value → (Bool → Heap → Prop) → Heap → Prop} (hy : Rf.YldS Tryz.prog C yl Y) (v0 : Nat × Nat) (K : Heap → Prop) (H : Heap) (h : Qf3 C Y v0 K H) : Qkp C (.func (.yield yl) (List.toArray []) (List.toArray []) : Value) v0 K H := by
 refine Rf.Spec.enterI Tryz.func80 rfl Tryz.ntmps80 rfl ?_
 refine Rf.GI.sub [(0, .func (.yield yl) (List.toArray []) (List.toArray [])), (1, pv (some v0))] ⟨rfl, rfl, trivial⟩ ?_
 refine Rf.GI.seq ?_
 refine Rf.GI.region (fun _ _ h => h) rfl ?_
 refine Yl h fun x1 h => ?_
 refine Zq (Zm ?_)
 refine Rf.GI.nil ?_
 refine Rf.GI.block ?_
 refine Rf.GI.loop (α := Int) h (fun x3 => [(9, .int .i64 x3), (0, .func (.yield yl) (List.toArray []) (List.toArray [])), (7, slv x1), (8, .int .i64 (Sl.len x1 : Int))]) ⟨rfl, rfl, rfl, rfl, trivial⟩ ?_
 intro x3 H5 J4 h
 refine Rf.GI.seq ?_
 refine Rf.GI.region (fun _ _ h => h) rfl ?_
 refine Zi (.bool (decide ((x3 : Int) < (Sl.len x1 : Int)))) ?_
 refine Rf.GI.nil ?_
 refine Rf.GI.seq ?_
 refine Rf.GI.cond (b := decide ((x3 : Int) < (Sl.len x1 : Int))) rfl (fun u6 => ?_) (fun u6 => ?_)
 replace h := h.1 u6
 refine Rf.GI.skip ?_
 refine Rf.GI.seq ?_
 refine Rf.GI.block ?_
 refine Rf.GI.seq ?_
 refine Rf.GI.region (fun _ _ h => h) rfl ?_
 refine Yx h fun p7 h => ?_
 obtain ⟨x12, hr13, h⟩ := h
 refine Zv (OV.loadT rfl rfl rfl hr13) (GL.alloc (cs := Qf.c Qf.zero) h trivial rfl rfl rfl ?_)
 intro b14 H15 h
 obtain ⟨h117, h⟩ := h
 refine GL.storeT (p := (b14, 0)) (vs := Qf.c x12) h trivial rfl rfl h117 rfl ?_
 intro H16 h
 refine Rf.GI.nil ?_
 refine Rf.GI.seq ?_
 refine Rf.GI.region (fun _ _ h => h) rfl ?_
 refine Zf (Yl h fun x18 h => ?_)
 refine Zq (Zm ?_)
 refine Rf.GI.nil ?_
 refine Rf.GI.block ?_
 refine Rf.GI.loop (α := Int) h (fun x20 => [(16, .int .i64 x20), (0, .func (.yield yl) (List.toArray []) (List.toArray [])), (4, pv (some (b14, 0))), (7, slv x1), (8, .int .i64 (Sl.len x1 : Int)), (9, .int .i64 x3), (14, slv x18), (15, .int .i64 (Sl.len x18 : Int))]) ⟨rfl, rfl, rfl, rfl, rfl, rfl, rfl, rfl, trivial⟩ ?_
 intro x20 H22 J21 h
 refine Rf.GI.seq ?_
 refine Rf.GI.region (fun _ _ h => h) rfl ?_
 refine Zi (.bool (decide ((x20 : Int) < (Sl.len x18 : Int)))) ?_
 refine Rf.GI.nil ?_
 refine Rf.GI.seq ?_
 refine Rf.GI.cond (b := decide ((x20 : Int) < (Sl.len x18 : Int))) rfl (fun u23 => ?_) (fun u23 => ?_)
 replace h := h.1 u23
 refine Rf.GI.skip ?_
 refine Rf.GI.seq ?_
 refine Rf.GI.block ?_
 refine Rf.GI.seq ?_
 refine Rf.GI.region (fun _ _ h => h) rfl ?_
 refine Yx h fun p24 h => ?_
 obtain ⟨x29, hr30, h⟩ := h
 refine Zv (OV.loadT rfl rfl rfl hr30) (GL.alloc (cs := Qa.c Qa.zero) h trivial rfl rfl rfl ?_)
 intro b31 H32 h
 refine GL.storeT (p := (b31, 0)) (vs := Qa.c x29) h trivial rfl rfl rfl rfl ?_
 intro H33 h
 refine Rf.GI.nil ?_
 refine Rf.GI.seq ?_
 refine Rf.GI.regionL ?_
 refine Rf.GLI.pre 4 (fun _ _ h => h) rfl ?_
 refine Zm ?_
 obtain ⟨x34, hr35, h⟩ := h
 refine Zv (OV.loadT rfl rfl rfl hr35) (Zf (Yl h fun x36 h => ?_))
 refine Rf.GI.nilL ?_
 refine Rf.GLI.yield (us := [.agg (Qa.c x34).toArray, x36]) hy h trivial rfl rfl rfl ?_
 intro r38 H39 h
 refine Rf.GLI.ofGL (fun _ _ h => h) rfl ?_
 refine Zv (OV.not rfl) ?_
 refine Rf.GI.nil ?_
 refine Rf.GI.cond (b := !r38) rfl (fun u40 => ?_) (fun u40 => ?_)
 replace h := h.1 u40
 exact Rf.GI.ret (fun _ _ hf hs => QJ rfl hf hs ⟨rfl, h⟩)
 replace h := h.2 u40
 refine Rf.GI.skip_to (fun _ _ h => h) ?_
 refine Rf.GI.region (fun _ _ h => h) rfl ?_
 refine Zi (.int .i64 (w .i64 (x20 + 1))) (Zm ?_)
 exact Yj I3 (w .i64 (x20 + 1)) h
 replace h := h.2 u23
 refine Rf.GI.exit_to (fun _ _ h => h) ?_
 refine Rf.GI.region (fun _ _ h => h) rfl ?_
 refine Zi (.int .i64 (w .i64 (x3 + 1))) (Zm ?_)
 exact Yj I3 (w .i64 (x3 + 1)) h
 replace h := h.2 u6
 exact Rf.GI.exit_ends (fun _ _ hf hs => QJ rfl hf hs ⟨rfl, h⟩)
def QK (C : Ctx) (p_s : Sl) (p_f : Value) (K : Int → Heap → Prop) (H : Heap) : Prop :=
 lp (α := Int) 0 H (fun x1 J2 H3 =>
 ift (decide ((x1 : Int) < (Sl.len p_s : Int)))
 (ixa p_s x1 fun p5 =>
 ldT H3 Qb.c (p5.1, p5.2 + (x1 : Int).toNat * 4) fun x10 =>
 callU Tryz.prog C p_f [.agg (Qb.c x10).toArray] H3 (fun v H13 => ∃ (r12 : Bool), v = .bool r12 ∧
 ift r12
 (K x1 H13)
 (J2 (w .i64 (x1 + 1)) H13)))
 (K (-1) H3))
theorem Qad (C p_s p_f K H) (h : QK C p_s p_f K H) : QL C p_s p_f K H := by
 refine Ye Tryz.func81 rfl Tryz.ntmps81 [(0, slv p_s), (1, p_f)] (Zo (Za (GL.nil (GC.seq (Zo (Zm (Zq (Zm (GL.nil (GC.block (Yp h (fun x1 => [(8, .int .i64 x1), (0, slv p_s), (1, p_f), (7, .int .i64 (Sl.len p_s : Int))]) ?_)))))))))))
 intro x1 H3 J2 h
 refine Zo (Zi (.bool (decide ((x1 : Int) < (Sl.len p_s : Int)))) (GL.nil (GC.seq (Yd h (fun u4 h => ?_) fun u4 h => ?_))))
 refine GC.skip (GC.seq (GC.block (Zo (Zm (Za (GL.nil (Zo (Zm (Zm (Zm (Yx h fun p5 h => ?_)))))))))))
 obtain ⟨x10, v11, h⟩ := h
 refine Zv (OV.loadT rfl rfl rfl v11) (GL.callU (xv := p_f) (vs := [.agg (Qb.c x10).toArray]) h trivial rfl rfl rfl ?_)
 rintro _ H13 ⟨r12, rfl, h⟩
 refine GL.nil (Yd h (fun u14 h => ?_) fun u14 h => ?_)
 refine Zo (Zm (Za (GL.nil ?_)))
 exact Y1 I3 ⟨x1, rfl, h⟩
 refine GC.skip_to (fun _ _ h => h) (GC.region (Zi (.int .i64 (w .i64 (x1 + 1))) (Zm ?_)))
 exact Yj I3 (w .i64 (x1 + 1)) h
 refine GC.exit_to (fun _ _ h => h) (Zo (Za (GL.nil ?_)))
 exact Y1 I3 ⟨(-1), rfl, h⟩
def QT (C : Ctx) (p_data : Sl) (p_n : Int) (p_cmp : Value) (K : Heap → Prop) (H : Heap) : Prop :=
 lp (α := Int × Int) (0, 20) H (fun x1 J2 H3 =>
 ift (decide ((x1.2 : Int) ≤ p_n))
 (Qv C p_data x1.1 x1.2 p_cmp (fun H5 =>
 J2 (x1.2, (w .i64 (x1.2 + 20))) H5) H3)
 (Qv C p_data x1.1 p_n p_cmp (fun H6 =>
 lp (α := Int) 20 H6 (fun x7 J8 H9 =>
 ift (decide ((x7 : Int) < p_n))
 (lp (α := Int × Int) (0, (w .i64 (2 * x7))) H9 (fun x11 J12 H13 =>
 ift (decide ((x11.2 : Int) ≤ p_n))
 (Qp C p_data x11.1 (w .i64 (x11.1 + x7)) x11.2 p_cmp (fun H15 =>
 J12 (x11.2, (w .i64 (x11.2 + (w .i64 (2 * x7))))) H15) H13)
 (jn (α := Unit) (fun x17 H18 =>
 J8 (w .i64 (x7 * 2)) H18)
 (fun J16 => ift (decide (((w .i64 (x11.1 + x7)) : Int) < p_n))
 (Qp C p_data x11.1 (w .i64 (x11.1 + x7)) p_n p_cmp (fun H21 =>
 J16 () H21) H13)
 (J16 () H13)))))
 (K H9))) H3))
theorem Qau (C p_data p_n p_cmp K H) (h : QT C p_data p_n p_cmp K H) : QW C p_data p_n p_cmp K H := by
 refine Ye Tryz.func82 rfl Tryz.ntmps82 [(0, slv p_data), (1, .int .i64 p_n), (2, p_cmp)] (Zo (Za (GL.nil (Zo (Zm (Za (Za (GL.nil (GC.seq (GC.block (Yp h (fun x1 => [(7, .int .i64 x1.1), (8, .int .i64 x1.2), (0, slv p_data), (1, .int .i64 p_n), (2, p_cmp), (6, .int .i64 20)]) ?_)))))))))))
 intro x1 H3 J2 h
 refine GC.seq (Zo (Zm (Zm (Zi (.bool (decide ((x1.2 : Int) ≤ p_n))) (GL.nil (Yd h (fun u4 h => ?_) fun u4 h => ?_))))))
 refine GC.skip (GC.block (Zo (Zm (Zm (Zm (Zm (Zc h Q9 ?_)))))))
 rintro _ H5 ⟨rfl, h⟩
 refine GL.nil (Zo (Zm (Za (GL.nil (GC.region (Zm (Zm (Zi (.int .i64 (w .i64 (x1.2 + 20))) (Za ?_)))))))))
 exact Yj I3 (x1.2, (w .i64 (x1.2 + 20))) h
 refine GC.exit_to (fun _ _ h => h) (Zo (Zm (Zm (Zm (Zm (Zc h Q9 ?_))))))
 rintro _ H6 ⟨rfl, h⟩
 refine GL.nil (GC.block (Yp h (fun x7 => [(6, .int .i64 x7), (0, slv p_data), (1, .int .i64 p_n), (2, p_cmp)]) ?_))
 intro x7 H9 J8 h
 refine GC.seq (Zo (Zm (Zm (Zi (.bool (decide ((x7 : Int) < p_n))) (GL.nil (Yd h (fun u10 h => ?_) fun u10 h => ?_))))))
 refine GC.skip (GC.block (Zo (Zm (Zi (.int .i64 (w .i64 (2 * x7))) (Za (Za (GL.nil (GC.seq (GC.block (Yp h (fun x11 => [(7, .int .i64 x11.1), (8, .int .i64 x11.2), (0, slv p_data), (1, .int .i64 p_n), (2, p_cmp), (6, .int .i64 x7)]) ?_))))))))))
 intro x11 H13 J12 h
 refine GC.seq (Zo (Zm (Zm (Zi (.bool (decide ((x11.2 : Int) ≤ p_n))) (GL.nil (Yd h (fun u14 h => ?_) fun u14 h => ?_))))))
 refine GC.skip (GC.block (Zo (Zm (Zm (Zm (Zm (Zi (.int .i64 (w .i64 (x11.1 + x7))) (Zm (Zm (Zc h Qz ?_))))))))))
 rintro _ H15 ⟨rfl, h⟩
 refine GL.nil (Zo (Zm (Za (GL.nil (GC.region (Zm (Zm (Zi (.int .i64 (w .i64 (2 * x7))) (Zi (.int .i64 (w .i64 (x11.2 + (w .i64 (2 * x7))))) (Za ?_))))))))))
 exact Yj I3 (x11.2, (w .i64 (x11.2 + (w .i64 (2 * x7))))) h
 refine GC.exit_to (fun _ _ h => h) ?_
 obtain ⟨J16, h, hR19⟩ := h
 refine GC.join (α := Unit) J16 (fun _ => [(0, slv p_data), (1, .int .i64 p_n), (2, p_cmp), (6, .int .i64 x7)]) ?_ ?_
 refine Zo (Zm (Zm (Zi (.int .i64 (w .i64 (x11.1 + x7))) (Za (GL.nil (Zo (Zm (Zm (Zi (.bool (decide (((w .i64 (x11.1 + x7)) : Int) < p_n))) (GL.nil (Yd h (fun u20 h => ?_) fun u20 h => ?_)))))))))))
 refine GC.region (Zm (Zm (Zm (Zm (Zm (Zc h Qz ?_))))))
 rintro _ H21 ⟨rfl, h⟩
 exact Yj I3 () h
 exact Yk I3 () h
 intro x17 H18 h
 replace h := hR19 x17 H18 h
 refine GC.region (Zm (Zi (.int .i64 (w .i64 (x7 * 2))) (Za ?_)))
 exact Yj I3 (w .i64 (x7 * 2)) h
 exact GC.exit_ends (fun _ _ hf hs => QJ rfl hf hs ⟨rfl, h⟩)
def QhV (C : Ctx) (p_l : Sl) (K : Bool → Heap → Prop) (H : Heap) : Prop :=
 Qo C p_l (.func (.func 103) (List.toArray []) (List.toArray []) : Value) (fun r1 H2 =>
 K (!r1) H2) H
theorem Qk5 (C p_l K H) (h : QhV C p_l K H) : Qeh C p_l K H := by
 refine Ye Tryz.func83 rfl Tryz.ntmps83 [(0, slv p_l)] (Zo (Za (GL.nil (Zo (Zm (Zc h Q3 ?_))))))
 rintro _ H2 ⟨r1, rfl, h⟩
 refine Zv (OV.not rfl) (Za (GL.nil ?_))
 exact Y1 I3 ⟨(!r1), rfl, h⟩
def Qhk (C : Ctx) (p_a : Bool) (p_b : Bool) (K : Int → Heap → Prop) (H : Heap) : Prop :=
 ift (p_a == p_b)
 (K 0 H)
 (ift p_a
 (K (-1) H)
 (K 1 H))
theorem Qkj (C p_a p_b K H) (h : Qhk C p_a p_b K H) : Qe0 C p_a p_b K H := by
 refine Ye Tryz.func84 rfl Tryz.ntmps84 [(0, .bool p_a), (1, .bool p_b)] (Zo (Za (GL.nil (GC.seq (GC.block (Zo (Zm (Zm (Zv (OV.eqlBool rfl rfl rfl) (Za (GL.nil (Yd h (fun u1 h => ?_) fun u1 h => ?_))))))))))))
 refine Zo (Za (GL.nil ?_))
 exact Y1 I3 ⟨0, rfl, h⟩
 refine Zo (Zm (Za (GL.nil (Yd h (fun u2 h => ?_) fun u2 h => ?_))))
 refine Zo (Za (GL.nil ?_))
 exact Y1 I3 ⟨(-1), rfl, h⟩
 refine GC.skip_to (fun _ _ h => h) (Zo (Za (GL.nil ?_)))
 exact Y1 I3 ⟨1, rfl, h⟩
def Qhm (C : Ctx) (p_a : Sl) (p_b : Sl) (K : Int → Heap → Prop) (H : Heap) : Prop :=
 Qh C p_a p_b (.func (.func 105) (List.toArray []) (List.toArray []) : Value) (fun r1 H2 =>
 K r1 H2) H
theorem Qkl (C p_a p_b K H) (h : Qhm C p_a p_b K H) : Qcz C p_a p_b K H := by
 refine Ye Tryz.func85 rfl Tryz.ntmps85 [(0, slv p_a), (1, slv p_b)] (Zo (Za (GL.nil (Zo (Zm (Zm (Zc h Q6 ?_)))))))
 rintro _ H2 ⟨r1, rfl, h⟩
 refine Za (GL.nil ?_)
 exact Y1 I3 ⟨r1, rfl, h⟩
def Qas (C : Ctx) (p_s : Sl) (K : Sl → Heap → Prop) (H : Heap) : Prop :=
 ift (Sl.isNil p_s)
 (K Sl.nil H)
 (nw ([]) (fun b2 H3 =>
 apS (Qb.c Qb.zero) 56 (Sl.of (some (b2, 0)) 0 0) p_s (fun r4 H5 =>
 K r4 H5) H3) H)
theorem QbM (C p_s K H) (h : Qas C p_s K H) : QS C p_s K H := by
 refine Ye Tryz.func86 rfl Tryz.ntmps86 [(0, slv p_s)] (Zo (Za (GL.nil (GC.seq (Zo (Zm (Zv (OV.eqlSl (s := p_s) rfl rfl rfl) (GL.nil (Yd h (fun u1 h => ?_) fun u1 h => ?_)))))))))
 refine Zo (Za (GL.nil ?_))
 exact Y1 I3 ⟨Sl.nil, rfl, h⟩
 refine GC.skip (Zo (GL.buildSlice (cs := []) h trivial rfl (vs := []) rfl ⟨44, fun _ => by kernel_rfl⟩ ?_))
 intro b2 H3 h
 refine Zm (GL.appendS (s := (Sl.of (some (b2, 0)) 0 0)) (s2 := p_s) (zc := Qb.c Qb.zero) (bytes := 56) h trivial rfl rfl rfl ⟨⟨_, _, _, rfl, rfl, rfl, rfl, rfl, rfl⟩⟩ rfl ?_)
 intro r4 H5 h
 refine Za (GL.nil ?_)
 exact Y1 I3 ⟨r4, rfl, h⟩
def Qfk (C : Ctx) (p_l : Sl) (v0 : Nat × Nat) (v1 : Nat × Nat) (K : Heap → Prop) (H : Heap) : Prop :=
 Qj C (some v0) 40 (fun r1 H2 =>
 lp (α := Int) 0 H2 (fun x3 J4 H5 =>
 ift (decide ((x3 : Int) < (Sl.len p_l : Int)))
 (ixa p_l x3 fun p7 =>
 ldT H5 Qb.c (p7.1, p7.2 + (x3 : Int).toNat * 4) fun x12 =>
 nw (Qb.c Qb.zero) (fun b14 H15 =>
 stT (b14, 0) (Qb.c x12) (fun H16 =>
 jn (α := Unit) (fun x18 H19 =>
 ldV H19 v1 fun x25 =>
 ldT H19 Qb.c (b14, 0) fun x27 =>
 callU Tryz.prog C x25 [.agg (Qb.c x27).toArray] H19 (fun v H29 => v = .tuple #[] ∧
 J4 (w .i64 (x3 + 1)) H29))
 (fun J17 => ift (decide ((x3 : Int) > 0))
 (Qk C (some v0) [44, 32] (fun r22 r23 H24 =>
 J17 () H24) H16)
 (J17 () H16))) H15) H5)
 (Qj C (some v0) 41 (fun r30 H31 =>
 K H31) H5))) H
theorem Qip (C p_l v0 v1 K H) (h : Qfk C p_l v0 v1 K H) : QdP C p_l v0 v1 K H := by
 refine Ye Tryz.func87 rfl Tryz.ntmps87 [(0, slv p_l), (1, pv (some v0)), (2, pv (some v1))] (Zo (Zc h Qm ?_))
 rintro _ H2 ⟨r1, rfl, h⟩
 refine GL.nil (GC.seq (Zo (Zm (Zq (Zm (GL.nil (GC.block (Yp h (fun x3 => [(9, .int .i64 x3), (1, pv (some v0)), (2, pv (some v1)), (7, slv p_l), (8, .int .i64 (Sl.len p_l : Int))]) ?_))))))))
 intro x3 H5 J4 h
 refine Zo (Zi (.bool (decide ((x3 : Int) < (Sl.len p_l : Int)))) (GL.nil (GC.seq (Yd h (fun u6 h => ?_) fun u6 h => ?_))))
 refine GC.skip (GC.seq (GC.block (Zo (Zm (Yx h fun p7 h => ?_)))))
 obtain ⟨x12, hr13, h⟩ := h
 refine Zv (OV.loadT rfl rfl rfl hr13) (GL.alloc (cs := Qb.c Qb.zero) h trivial rfl rfl rfl ?_)
 intro b14 H15 h
 refine Za (GL.storeT (p := (b14, 0)) (vs := Qb.c x12) h trivial rfl rfl rfl rfl ?_)
 intro H16 h
 refine GL.nil ?_
 obtain ⟨J17, h, hR20⟩ := h
 refine GC.join (α := Unit) J17 (fun _ => [(1, pv (some v0)), (2, pv (some v1)), (5, pv (some (b14, 0))), (7, slv p_l), (8, .int .i64 (Sl.len p_l : Int)), (9, .int .i64 x3)]) ?_ ?_
 refine Zo (Zm (Zi (.bool (decide ((x3 : Int) > 0))) (GL.nil (Yd h (fun u21 h => ?_) fun u21 h => ?_))))
 refine GC.region (Zc h Qr ?_)
 rintro _ H24 ⟨r22, r23, rfl, h⟩
 exact Yj I3 () h
 exact Yk I3 () h
 intro x18 H19 h
 replace h := hR20 x18 H19 h
 refine GC.region (Yl h fun x25 h => ?_)
 obtain ⟨x27, hr28, h⟩ := h
 refine Zv (OV.loadT rfl rfl rfl hr28) (GL.callU (xv := x25) (vs := [.agg (Qb.c x27).toArray]) h trivial rfl rfl rfl ?_)
 rintro _ H29 ⟨rfl, h⟩
 refine GL.nil_to (fun _ _ h => h) (GC.region (Zi (.int .i64 (w .i64 (x3 + 1))) (Zm ?_)))
 exact Yj I3 (w .i64 (x3 + 1)) h
 refine GC.exit_to (fun _ _ h => h) (GC.region (Zc h Qm ?_))
 rintro _ H31 ⟨r30, rfl, h⟩
 exact GL.ends (fun _ _ hf hs => QJ rfl hf hs ⟨rfl, h⟩)
def Qbf (C : Ctx) (p_b : Option (Nat × Nat)) (p_c : Int) (K : Value → Heap → Prop) (H : Heap) : Prop :=
 QX C p_b (fun H1 =>
 nck p_b fun p2 =>
 ldL H1 (p2.1, p2.2 + 1) fun x4 =>
 apdG 5 ([.int .u8 0]) 1 x4 ([.int .u8 p_c]) 1 (fun r6 H7 =>
 nck p_b fun p8 =>
 sttG (p8.1, p8.2 + 1) (slv r6) (fun H10 =>
 K .nilIface H10) H7) H1) H
theorem QcR (C p_b p_c K H) (h : Qbf C p_b p_c K H) : Qj C p_b p_c K H := by
 refine Ye Tryz.func88 rfl Tryz.ntmps88 [(0, pv p_b), (1, .int .u8 p_c)] (Zo (Za (GL.nil (Zo (Zm (Zc h Qbd ?_))))))
 rintro _ H1 ⟨rfl, h⟩
 refine GL.nil (Zo (Zm (Zm ?_)))
 obtain ⟨p2, hp3, h⟩ := h
 refine Zv (OV.nilCheck (q := p_b) rfl hp3) (Zf (Yl h fun x4 h => ?_))
 refine Zm (GL.appendGLit (e := 5) (s := x4) (ys := [.int .u8 p_c]) (zc := [.int .u8 0]) (bytes := 1) h trivial rfl (fun _ => trivial) rfl (fun _ => rfl) (fun _ => rfl) (vs := [(0, .int .u8 p_c)]) rfl ⟨5, fun _ => by kernel_rfl⟩ ⟨⟨_, _, rfl, rfl, rfl, rfl, rfl, rfl⟩⟩ rfl rfl ?_)
 intro _ r6 H7 h
 obtain ⟨p8, hp9, h⟩ := h
 refine Zv (OV.nilCheck (q := p_b) rfl hp9) (Zf (GL.storeG (p := (p8.1, p8.2 + 1)) (v := slv r6) h trivial rfl rfl rfl rfl ?_))
 intro H10 h
 refine GL.nil (Zo (Za (GL.nil ?_)))
 exact Y1 I3 ⟨.nilIface, rfl, h⟩
def QaO (C : Ctx) (p_b : Option (Nat × Nat)) (p_s : Str) (K : Int → Value → Heap → Prop) (H : Heap) : Prop :=
 QX C p_b (fun H1 =>
 nck p_b fun p2 =>
 ldL H1 (p2.1, p2.2 + 1) fun x4 =>
 apdG 5 [.int .u8 0] 1 x4 (bytesV p_s) (List.length p_s) (fun r6 H7 =>
 nck p_b fun p8 =>
 sttG (p8.1, p8.2 + 1) (slv r6) (fun H10 =>
 K (List.length p_s : Int) .nilIface H10) H7) H1) H
theorem Qcu (C p_b p_s K H) (h : QaO C p_b p_s K H) : Qk C p_b p_s K H := by
 refine Ye Tryz.func89 rfl Tryz.ntmps89 [(0, pv p_b), (1, sv p_s)] (Zo (Za (Za (GL.nil (Zo (Zm (Zc h Qbd ?_)))))))
 rintro _ H1 ⟨rfl, h⟩
 refine GL.nil (Zo (Zm (Zm ?_)))
 obtain ⟨p2, hp3, h⟩ := h
 refine Zv (OV.nilCheck (q := p_b) rfl hp3) (Zf (Yl h fun x4 h => ?_))
 refine Zm (GL.appendGStr (e := 5) (s := x4) (u := p_s) (bytes := 1) h trivial rfl rfl rfl ⟨⟨_, _, rfl, rfl, rfl, rfl, rfl, rfl⟩⟩ rfl ?_)
 intro r6 H7 h
 obtain ⟨p8, hp9, h⟩ := h
 refine Zv (OV.nilCheck (q := p_b) rfl hp9) (Zf (GL.storeG (p := (p8.1, p8.2 + 1)) (v := slv r6) h trivial rfl rfl rfl rfl ?_))
 intro H10 h
 refine GL.nil (Zo (Zm (Zr (Za (Za (GL.nil ?_))))))
 exact Y2 I3 ⟨(List.length p_s : Int), .nilIface, rfl, h⟩
def Qfl (C : Ctx) (p_v : Qb) (v0 : Nat × Nat) (v1 : Nat × Nat) (K : Heap → Prop) (H : Heap) : Prop :=
 nw (Qb.c p_v) (fun b1 H2 =>
 ldI H2 .u8 ((b1, 0).1, (b1, 0).2 + 0) fun x3 =>
 ift ((x3 : Int) == 1)
 (ldI H2 .i64 ((b1, 0).1, (b1, 0).2 + 1) fun x6 =>
 QbB C ((x6 : Int) == 1) (fun r8 H9 =>
 Qk C (some v0) r8 (fun r10 r11 H12 =>
 K H12) H9) H2)
 (ift ((x3 : Int) == 2)
 (ldI H2 .i64 ((b1, 0).1, (b1, 0).2 + 1) fun x14 =>
 Qc5 C x14 10 (fun r16 H17 =>
 Qk C (some v0) r16 (fun r18 r19 H20 =>
 K H20) H17) H2)
 (ift ((x3 : Int) == 3)
 (ldS H2 ((b1, 0).1, (b1, 0).2 + 2) fun x22 =>
 Qk C (some v0) x22 (fun r24 r25 H26 =>
 Qj C (some v0) 98 (fun r27 H28 =>
 K H28) H26) H2)
 (ift ((x3 : Int) == 4)
 (ldS H2 ((b1, 0).1, (b1, 0).2 + 2) fun x30 =>
 Qei C (some v0) x30 (fun H32 =>
 K H32) H2)
 (ift ((x3 : Int) == 5)
 (ldV H2 v1 fun x34 =>
 ldL H2 ((b1, 0).1, (b1, 0).2 + 3) fun x36 =>
 callU Tryz.prog C x34 [slv x36] H2 (fun v H38 => v = .tuple #[] ∧
 K H38))
 (ldS H2 ((b1, 0).1, (b1, 0).2 + 2) fun x39 =>
 Qk C (some v0) x39 (fun r41 r42 H43 =>
 ldL H43 ((b1, 0).1, (b1, 0).2 + 3) fun x44 =>
 ift (decide (((Sl.len x44 : Int) : Int) > 0))
 (ldV H43 v1 fun x47 =>
 ldL H43 ((b1, 0).1, (b1, 0).2 + 3) fun x49 =>
 callU Tryz.prog C x47 [slv x49] H43 (fun v H51 => v = .tuple #[] ∧
 K H51))
 (K H43)) H2)))))) H
theorem Qiq (C p_v v0 v1 K H) (h : Qfl C p_v v0 v1 K H) : QbF C p_v v0 v1 K H := by
 refine Ye Tryz.func90 rfl Tryz.ntmps90 [(0, .agg (Qb.c p_v).toArray), (1, pv (some v0)), (2, pv (some v1))] (Zo (GL.box (v := .agg (Qb.c p_v).toArray) (cs := Qb.c p_v) h trivial rfl rfl rfl ?_))
 intro b1 H2 h
 refine GL.nil (Zo (Zf (Yl h fun x3 h => ?_)))
 refine GL.nil (GC.block (Zo (Zi (.bool ((x3 : Int) == 1)) (Za (GL.nil (Yd h (fun u5 h => ?_) fun u5 h => ?_))))))
 refine GC.region (Zf (Yl h fun x6 h => ?_))
 refine Zi (.bool ((x6 : Int) == 1)) (Zc h Qfa ?_)
 rintro _ H9 ⟨r8, rfl, h⟩
 refine Zc h Qr ?_
 rintro _ H12 ⟨r10, r11, rfl, h⟩
 exact GL.ends (fun _ _ hf hs => QJ rfl hf hs ⟨rfl, h⟩)
 refine Zo (Zi (.bool ((x3 : Int) == 2)) (Za (GL.nil (Yd h (fun u13 h => ?_) fun u13 h => ?_))))
 refine GC.region (Zf (Yl h fun x14 h => ?_))
 refine Zc h QfD ?_
 rintro _ H17 ⟨r16, rfl, h⟩
 refine Zc h Qr ?_
 rintro _ H20 ⟨r18, r19, rfl, h⟩
 exact GL.ends (fun _ _ hf hs => QJ rfl hf hs ⟨rfl, h⟩)
 refine Zo (Zi (.bool ((x3 : Int) == 3)) (Za (GL.nil (Yd h (fun u21 h => ?_) fun u21 h => ?_))))
 refine Zo (Zf (Yl h fun x22 h => ?_))
 refine Zc h Qr ?_
 rintro _ H26 ⟨r24, r25, rfl, h⟩
 refine GL.nil (GC.region (Zc h Qm ?_))
 rintro _ H28 ⟨r27, rfl, h⟩
 exact GL.ends (fun _ _ hf hs => QJ rfl hf hs ⟨rfl, h⟩)
 refine Zo (Zi (.bool ((x3 : Int) == 4)) (Za (GL.nil (Yd h (fun u29 h => ?_) fun u29 h => ?_))))
 refine GC.region (Zf (Yl h fun x30 h => ?_))
 refine Zc h Qjy ?_
 rintro _ H32 ⟨rfl, h⟩
 exact GL.ends (fun _ _ hf hs => QJ rfl hf hs ⟨rfl, h⟩)
 refine Zo (Zi (.bool ((x3 : Int) == 5)) (Za (GL.nil (Yd h (fun u33 h => ?_) fun u33 h => ?_))))
 refine GC.region (Yl h fun x34 h => ?_)
 refine Zf (Yl h fun x36 h => ?_)
 refine GL.callU (xv := x34) (vs := [slv x36]) h trivial rfl rfl rfl ?_
 rintro _ H38 ⟨rfl, h⟩
 exact GL.ends (fun _ _ hf hs => QJ rfl hf hs ⟨rfl, h⟩)
 refine Zo (Zf (Yl h fun x39 h => ?_))
 refine Zc h Qr ?_
 rintro _ H43 ⟨r41, r42, rfl, h⟩
 refine GL.nil (Zo (Zf (Yl h fun x44 h => ?_)))
 refine Zq (Zi (.bool (decide (((Sl.len x44 : Int) : Int) > 0))) (GL.nil (Yd h (fun u46 h => ?_) fun u46 h => ?_)))
 refine GC.region (Yl h fun x47 h => ?_)
 refine Zf (Yl h fun x49 h => ?_)
 refine GL.callU (xv := x47) (vs := [slv x49]) h trivial rfl rfl rfl ?_
 rintro _ H51 ⟨rfl, h⟩
 exact GL.ends (fun _ _ hf hs => QJ rfl hf hs ⟨rfl, h⟩)
 exact GC.ends (fun _ _ hf hs => QJ rfl hf hs ⟨rfl, h⟩)
def QcE (C : Ctx) (p_b : Bool) (K : Str → Heap → Prop) (H : Heap) : Prop :=
 Qa0 C p_b (fun r1 H2 =>
 K r1 H2) H
theorem QeU (C p_b K H) (h : QcE C p_b K H) : QbB C p_b K H := by
 refine Ye Tryz.func91 rfl Tryz.ntmps91 [(0, .bool p_b)] (Zo (Za (GL.nil (Zo (Zm (Zc h QcB ?_))))))
 rintro _ H2 ⟨r1, rfl, h⟩
 refine Za (GL.nil ?_)
 exact Y1 I3 ⟨r1, rfl, h⟩
def Qf2 (C : Ctx) (p_b : Option (Nat × Nat)) (p_s : Str) (K : Heap → Prop) (H : Heap) : Prop :=
 Qj C p_b 34 (fun r1 H2 =>
 lp (α := Int) 0 H2 (fun x3 J4 H5 =>
 ift (decide ((x3 : Int) < (List.length p_s : Int)))
 (jn (α := Unit) (fun x8 H9 =>
 J4 (w .i64 (x3 + 1)) H9)
 (fun J7 => ixs p_s x3 fun c11 =>
 ift ((((c11.toNat : Int) : Int) == 34) || (((c11.toNat : Int) : Int) == 92))
 (Qj C p_b 92 (fun r16 H17 =>
 Qj C p_b (c11.toNat : Int) (fun r18 H19 =>
 J7 () H19) H17) H5)
 (ift (((c11.toNat : Int) : Int) == 10)
 (Qk C p_b [92, 110] (fun r21 r22 H23 =>
 J7 () H23) H5)
 (ift (((c11.toNat : Int) : Int) == 9)
 (Qk C p_b [92, 116] (fun r25 r26 H27 =>
 J7 () H27) H5)
 (ift ((decide (((c11.toNat : Int) : Int) ≥ 32)) && (decide (((c11.toNat : Int) : Int) ≤ 126)))
 (Qj C p_b (c11.toNat : Int) (fun r30 H31 =>
 J7 () H31) H5)
 (Qk C p_b [92, 120] (fun r32 r33 H34 =>
 ixs [48, 49, 50, 51, 52, 53, 54, 55, 56, 57, 97, 98, 99, 100, 101, 102] (sShr .u8 (c11.toNat : Int) 4) fun c35 =>
 Qj C p_b (c35.toNat : Int) (fun r38 H39 =>
 ixs [48, 49, 50, 51, 52, 53, 54, 55, 56, 57, 97, 98, 99, 100, 101, 102] (bAnd .u8 (c11.toNat : Int) 15) fun c40 =>
 Qj C p_b (c40.toNat : Int) (fun r43 H44 =>
 J7 () H44) H39) H34) H5))))))
 (Qj C p_b 34 (fun r45 H46 =>
 K H46) H5))) H
theorem Qjm (C p_b p_s K H) (h : Qf2 C p_b p_s K H) : Qei C p_b p_s K H := by
 refine Ye Tryz.func93 rfl Tryz.ntmps93 [(0, pv p_b), (1, sv p_s)] (Zo (Zm (Zc h Qm ?_)))
 rintro _ H2 ⟨r1, rfl, h⟩
 refine GL.nil (GC.seq (Zo (Zm (Zr (Zm (GL.nil (GC.block (Yp h (fun x3 => [(10, .int .i64 x3), (0, pv p_b), (1, sv p_s), (9, .int .i64 (List.length p_s : Int))]) ?_))))))))
 intro x3 H5 J4 h
 refine Zo (Zi (.bool (decide ((x3 : Int) < (List.length p_s : Int)))) (GL.nil (GC.seq (Yd h (fun hc6 h => ?_) fun hc6 h => ?_))))
 refine GC.skip ?_
 obtain ⟨J7, h, hR10⟩ := h
 refine GC.join (α := Unit) J7 (fun _ => [(0, pv p_b), (1, sv p_s), (9, .int .i64 (List.length p_s : Int)), (10, .int .i64 x3)]) ?_ ?_
 refine GC.block (Zo (Zm (Za (GL.nil (Zo (Zm (Zm (Ys h fun c11 h => ?_))))))))
 refine Za (GL.nil (GC.block (Zo (Zm (Zi (.bool (((c11.toNat : Int) : Int) == 34)) (Zm (GL.cut0 3 [(34, .bool ((((c11.toNat : Int) : Int) == 34) || (((c11.toNat : Int) : Int) == 92))), (0, pv p_b), (1, sv p_s), (5, .int .u8 (c11.toNat : Int)), (9, .int .i64 (List.length p_s : Int)), (10, .int .i64 x3)] ?_ ?_)))))))
 rcases Zb (((c11.toNat : Int) : Int) == 34) with hc14 | hc14
 refine Zk hc14 (Zk hc14 (Zt hc14 ?_))
 exact GL.jump0 (fun _ _ h => h) () rfl ⟨(by rw [hc14]; rfl), rfl, rfl, rfl, rfl, rfl, trivial⟩
 refine Zu hc14 Ym (Zu hc14 (OV.ibin (v := .bool (((c11.toNat : Int) : Int) == 92)) rfl rfl rfl) (Zn hc14 ?_))
 exact GL.jump0 (fun _ _ h => h) () rfl ⟨(by rw [hc14]; rfl), rfl, rfl, rfl, rfl, rfl, trivial⟩
 refine Za (GL.nil (Yd h (fun hc15 h => ?_) fun hc15 h => ?_))
 refine Zo (Zm (Zc h Qm ?_))
 rintro _ H17 ⟨r16, rfl, h⟩
 refine GL.nil (GC.region (Zm (Zm (Zc h Qm ?_))))
 rintro _ H19 ⟨r18, rfl, h⟩
 exact Yj I3 () h
 refine Zo (Zm (Zi (.bool (((c11.toNat : Int) : Int) == 10)) (Za (GL.nil (Yd h (fun hc20 h => ?_) fun hc20 h => ?_)))))
 refine GC.region (Zm (Zc h Qr ?_))
 rintro _ H23 ⟨r21, r22, rfl, h⟩
 exact Yj I3 () h
 refine Zo (Zm (Zi (.bool (((c11.toNat : Int) : Int) == 9)) (Za (GL.nil (Yd h (fun hc24 h => ?_) fun hc24 h => ?_)))))
 refine GC.region (Zm (Zc h Qr ?_))
 rintro _ H27 ⟨r25, r26, rfl, h⟩
 exact Yj I3 () h
 refine Zo (Zm (Zi (.bool (decide (((c11.toNat : Int) : Int) ≥ 32))) (Zm (GL.cut0 3 [(56, .bool ((decide (((c11.toNat : Int) : Int) ≥ 32)) && (decide (((c11.toNat : Int) : Int) ≤ 126)))), (0, pv p_b), (1, sv p_s), (5, .int .u8 (c11.toNat : Int)), (9, .int .i64 (List.length p_s : Int)), (10, .int .i64 x3)] ?_ ?_))))
 rcases Zb (decide (((c11.toNat : Int) : Int) ≥ 32)) with hc28 | hc28
 refine Zu hc28 Ym (Zu hc28 (OV.ibin (v := .bool (decide (((c11.toNat : Int) : Int) ≤ 126))) rfl rfl rfl) (Zt hc28 ?_))
 exact GL.jump0 (fun _ _ h => h) () rfl ⟨(by rw [hc28]; rfl), rfl, rfl, rfl, rfl, rfl, trivial⟩
 refine Zk hc28 (Zk hc28 (Zn hc28 ?_))
 exact GL.jump0 (fun _ _ h => h) () rfl ⟨(by rw [hc28]; rfl), rfl, rfl, rfl, rfl, rfl, trivial⟩
 refine Za (GL.nil (Yd h (fun hc29 h => ?_) fun hc29 h => ?_))
 refine GC.region (Zm (Zm (Zc h Qm ?_)))
 rintro _ H31 ⟨r30, rfl, h⟩
 exact Yj I3 () h
 refine Zo (Zm (Zc h Qr ?_))
 rintro _ H34 ⟨r32, r33, rfl, h⟩
 refine GL.nil (Zo (Zm (Zm (Zv (OV.shr rfl rfl (by decide)) (Ys h fun c35 h => ?_)))))
 refine Zc h Qm ?_
 rintro _ H39 ⟨r38, rfl, h⟩
 refine GL.nil (GC.region (Zm (Zm (Zi (.int .u8 (bAnd .u8 (c11.toNat : Int) 15)) (Ys h fun c40 h => ?_)))))
 refine Zc h Qm ?_
 rintro _ H44 ⟨r43, rfl, h⟩
 exact Yj I3 () h
 intro x8 H9 h
 replace h := hR10 x8 H9 h
 refine GC.region (Zi (.int .i64 (w .i64 (x3 + 1))) (Zm ?_))
 exact Yj I3 (w .i64 (x3 + 1)) h
 refine GC.exit_to (fun _ _ h => h) (GC.region (Zm (Zc h Qm ?_)))
 rintro _ H46 ⟨r45, rfl, h⟩
 exact GL.ends (fun _ _ hf hs => QJ rfl hf hs ⟨rfl, h⟩)
def QbI (C : Ctx) (p_b : Option (Nat × Nat)) (K : Str → Heap → Prop) (H : Heap) : Prop :=
 dr H fun Hs1 =>
 nck p_b fun p3 =>
 ldL Hs1 (p3.1, p3.2 + 1) fun x5 =>
 ((Sl.p x5 = none ∨ Sl.cap x5 ≠ 0) ∧ Sl.x x5 = none) ∧
 nck p_b fun p9 =>
 ldL Hs1 (p9.1, p9.2 + 1) fun x11 =>
 ust 5 (Sl.p x5) (Sl.len x11 : Int) (fun r14 H15 =>
 Heap.le Hs1 H15 ∧
 K r14 H15) H
theorem QdJ (C p_b K H) (h : QbI C p_b K H) : Qy C p_b K H := by
 refine Ye Tryz.func94 rfl Tryz.ntmps94 [(0, pv p_b)] (Zo (Za (GL.nil (GC.seq ?_))))
 obtain ⟨Hs1, hle2, h⟩ := h
 refine GC.any (Hs := Hs1) (by kernel_rfl) hle2 (Zp 0 rfl Ym ?_)
 obtain ⟨p3, hp4, h⟩ := h
 refine Zp 1 rfl (OV.nilCheck (q := p_b) rfl hp4) (Zp 2 rfl Yf ?_)
 obtain ⟨x5, v6, h⟩ := h
 refine Zp 3 rfl (Yo v6) ?_
 obtain ⟨⟨h7, h8⟩, h⟩ := h
 refine Zp 4 rfl (OV.usd (s := x5) h7 h8 rfl) (Zp 5 rfl Ym ?_)
 obtain ⟨p9, hp10, h⟩ := h
 refine Zp 6 rfl (OV.nilCheck (q := p_b) rfl hp10) (Zp 7 rfl Yf ?_)
 obtain ⟨x11, v12, h⟩ := h
 refine Zp 8 rfl (Yo v12) (Zp 9 rfl (OV.lenSl rfl rfl) (GA.eff 10 rfl (by kernel_rfl) (GL.ust (e := 5) (p := (Sl.p x5)) (m := (Sl.len x11 : Int)) h trivial rfl rfl rfl rfl (by kernel_rfl) ?_)))
 intro r14 H15 h
 obtain ⟨hle13, h⟩ := h
 refine GA.back hle13 (Zp 11 rfl Ya (GA.done (by kernel_rfl) (GL.nil ?_)))
 exact Y1 I3 ⟨r14, rfl, h⟩
def QhR (C : Ctx) (p_l : Sl) (K : Bool → Heap → Prop) (H : Heap) : Prop :=
 lp (α := Int) 0 H (fun x1 J2 H3 =>
 ift (decide ((x1 : Int) < (Sl.len p_l : Int)))
 (ixa p_l x1 fun p5 =>
 ldT H3 Qb.c (p5.1, p5.2 + (x1 : Int).toNat * 4) fun x10 =>
 QaR C x10 (fun r12 H13 =>
 ift ((r12 : Int) != 0)
 (K false H13)
 (J2 (w .i64 (x1 + 1)) H13)) H3)
 (K true H3))
theorem Qk1 (C p_l K H) (h : QhR C p_l K H) : Qc3 C p_l K H := by
 refine Ye Tryz.func95 rfl Tryz.ntmps95 [(0, slv p_l)] (Zo (Za (GL.nil (GC.seq (Zo (Za (GL.nil (GC.block (Yp h (fun x1 => [(3, .int .i64 x1), (0, slv p_l)]) ?_)))))))))
 intro x1 H3 J2 h
 refine GC.seq (Zo (Zm (Zm (Zq (Zi (.bool (decide ((x1 : Int) < (Sl.len p_l : Int)))) (GL.nil (Yd h (fun u4 h => ?_) fun u4 h => ?_)))))))
 refine GC.skip (GC.seq (GC.block (Zo (Zm (Zm (Yx h fun p5 h => ?_))))))
 obtain ⟨x10, v11, h⟩ := h
 refine Zv (OV.loadT rfl rfl rfl v11) (Zc h Qjt ?_)
 rintro _ H13 ⟨r12, rfl, h⟩
 refine Zi (.bool ((r12 : Int) != 0)) (GL.nil (Yd h (fun u14 h => ?_) fun u14 h => ?_))
 refine Zo (Za (GL.nil ?_))
 exact Y1 I3 ⟨false, rfl, h⟩
 refine GC.skip_to (fun _ _ h => h) (GC.region (Zm (Zi (.int .i64 (w .i64 (x1 + 1))) (Za ?_))))
 exact Yj I3 (w .i64 (x1 + 1)) h
 refine GC.exit_to (fun _ _ h => h) (Zo (Za (GL.nil ?_)))
 exact Y1 I3 ⟨true, rfl, h⟩
def Qhb (C : Ctx) (p_a : Bool) (p_b : Bool) (K : Int → Heap → Prop) (H : Heap) : Prop :=
 ift (p_a == p_b)
 (K 0 H)
 (ift p_a
 (K (-1) H)
 (K 1 H))
theorem Qka (C p_a p_b K H) (h : Qhb C p_a p_b K H) : QeZ C p_a p_b K H := by
 refine Ye Tryz.func96 rfl Tryz.ntmps96 [(0, .bool p_a), (1, .bool p_b)] (Zo (Za (GL.nil (GC.seq (Zo (Zm (Zm (Zv (OV.eqlBool rfl rfl rfl) (GL.nil (Yd h (fun u1 h => ?_) fun u1 h => ?_))))))))))
 refine Zo (Za (GL.nil ?_))
 exact Y1 I3 ⟨0, rfl, h⟩
 refine GC.skip (GC.seq (Zo (Zm (GL.nil (Yd h (fun u2 h => ?_) fun u2 h => ?_)))))
 refine Zo (Za (GL.nil ?_))
 exact Y1 I3 ⟨(-1), rfl, h⟩
 refine GC.skip (Zo (Za (GL.nil ?_)))
 exact Y1 I3 ⟨1, rfl, h⟩
def Qhc (C : Ctx) (p_a : Sl) (p_b : Sl) (K : Int → Heap → Prop) (H : Heap) : Prop :=
 lp (α := Int) 0 H (fun x1 J2 H3 =>
 ift ((decide ((x1 : Int) < (Sl.len p_a : Int))) && (decide ((x1 : Int) < (Sl.len p_b : Int))))
 (dr H3 fun Hs6 =>
 ixa p_a x1 fun p8 =>
 ldT Hs6 Qb.c (p8.1, p8.2 + (x1 : Int).toNat * 4) fun x13 =>
 ixa p_b x1 fun p15 =>
 ldT Hs6 Qb.c (p15.1, p15.2 + (x1 : Int).toNat * 4) fun x20 =>
 QaT C x13 x20 (fun r23 H24 =>
 Heap.le Hs6 H24 ∧
 ift ((r23 : Int) != 0)
 (K r23 H24)
 (J2 (w .i64 (x1 + 1)) H24)) H3)
 (QaM C (Sl.len p_a : Int) (Sl.len p_b : Int) (fun r26 H27 =>
 K r26 H27) H3))
theorem Qkb (C p_a p_b K H) (h : Qhc C p_a p_b K H) : QbT C p_a p_b K H := by
 refine Ye Tryz.func97 rfl Tryz.ntmps97 [(0, slv p_a), (1, slv p_b)] (Zo (Za (GL.nil (GC.seq (Zo (Za (GL.nil (GC.block (Yp h (fun x1 => [(5, .int .i64 x1), (0, slv p_a), (1, slv p_b)]) ?_)))))))))
 intro x1 H3 J2 h
 refine GC.seq (Zo (Zm (Zm (Zq (Zi (.bool (decide ((x1 : Int) < (Sl.len p_a : Int)))) (Zm (GL.cut0 5 [(16, .bool ((decide ((x1 : Int) < (Sl.len p_a : Int))) && (decide ((x1 : Int) < (Sl.len p_b : Int))))), (0, slv p_a), (1, slv p_b), (5, .int .i64 x1)] ?_ ?_)))))))
 rcases Zb (decide ((x1 : Int) < (Sl.len p_a : Int))) with u4 | u4
 refine Zu u4 Ym (Zu u4 Ym (Zu u4 (OV.lenSl rfl rfl) (Zu u4 (OV.ibin (v := .bool (decide ((x1 : Int) < (Sl.len p_b : Int)))) rfl rfl rfl) (Zt u4 ?_))))
 exact GL.jump0 (fun _ _ h => h) () rfl ⟨(by rw [u4]; rfl), rfl, rfl, rfl, trivial⟩
 refine Zk u4 (Zk u4 (Zk u4 (Zk u4 (Zn u4 ?_))))
 exact GL.jump0 (fun _ _ h => h) () rfl ⟨(by rw [u4]; rfl), rfl, rfl, rfl, trivial⟩
 refine GL.nil (Yd h (fun u5 h => ?_) fun u5 h => ?_)
 refine GC.skip (GC.seq (GC.block (GC.seq ?_)))
 obtain ⟨Hs6, hle7, h⟩ := h
 refine GC.any (Hs := Hs6) (by kernel_rfl) hle7 (Zp 0 rfl Ym (Zp 1 rfl Ym ?_))
 obtain ⟨p8, ha9, hb10, u11, hd12, h⟩ := h
 refine Zp 2 rfl (OV.indexAddr rfl rfl rfl rfl ha9 hb10 u11 hd12) ?_
 obtain ⟨x13, v14, h⟩ := h
 refine Zp 3 rfl (OV.loadT rfl rfl rfl v14) (Zp 4 rfl Ym (Zp 5 rfl Ym ?_))
 obtain ⟨p15, ha16, hb17, u18, hd19, h⟩ := h
 refine Zp 6 rfl (OV.indexAddr rfl rfl rfl rfl ha16 hb17 u18 hd19) ?_
 obtain ⟨x20, v21, h⟩ := h
 refine Zp 7 rfl (OV.loadT rfl rfl rfl v21) (GA.eff 8 rfl (by kernel_rfl) (Zc h Qlm ?_))
 rintro _ H24 ⟨r23, rfl, h⟩
 obtain ⟨hle22, h⟩ := h
 refine GA.back hle22 (Zp 9 rfl Ya (GA.done (by kernel_rfl) (GL.nil (Zo (Zm (Zi (.bool ((r23 : Int) != 0)) (GL.nil (Yd h (fun u25 h => ?_) fun u25 h => ?_))))))))
 refine Zo (Zm (Za (GL.nil ?_)))
 exact Y1 I3 ⟨r23, rfl, h⟩
 refine GC.skip_to (fun _ _ h => h) (GC.region (Zm (Zi (.int .i64 (w .i64 (x1 + 1))) (Za ?_))))
 exact Yj I3 (w .i64 (x1 + 1)) h
 refine GC.exit_to (fun _ _ h => h) (Zo (Zm (Zq (Zm (Zq (Zc h Qbx ?_))))))
 rintro _ H27 ⟨r26, rfl, h⟩
 refine Za (GL.nil ?_)
 exact Y1 I3 ⟨r26, rfl, h⟩
def QcF (C : Ctx) (p_s : Str) (p_prefix : Str) (K : Str → Heap → Prop) (H : Heap) : Prop :=
 Qaz C p_s p_prefix (fun r1 H2 =>
 K r1 H2) H
theorem QeV (C p_s p_prefix K H) (h : QcF C p_s p_prefix K H) : QbC C p_s p_prefix K H := by
 refine Ye Tryz.func98 rfl Tryz.ntmps98 [(0, sv p_s), (1, sv p_prefix)] (Zo (Za (GL.nil (Zo (Zm (Zm (Zc h Qb0 ?_)))))))
 rintro _ H2 ⟨r1, rfl, h⟩
 refine Za (GL.nil ?_)
 exact Y1 I3 ⟨r1, rfl, h⟩
def Qfj (C : Ctx) (p_s : Str) (p_cutset : Str) (K : Str → Heap → Prop) (H : Heap) : Prop :=
 ift ((p_s == ([] : Str)) || (p_cutset == ([] : Str)))
 (K p_s H)
 (jn (α := Bool) (fun b3 H10 =>
 ift b3
 (dr H10 fun Hs12 =>
 ixs p_cutset 0 fun c14 =>
 ixs p_cutset 0 fun c17 =>
 Qeg C p_s (c14.toNat : Int) (fun r21 H22 =>
 Heap.le Hs12 H22 ∧
 QeR C r21 (c17.toNat : Int) (fun r24 H25 =>
 Heap.le Hs12 H25 ∧
 K r24 H25) H22) H10)
 (QE C p_cutset (fun r26 r27 H28 =>
 nw ((List.replicate 256 (.bool false : Value))) (fun b29 H30 =>
 stC 256 (b29, 0) r26 (fun H31 =>
 ift r27
 (QaJ C p_s (some (b29, 0)) (fun r35 H36 =>
 QaW C r35 (some (b29, 0)) (fun r37 H38 =>
 K r37 H38) H36) H31)
 (Qdr C p_s p_cutset (fun r39 H40 =>
 QdO C r39 p_cutset (fun r41 H42 =>
 K r41 H42) H40) H31)) H30) H28) H10))
 (fun J4 => ift (((List.length p_cutset : Int) : Int) == 1)
 (ixs p_cutset 0 fun c7 =>
 J4 (decide (((c7.toNat : Int) : Int) < 128)) H)
 (J4 false H)))
theorem Qio (C p_s p_cutset K H) (h : Qfj C p_s p_cutset K H) : QaH C p_s p_cutset K H := by
 refine Ye Tryz.func99 rfl Tryz.ntmps99 [(0, sv p_s), (1, sv p_cutset)] (Zo (Za (GL.nil (GC.seq (Zo (Zm (Zv (OV.sbin (a := p_s) (b := ([] : Str)) (v := .bool (p_s == ([] : Str))) rfl rfl rfl) (Zm (GL.cut0 3 [(12, .bool ((p_s == ([] : Str)) || (p_cutset == ([] : Str)))), (0, sv p_s), (1, sv p_cutset)] ?_ ?_)))))))))
 rcases Zb (p_s == ([] : Str)) with u1 | u1
 refine Zk u1 (Zk u1 (Zt u1 ?_))
 exact GL.jump0 (fun _ _ h => h) () rfl ⟨(by rw [u1]; rfl), rfl, rfl, trivial⟩
 refine Zu u1 Ym (Zu u1 (OV.sbin (a := p_cutset) (b := ([] : Str)) (v := .bool (p_cutset == ([] : Str))) rfl rfl rfl) (Zn u1 ?_))
 exact GL.jump0 (fun _ _ h => h) () rfl ⟨(by rw [u1]; rfl), rfl, rfl, trivial⟩
 refine GL.nil (Yd h (fun u2 h => ?_) fun u2 h => ?_)
 refine Zo (Zm (Za (GL.nil ?_)))
 exact Y1 I3 ⟨p_s, rfl, h⟩
 refine GC.skip (GC.seq (Zo (Zm (Zr (Zi (.bool (((List.length p_cutset : Int) : Int) == 1)) (Zm ?_))))))
 obtain ⟨J4, h, hR5⟩ := h
 refine GL.cut (α := Bool) 4 J4 (fun b3 => [(21, .bool b3), (0, sv p_s), (1, sv p_cutset)]) ?_ ?_
 rcases h.em with ⟨u6, h⟩ | ⟨u6, h⟩
 refine Zu u6 Ym ?_
 obtain ⟨c7, ha8, hb9, h⟩ := h
 refine Zu u6 (OV.indexStr rfl rfl rfl ha8 hb9) (Zu u6 (OV.ibin (v := .bool (decide (((c7.toNat : Int) : Int) < 128))) rfl rfl rfl) (Zt u6 ?_))
 exact Yj I3 (decide (((c7.toNat : Int) : Int) < 128)) h
 refine Zk u6 (Zk u6 (Zk u6 (Zn u6 ?_)))
 exact Yj I3 false h
 intro b3 H10 h
 replace h := hR5 b3 H10 h
 refine GL.nil (Yd h (fun u11 h => ?_) fun u11 h => ?_)
 refine GC.seq ?_
 obtain ⟨Hs12, hle13, h⟩ := h
 refine GC.any (Hs := Hs12) (by kernel_rfl) hle13 (Zp 0 rfl Ym (Zp 1 rfl Ym ?_))
 obtain ⟨c14, ha15, hb16, h⟩ := h
 refine Zp 2 rfl (OV.indexStr rfl rfl rfl ha15 hb16) (Zp 4 rfl Ym ?_)
 obtain ⟨c17, ha18, hb19, h⟩ := h
 refine Zp 5 rfl (OV.indexStr rfl rfl rfl ha18 hb19) (GA.eff 3 rfl (by kernel_rfl) (Zc h Qd4 ?_))
 rintro _ H22 ⟨r21, rfl, h⟩
 obtain ⟨hle20, h⟩ := h
 refine GA.back hle20 (GA.eff 6 rfl (by kernel_rfl) (Zc h Qew ?_))
 rintro _ H25 ⟨r24, rfl, h⟩
 obtain ⟨hle23, h⟩ := h
 refine GA.back hle23 (Zp 7 rfl Ya (GA.done (by kernel_rfl) (GL.nil ?_)))
 exact Y1 I3 ⟨r24, rfl, h⟩
 refine GC.skip (GC.seq (Zo (Zm (Zc h Qev ?_))))
 rintro _ H28 ⟨r26, r27, rfl, h⟩
 refine Zm (Yv (.agg (List.toArray r26)) rfl rfl (Yv (.bool r27) rfl rfl (GL.alloc (cs := (List.replicate 256 (.bool false : Value))) h trivial rfl rfl rfl ?_)))
 intro b29 H30 h
 obtain ⟨hl32, h133, h⟩ := h
 refine GL.storeT (p := (b29, 0)) (vs := r26) h trivial rfl rfl h133 (by rw [hl32]; rfl) ?_
 intro H31 h
 refine Za (GL.nil (Zo (Zm (GL.nil (Yd h (fun u34 h => ?_) fun u34 h => ?_)))))
 refine Zo (Zm (Zc h QdW ?_))
 rintro _ H36 ⟨r35, rfl, h⟩
 refine Zc h Qd3 ?_
 rintro _ H38 ⟨r37, rfl, h⟩
 refine Za (GL.nil ?_)
 exact Y1 I3 ⟨r37, rfl, h⟩
 refine GC.skip (Zo (Zm (Zm (Zc h Qdf ?_))))
 rintro _ H40 ⟨r39, rfl, h⟩
 refine Zm (Zc h Qds ?_)
 rintro _ H42 ⟨r41, rfl, h⟩
 refine Za (GL.nil ?_)
 exact Y1 I3 ⟨r41, rfl, h⟩
def Qbp (C : Ctx) (p_s : Str) (p_sep : Str) (K : Str → Str → Bool → Heap → Prop) (H : Heap) : Prop :=
 Qai C p_s p_sep (fun r1 H2 =>
 ift (decide ((r1 : Int) ≥ 0))
 (slS p_s 0 r1 fun t4 =>
 slS p_s (w .i64 (r1 + (List.length p_sep : Int))) (List.length p_s : Int) fun t10 =>
 K t4 t10 true H2)
 (K p_s [] false H2)) H
theorem Qc2 (C p_s p_sep K H) (h : Qbp C p_s p_sep K H) : Qbz C p_s p_sep K H := by
 refine Ye Tryz.func100 rfl Tryz.ntmps100 [(0, sv p_s), (1, sv p_sep)] (Zo (Za (Za (Za (GL.nil (GC.seq (Zo (Zm (Zm (Zc h QcJ ?_))))))))))
 rintro _ H2 ⟨r1, rfl, h⟩
 refine Za (GL.nil (Zo (Zm (Zi (.bool (decide ((r1 : Int) ≥ 0))) (GL.nil (Yd h (fun u3 h => ?_) fun u3 h => ?_))))))
 refine GC.seq (GC.draw (by kernel_rfl) (by kernel_rfl) (GQ.val trivial rfl (OV.move (v := sv p_s) rfl) (GQ.val trivial rfl (OV.move (v := .int .i64 r1) rfl) ?_)))
 obtain ⟨h5, h6, h7, t4, h8, h⟩ := h
 refine GQ.val trivial rfl (OV.sliceStr (s := p_s) h5 h6 h7 h8 rfl rfl rfl rfl rfl rfl) (GQ.val trivial rfl (OV.move (v := sv p_s) rfl) (GQ.val trivial rfl (OV.move (v := .int .i64 r1) rfl) (GQ.val trivial rfl (OV.move (v := sv p_sep) rfl) (GQ.val trivial rfl (OV.lenStr (s := p_sep) rfl rfl) (GQ.val trivial rfl (OV.ibin (v := .int .i64 (w .i64 (r1 + (List.length p_sep : Int)))) rfl rfl rfl) ?_)))))
 obtain ⟨h11, h12, h13, t10, h14, h⟩ := h
 refine GQ.val trivial rfl (OV.sliceStr (s := p_s) h11 h12 h13 h14 rfl rfl rfl rfl rfl rfl) (GQ.val trivial rfl (OV.assign (v := sv t4) rfl) (GQ.val trivial rfl (OV.assign (v := sv t10) rfl) (GQ.val trivial rfl (OV.assign (v := .bool true) rfl) (GQ.nil (GL.nil ?_)))))
 exact Y3 I3 ⟨t4, t10, true, rfl, h⟩
 refine GC.skip (Zo (Zm (Za (Za (Za (GL.nil ?_))))))
 exact Y3 I3 ⟨p_s, [], false, rfl, h⟩
def QF (C : Ctx) (p_data : Sl) (p_a : Int) (p_b : Int) (p_cmp : Value) (K : Heap → Prop) (H : Heap) : Prop :=
 lp (α := Int) (w .i64 (p_a + 1)) H (fun x1 J2 H3 =>
 ift (decide ((x1 : Int) < p_b))
 (lp (α := Int) x1 H3 (fun x5 J6 H7 =>
 jn (α := Bool) (fun x9 H10 =>
 ift x9
 (jn (α := Unit) (fun x34 H35 =>
 J6 (w .i64 (x5 - 1)) H35)
 (fun J33 => dr H10 fun Hs37 =>
 ixa p_data (w .i64 (x5 - 1)) fun p39 =>
 ixa p_data x5 fun p44 =>
 (ldT H10 Qa.c (p39.1, p39.2 + (w .i64 (x5 - 1) : Int).toNat * 2) fun x50 =>
 Heap.le Hs37 H10 ∧
 ldT H10 Qa.c (p44.1, p44.2 + (x5 : Int).toNat * 2) fun x53 =>
 Heap.le Hs37 H10 ∧
 ixa p_data x5 fun p55 =>
 stT (p55.1, p55.2 + (x5 : Int).toNat * 2) (Qa.c x50) (fun H61 =>
 Heap.le Hs37 H61 ∧
 ixa p_data (w .i64 (x5 - 1)) fun p62 =>
 stT (p62.1, p62.2 + (w .i64 (x5 - 1) : Int).toNat * 2) (Qa.c x53) (fun H67 =>
 J33 () H67) H61) H10) ∧
 (ldT H10 Qa.c (p44.1, p44.2 + (x5 : Int).toNat * 2) fun x69 =>
 Heap.le Hs37 H10 ∧
 ldT H10 Qa.c (p39.1, p39.2 + (w .i64 (x5 - 1) : Int).toNat * 2) fun x72 =>
 Heap.le Hs37 H10 ∧
 ixa p_data x5 fun p74 =>
 stT (p74.1, p74.2 + (x5 : Int).toNat * 2) (Qa.c x72) (fun H80 =>
 Heap.le Hs37 H80 ∧
 ixa p_data (w .i64 (x5 - 1)) fun p81 =>
 stT (p81.1, p81.2 + (w .i64 (x5 - 1) : Int).toNat * 2) (Qa.c x69) (fun H86 =>
 J33 () H86) H80) H10)))
 (J2 (w .i64 (x1 + 1)) H10))
 (fun J8 => dr H7 fun Hs12 =>
 ift (decide ((x5 : Int) > p_a))
 (ixa p_data x5 fun p15 =>
 ldT Hs12 Qa.c (p15.1, p15.2 + (x5 : Int).toNat * 2) fun x20 =>
 ixa p_data (w .i64 (x5 - 1)) fun p22 =>
 ldT Hs12 Qa.c (p22.1, p22.2 + (w .i64 (x5 - 1) : Int).toNat * 2) fun x27 =>
 callU Tryz.prog C p_cmp [.agg (Qa.c x20).toArray, .agg (Qa.c x27).toArray] H7 (fun v H31 => ∃ (r30 : Int), v = .int .i64 r30 ∧
 Heap.le Hs12 H31 ∧
 J8 (decide ((r30 : Int) < 0)) H31))
 (J8 false H7))))
 (K H3))
theorem Q8 (C p_data p_a p_b p_cmp K H) (h : QF C p_data p_a p_b p_cmp K H) : Qv C p_data p_a p_b p_cmp K H := by
 refine Ye Tryz.func101 rfl Tryz.ntmps101 [(0, slv p_data), (1, .int .i64 p_a), (2, .int .i64 p_b), (3, p_cmp)] (Zo (Zm (Zi (.int .i64 (w .i64 (p_a + 1))) (Za (GL.nil (GC.block (Yp h (fun x1 => [(8, .int .i64 x1), (0, slv p_data), (1, .int .i64 p_a), (2, .int .i64 p_b), (3, p_cmp)]) ?_)))))))
 intro x1 H3 J2 h
 refine GC.seq (Zo (Zm (Zm (Zi (.bool (decide ((x1 : Int) < p_b))) (GL.nil (Yd h (fun u4 h => ?_) fun u4 h => ?_))))))
 refine GC.skip (GC.seq (GC.block (Zo (Zm (Za (GL.nil (GC.block (Yp h (fun x5 => [(9, .int .i64 x5), (0, slv p_data), (1, .int .i64 p_a), (2, .int .i64 p_b), (3, p_cmp), (8, .int .i64 x1)]) ?_))))))))
 intro x5 H7 J6 h
 refine GC.seq (GC.seq ?_)
 obtain ⟨J8, h, hR11⟩ := h
 refine GC.meet (α := Bool) J8 (fun x9 => [(34, .bool x9), (0, slv p_data), (1, .int .i64 p_a), (2, .int .i64 p_b), (3, p_cmp), (8, .int .i64 x1), (9, .int .i64 x5)]) ?_ ?_
 obtain ⟨Hs12, hle13, h⟩ := h
 refine GC.any (Hs := Hs12) (by kernel_rfl) hle13 (Zp 0 rfl Ym (Zp 1 rfl Ym (Zp 2 rfl (OV.ibin (v := .bool (decide ((x5 : Int) > p_a))) rfl rfl rfl) (Zp 3 rfl Ym ?_))))
 rcases h.em with ⟨u14, h⟩ | ⟨u14, h⟩
 refine Zg 4 rfl (Yt u14) Ym (Zg 5 rfl (Yt u14) Ym (Zg 6 rfl (Yt u14) Ym ?_))
 obtain ⟨p15, ha16, hb17, u18, hd19, h⟩ := h
 refine Zg 7 rfl (Yt u14) (OV.indexAddr rfl rfl rfl rfl ha16 hb17 u18 hd19) ?_
 obtain ⟨x20, v21, h⟩ := h
 refine Zg 8 rfl (Yt u14) (OV.loadT rfl rfl rfl v21) (Zg 9 rfl (Yt u14) Ym (Zg 10 rfl (Yt u14) Ym (Zg 11 rfl (Yt u14) (OV.ibin (v := .int .i64 (w .i64 (x5 - 1))) rfl rfl rfl) ?_)))
 obtain ⟨p22, ha23, hb24, u25, hd26, h⟩ := h
 refine Zg 12 rfl (Yt u14) (OV.indexAddr rfl rfl rfl rfl ha23 hb24 u25 hd26) ?_
 obtain ⟨x27, v28, h⟩ := h
 refine Zg 13 rfl (Yt u14) (OV.loadT rfl rfl rfl v28) (GA.eff 14 rfl (by kernel_rfl) (GL.callU (xv := p_cmp) (vs := [.agg (Qa.c x20).toArray, .agg (Qa.c x27).toArray]) h (Yt u14) rfl rfl rfl ?_))
 rintro _ H31 ⟨r30, rfl, h⟩
 obtain ⟨hle29, h⟩ := h
 refine GA.back hle29 (Zg 15 rfl (Yt u14) (OV.ibin (v := .bool (decide ((r30 : Int) < 0))) rfl rfl rfl) (Zp 16 rfl (OV.pickT rfl u14 rfl) (GA.done (by kernel_rfl) ?_)))
 exact Yj I3 (decide ((r30 : Int) < 0)) h
 refine Zj 4 rfl (Yw u14) (Zj 5 rfl (Yw u14) (Zj 6 rfl (Yw u14) (Zj 7 rfl (Yw u14) (Zj 8 rfl (Yw u14) (Zj 9 rfl (Yw u14) (Zj 10 rfl (Yw u14) (Zj 11 rfl (Yw u14) (Zj 12 rfl (Yw u14) (Zj 13 rfl (Yw u14) (Zj 14 rfl (Yw u14) (Zj 15 rfl (Yw u14) (Zp 16 rfl (OV.pickF rfl u14 rfl) (GA.done (by kernel_rfl) ?_)))))))))))))
 exact Yj I3 false h
 intro x9 H10 h
 replace h := hR11 x9 H10 h
 refine GL.nil (Yd h (fun u32 h => ?_) fun u32 h => ?_)
 refine GC.skip (GC.seq (GC.block ?_))
 obtain ⟨J33, h, hR36⟩ := h
 refine GC.meet (α := Unit) J33 (fun _ => [(0, slv p_data), (1, .int .i64 p_a), (2, .int .i64 p_b), (3, p_cmp), (8, .int .i64 x1), (9, .int .i64 x5)]) ?_ ?_
 obtain ⟨Hs37, hle38, h⟩ := h
 refine GC.tail (Hs := Hs37) 17 (by kernel_rfl) hle38 (by kernel_rfl) (Zy 0 rfl Ym (Zy 1 rfl Ym (Zy 2 rfl Ym (Zy 3 rfl Ym (Zy 4 rfl (OV.ibin (v := .int .i64 (w .i64 (x5 - 1))) rfl rfl rfl) (Zy 5 rfl Ym (Zy 6 rfl Ym (Zy 7 rfl (OV.ibin (v := .int .i64 (w .i64 (x5 - 1))) rfl rfl rfl) ?_))))))))
 obtain ⟨p39, ha40, hb41, u42, hd43, h⟩ := h
 refine Zy 8 rfl (OV.indexAddr rfl rfl rfl rfl ha40 hb41 u42 hd43) (Zy 10 rfl Ym (Zy 11 rfl Ym ?_))
 obtain ⟨p44, ha45, hb46, u47, hd48, h⟩ := h
 refine Zy 12 rfl (OV.indexAddr rfl rfl rfl rfl ha45 hb46 u47 hd48) (GT.effs [9, 13] (by kernel_rfl) (by simp) (List.forall_mem_cons.2 ⟨⟨_, rfl, rfl, ?_⟩, List.forall_mem_cons.2 ⟨⟨_, rfl, rfl, ?_⟩, fun _ h => by cases h⟩⟩))
 replace h := h.1
 obtain ⟨x50, v51, h⟩ := h
 refine Zv (OV.loadT rfl rfl rfl v51) ?_
 obtain ⟨hle49, h⟩ := h
 refine GT.back hle49 (GT.eff 13 rfl (by kernel_rfl) rfl ?_)
 obtain ⟨x53, v54, h⟩ := h
 refine Zv (OV.loadT rfl rfl rfl v54) ?_
 obtain ⟨hle52, h⟩ := h
 refine GT.back hle52 ?_
 obtain ⟨p55, ha56, hb57, u58, hd59, h⟩ := h
 refine Zy 14 rfl (OV.indexAddr rfl rfl rfl rfl ha56 hb57 u58 hd59) (GT.eff 15 rfl (by kernel_rfl) rfl (GL.storeT (p := (p55.1, p55.2 + (x5 : Int).toNat * 2)) (vs := Qa.c x50) h trivial rfl rfl rfl rfl ?_))
 intro H61 h
 obtain ⟨hle60, h⟩ := h
 refine GT.back hle60 ?_
 obtain ⟨p62, ha63, hb64, u65, hd66, h⟩ := h
 refine Zy 16 rfl (OV.indexAddr rfl rfl rfl rfl ha63 hb64 u65 hd66) (GT.done (by kernel_rfl) ?_)
 show GL _ _ _ _ _ [_] _ _
 refine GL.storeT (p := (p62.1, p62.2 + (w .i64 (x5 - 1) : Int).toNat * 2)) (vs := Qa.c x53) h trivial rfl rfl rfl rfl ?_
 intro H67 h
 exact Yj I3 () h
 replace h := h.2
 obtain ⟨x69, v70, h⟩ := h
 refine Zv (OV.loadT rfl rfl rfl v70) ?_
 obtain ⟨hle68, h⟩ := h
 refine GT.back hle68 (GT.eff 9 rfl (by kernel_rfl) rfl ?_)
 obtain ⟨x72, v73, h⟩ := h
 refine Zv (OV.loadT rfl rfl rfl v73) ?_
 obtain ⟨hle71, h⟩ := h
 refine GT.back hle71 ?_
 obtain ⟨p74, ha75, hb76, u77, hd78, h⟩ := h
 refine Zy 14 rfl (OV.indexAddr rfl rfl rfl rfl ha75 hb76 u77 hd78) (GT.eff 15 rfl (by kernel_rfl) rfl (GL.storeT (p := (p74.1, p74.2 + (x5 : Int).toNat * 2)) (vs := Qa.c x72) h trivial rfl rfl rfl rfl ?_))
 intro H80 h
 obtain ⟨hle79, h⟩ := h
 refine GT.back hle79 ?_
 obtain ⟨p81, ha82, hb83, u84, hd85, h⟩ := h
 refine Zy 16 rfl (OV.indexAddr rfl rfl rfl rfl ha82 hb83 u84 hd85) (GT.done (by kernel_rfl) ?_)
 show GL _ _ _ _ _ [_] _ _
 refine GL.storeT (p := (p81.1, p81.2 + (w .i64 (x5 - 1) : Int).toNat * 2)) (vs := Qa.c x69) h trivial rfl rfl rfl rfl ?_
 intro H86 h
 exact Yj I3 () h
 intro x34 H35 h
 replace h := hR36 x34 H35 h
 refine GL.nil_to (fun _ _ h => h) (GC.region (Zm (Zi (.int .i64 (w .i64 (x5 - 1))) (Za ?_))))
 exact Yj I3 (w .i64 (x5 - 1)) h
 refine GC.exit_to (fun _ _ h => h) (GC.region (Zm (Zi (.int .i64 (w .i64 (x1 + 1))) (Za ?_))))
 exact Yj I3 (w .i64 (x1 + 1)) h
 exact GC.exit_ends (fun _ _ hf hs => QJ rfl hf hs ⟨rfl, h⟩)
def Qao (C : Ctx) (p_data : Sl) (p_a : Int) (p_m : Int) (p_b : Int) (p_cmp : Value) (K : Heap → Prop) (H : Heap) : Prop :=
 ift (((w .i64 (p_m - p_a)) : Int) == 1)
 (lp (α := Int × Int) (p_m, p_b) H (fun x2 J3 H4 =>
 ift (decide ((x2.1 : Int) < x2.2))
 (dr H4 fun Hs6 =>
 ixa p_data (w .i64 (sShr .u64 (w .u64 (w .i64 (x2.1 + x2.2))) 1)) fun p8 =>
 ldT Hs6 Qa.c (p8.1, p8.2 + (w .i64 (sShr .u64 (w .u64 (w .i64 (x2.1 + x2.2))) 1) : Int).toNat * 2) fun x13 =>
 ixa p_data p_a fun p15 =>
 ldT Hs6 Qa.c (p15.1, p15.2 + (p_a : Int).toNat * 2) fun x20 =>
 callU Tryz.prog C p_cmp [.agg (Qa.c x13).toArray, .agg (Qa.c x20).toArray] H4 (fun v H24 => ∃ (r23 : Int), v = .int .i64 r23 ∧
 Heap.le Hs6 H24 ∧
 ift (decide ((r23 : Int) < 0))
 (J3 ((w .i64 ((w .i64 (sShr .u64 (w .u64 (w .i64 (x2.1 + x2.2))) 1)) + 1)), x2.2) H24)
 (J3 (x2.1, (w .i64 (sShr .u64 (w .u64 (w .i64 (x2.1 + x2.2))) 1))) H24)))
 (lp (α := Int) p_a H4 (fun x26 J27 H28 =>
 ift (decide ((x26 : Int) < (w .i64 (x2.1 - 1))))
 (jn (α := Unit) (fun x31 H32 =>
 J27 (w .i64 (x26 + 1)) H32)
 (fun J30 => dr H28 fun Hs34 =>
 ixa p_data (w .i64 (x26 + 1)) fun p36 =>
 ixa p_data x26 fun p41 =>
 (ldT H28 Qa.c (p36.1, p36.2 + (w .i64 (x26 + 1) : Int).toNat * 2) fun x47 =>
 Heap.le Hs34 H28 ∧
 ldT H28 Qa.c (p41.1, p41.2 + (x26 : Int).toNat * 2) fun x50 =>
 Heap.le Hs34 H28 ∧
 ixa p_data x26 fun p52 =>
 stT (p52.1, p52.2 + (x26 : Int).toNat * 2) (Qa.c x47) (fun H58 =>
 Heap.le Hs34 H58 ∧
 ixa p_data (w .i64 (x26 + 1)) fun p59 =>
 stT (p59.1, p59.2 + (w .i64 (x26 + 1) : Int).toNat * 2) (Qa.c x50) (fun H64 =>
 J30 () H64) H58) H28) ∧
 (ldT H28 Qa.c (p41.1, p41.2 + (x26 : Int).toNat * 2) fun x66 =>
 Heap.le Hs34 H28 ∧
 ldT H28 Qa.c (p36.1, p36.2 + (w .i64 (x26 + 1) : Int).toNat * 2) fun x69 =>
 Heap.le Hs34 H28 ∧
 ixa p_data x26 fun p71 =>
 stT (p71.1, p71.2 + (x26 : Int).toNat * 2) (Qa.c x69) (fun H77 =>
 Heap.le Hs34 H77 ∧
 ixa p_data (w .i64 (x26 + 1)) fun p78 =>
 stT (p78.1, p78.2 + (w .i64 (x26 + 1) : Int).toNat * 2) (Qa.c x66) (fun H83 =>
 J30 () H83) H77) H28)))
 (K H28)))))
 (ift (((w .i64 (p_b - p_m)) : Int) == 1)
 (lp (α := Int × Int) (p_a, p_m) H (fun x85 J86 H87 =>
 ift (decide ((x85.1 : Int) < x85.2))
 (dr H87 fun Hs89 =>
 ixa p_data p_m fun p91 =>
 ldT Hs89 Qa.c (p91.1, p91.2 + (p_m : Int).toNat * 2) fun x96 =>
 ixa p_data (w .i64 (sShr .u64 (w .u64 (w .i64 (x85.1 + x85.2))) 1)) fun p98 =>
 ldT Hs89 Qa.c (p98.1, p98.2 + (w .i64 (sShr .u64 (w .u64 (w .i64 (x85.1 + x85.2))) 1) : Int).toNat * 2) fun x103 =>
 callU Tryz.prog C p_cmp [.agg (Qa.c x96).toArray, .agg (Qa.c x103).toArray] H87 (fun v H107 => ∃ (r106 : Int), v = .int .i64 r106 ∧
 Heap.le Hs89 H107 ∧
 ift (!(decide ((r106 : Int) < 0)))
 (J86 ((w .i64 ((w .i64 (sShr .u64 (w .u64 (w .i64 (x85.1 + x85.2))) 1)) + 1)), x85.2) H107)
 (J86 (x85.1, (w .i64 (sShr .u64 (w .u64 (w .i64 (x85.1 + x85.2))) 1))) H107)))
 (lp (α := Int) p_m H87 (fun x109 J110 H111 =>
 ift (decide ((x109 : Int) > x85.1))
 (jn (α := Unit) (fun x114 H115 =>
 J110 (w .i64 (x109 - 1)) H115)
 (fun J113 => dr H111 fun Hs117 =>
 ixa p_data (w .i64 (x109 - 1)) fun p119 =>
 ixa p_data x109 fun p124 =>
 (ldT H111 Qa.c (p119.1, p119.2 + (w .i64 (x109 - 1) : Int).toNat * 2) fun x130 =>
 Heap.le Hs117 H111 ∧
 ldT H111 Qa.c (p124.1, p124.2 + (x109 : Int).toNat * 2) fun x133 =>
 Heap.le Hs117 H111 ∧
 ixa p_data x109 fun p135 =>
 stT (p135.1, p135.2 + (x109 : Int).toNat * 2) (Qa.c x130) (fun H141 =>
 Heap.le Hs117 H141 ∧
 ixa p_data (w .i64 (x109 - 1)) fun p142 =>
 stT (p142.1, p142.2 + (w .i64 (x109 - 1) : Int).toNat * 2) (Qa.c x133) (fun H147 =>
 J113 () H147) H141) H111) ∧
 (ldT H111 Qa.c (p124.1, p124.2 + (x109 : Int).toNat * 2) fun x149 =>
 Heap.le Hs117 H111 ∧
 ldT H111 Qa.c (p119.1, p119.2 + (w .i64 (x109 - 1) : Int).toNat * 2) fun x152 =>
 Heap.le Hs117 H111 ∧
 ixa p_data x109 fun p154 =>
 stT (p154.1, p154.2 + (x109 : Int).toNat * 2) (Qa.c x152) (fun H160 =>
 Heap.le Hs117 H160 ∧
 ixa p_data (w .i64 (x109 - 1)) fun p161 =>
 stT (p161.1, p161.2 + (w .i64 (x109 - 1) : Int).toNat * 2) (Qa.c x149) (fun H166 =>
 J113 () H166) H160) H111)))
 (K H111)))))
 (jn (α := Int × Int) (fun x168 H169 =>
 lp (α := Int × Int) (x168.1, x168.2) H169 (fun x172 J173 H174 =>
 ift (decide ((x172.1 : Int) < x172.2))
 (dr H174 fun Hs176 =>
 ixa p_data (w .i64 ((w .i64 ((w .i64 ((w .i64 (sShr .u64 (w .u64 (w .i64 (p_a + p_b))) 1)) + p_m)) - 1)) - (w .i64 (sShr .u64 (w .u64 (w .i64 (x172.1 + x172.2))) 1)))) fun p178 =>
 ldT Hs176 Qa.c (p178.1, p178.2 + (w .i64 ((w .i64 ((w .i64 ((w .i64 (sShr .u64 (w .u64 (w .i64 (p_a + p_b))) 1)) + p_m)) - 1)) - (w .i64 (sShr .u64 (w .u64 (w .i64 (x172.1 + x172.2))) 1))) : Int).toNat * 2) fun x183 =>
 ixa p_data (w .i64 (sShr .u64 (w .u64 (w .i64 (x172.1 + x172.2))) 1)) fun p185 =>
 ldT Hs176 Qa.c (p185.1, p185.2 + (w .i64 (sShr .u64 (w .u64 (w .i64 (x172.1 + x172.2))) 1) : Int).toNat * 2) fun x190 =>
 callU Tryz.prog C p_cmp [.agg (Qa.c x183).toArray, .agg (Qa.c x190).toArray] H174 (fun v H194 => ∃ (r193 : Int), v = .int .i64 r193 ∧
 Heap.le Hs176 H194 ∧
 ift (!(decide ((r193 : Int) < 0)))
 (J173 ((w .i64 ((w .i64 (sShr .u64 (w .u64 (w .i64 (x172.1 + x172.2))) 1)) + 1)), x172.2) H194)
 (J173 (x172.1, (w .i64 (sShr .u64 (w .u64 (w .i64 (x172.1 + x172.2))) 1))) H194)))
 (jn (α := Unit) (fun x197 H198 =>
 jn (α := Unit) (fun x204 H205 =>
 ift ((decide (((w .i64 (sShr .u64 (w .u64 (w .i64 (p_a + p_b))) 1)) : Int) < (w .i64 ((w .i64 ((w .i64 (sShr .u64 (w .u64 (w .i64 (p_a + p_b))) 1)) + p_m)) - x172.1)))) && (decide (((w .i64 ((w .i64 ((w .i64 (sShr .u64 (w .u64 (w .i64 (p_a + p_b))) 1)) + p_m)) - x172.1)) : Int) < p_b)))
 (Qp C p_data (w .i64 (sShr .u64 (w .u64 (w .i64 (p_a + p_b))) 1)) (w .i64 ((w .i64 ((w .i64 (sShr .u64 (w .u64 (w .i64 (p_a + p_b))) 1)) + p_m)) - x172.1)) p_b p_cmp (fun H212 =>
 K H212) H205)
 (K H205))
 (fun J203 => ift ((decide ((p_a : Int) < x172.1)) && (decide ((x172.1 : Int) < (w .i64 (sShr .u64 (w .u64 (w .i64 (p_a + p_b))) 1)))))
 (Qp C p_data p_a x172.1 (w .i64 (sShr .u64 (w .u64 (w .i64 (p_a + p_b))) 1)) p_cmp (fun H209 =>
 J203 () H209) H198)
 (J203 () H198)))
 (fun J196 => ift ((decide ((x172.1 : Int) < p_m)) && (decide ((p_m : Int) < (w .i64 ((w .i64 ((w .i64 (sShr .u64 (w .u64 (w .i64 (p_a + p_b))) 1)) + p_m)) - x172.1)))))
 (QV C p_data x172.1 p_m (w .i64 ((w .i64 ((w .i64 (sShr .u64 (w .u64 (w .i64 (p_a + p_b))) 1)) + p_m)) - x172.1)) p_cmp (fun H202 =>
 J196 () H202) H174)
 (J196 () H174)))))
 (fun J167 => ift (decide ((p_m : Int) > (w .i64 (sShr .u64 (w .u64 (w .i64 (p_a + p_b))) 1))))
 (J167 ((w .i64 ((w .i64 ((w .i64 (sShr .u64 (w .u64 (w .i64 (p_a + p_b))) 1)) + p_m)) - p_b)), (w .i64 (sShr .u64 (w .u64 (w .i64 (p_a + p_b))) 1))) H)
 (J167 (p_a, p_m) H))))
theorem QbE (C p_data p_a p_m p_b p_cmp K H) (h : Qao C p_data p_a p_m p_b p_cmp K H) : Qp C p_data p_a p_m p_b p_cmp K H := by
 refine Ye Tryz.func102 rfl Tryz.ntmps102 [(0, slv p_data), (1, .int .i64 p_a), (2, .int .i64 p_m), (3, .int .i64 p_b), (4, p_cmp)] (GC.seq (Zo (Zm (Zm (Zi (.int .i64 (w .i64 (p_m - p_a))) (Zi (.bool (((w .i64 (p_m - p_a)) : Int) == 1)) (GL.nil (Yd h (fun hc1 h => ?_) fun hc1 h => ?_))))))))
 refine Zo (Zm (Za (GL.nil (Zo (Zm (Za (GL.nil (GC.seq (GC.block (Yp h (fun x2 => [(10, .int .i64 x2.1), (11, .int .i64 x2.2), (0, slv p_data), (1, .int .i64 p_a), (4, p_cmp)]) ?_))))))))))
 intro x2 H4 J3 h
 refine GC.seq (Zo (Zm (Zm (Zi (.bool (decide ((x2.1 : Int) < x2.2))) (GL.nil (Yd h (fun hc5 h => ?_) fun hc5 h => ?_))))))
 refine GC.skip (GC.block (Zo (Zm (Zm (Zi (.int .i64 (w .i64 (x2.1 + x2.2))) (Zv (OV.convInt rfl rfl rfl) (Zv (OV.shr rfl rfl (by decide)) (Zv (OV.convInt rfl rfl rfl) (Za (GL.nil (GC.seq ?_)))))))))))
 obtain ⟨Hs6, hle7, h⟩ := h
 refine GC.any (Hs := Hs6) (by kernel_rfl) hle7 (Zp 0 rfl Ym (Zp 1 rfl Ym (Zp 2 rfl Ym ?_)))
 obtain ⟨p8, ha9, hb10, hc11, hd12, h⟩ := h
 refine Zp 3 rfl (OV.indexAddr rfl rfl rfl rfl ha9 hb10 hc11 hd12) ?_
 obtain ⟨x13, v14, h⟩ := h
 refine Zp 4 rfl (OV.loadT rfl rfl rfl v14) (Zp 5 rfl Ym (Zp 6 rfl Ym ?_))
 obtain ⟨p15, ha16, hb17, hc18, hd19, h⟩ := h
 refine Zp 7 rfl (OV.indexAddr rfl rfl rfl rfl ha16 hb17 hc18 hd19) ?_
 obtain ⟨x20, v21, h⟩ := h
 refine Zp 8 rfl (OV.loadT rfl rfl rfl v21) (GA.eff 9 rfl (by kernel_rfl) (GL.callU (xv := p_cmp) (vs := [.agg (Qa.c x13).toArray, .agg (Qa.c x20).toArray]) h trivial rfl rfl rfl ?_))
 rintro _ H24 ⟨r23, rfl, h⟩
 obtain ⟨hle22, h⟩ := h
 refine GA.back hle22 (Zp 10 rfl (OV.ibin (v := .bool (decide ((r23 : Int) < 0))) rfl rfl rfl) (GA.done (by kernel_rfl) (GL.nil (Yd h (fun hc25 h => ?_) fun hc25 h => ?_))))
 refine GC.region (Zm (Zi (.int .i64 (w .i64 ((w .i64 (sShr .u64 (w .u64 (w .i64 (x2.1 + x2.2))) 1)) + 1))) (Za ?_)))
 exact Yj I3 ((w .i64 ((w .i64 (sShr .u64 (w .u64 (w .i64 (x2.1 + x2.2))) 1)) + 1)), x2.2) h
 refine GC.region (Zm (Za ?_))
 exact Yj I3 (x2.1, (w .i64 (sShr .u64 (w .u64 (w .i64 (x2.1 + x2.2))) 1))) h
 refine GC.exit_to (fun _ _ h => h) (GC.seq (Zo (Zm (Za (GL.nil (GC.block (Yp h (fun x26 => [(13, .int .i64 x26), (0, slv p_data), (10, .int .i64 x2.1)]) ?_)))))))
 intro x26 H28 J27 h
 refine GC.seq (Zo (Zm (Zm (Zi (.int .i64 (w .i64 (x2.1 - 1))) (Zi (.bool (decide ((x26 : Int) < (w .i64 (x2.1 - 1))))) (GL.nil (Yd h (fun hc29 h => ?_) fun hc29 h => ?_)))))))
 refine GC.skip (GC.seq (GC.block ?_))
 obtain ⟨J30, h, hR33⟩ := h
 refine GC.meet (α := Unit) J30 (fun _ => [(0, slv p_data), (10, .int .i64 x2.1), (13, .int .i64 x26)]) ?_ ?_
 obtain ⟨Hs34, hle35, h⟩ := h
 refine GC.tail (Hs := Hs34) 17 (by kernel_rfl) hle35 (by kernel_rfl) (Zy 0 rfl Ym (Zy 1 rfl Ym (Zy 2 rfl Ym (Zy 3 rfl Ym (Zy 4 rfl (OV.ibin (v := .int .i64 (w .i64 (x26 + 1))) rfl rfl rfl) (Zy 5 rfl Ym (Zy 6 rfl Ym (Zy 7 rfl (OV.ibin (v := .int .i64 (w .i64 (x26 + 1))) rfl rfl rfl) ?_))))))))
 obtain ⟨p36, ha37, hb38, hc39, hd40, h⟩ := h
 refine Zy 8 rfl (OV.indexAddr rfl rfl rfl rfl ha37 hb38 hc39 hd40) (Zy 10 rfl Ym (Zy 11 rfl Ym ?_))
 obtain ⟨p41, ha42, hb43, hc44, hd45, h⟩ := h
 refine Zy 12 rfl (OV.indexAddr rfl rfl rfl rfl ha42 hb43 hc44 hd45) (GT.effs [9, 13] (by kernel_rfl) (by simp) (List.forall_mem_cons.2 ⟨⟨_, rfl, rfl, ?_⟩, List.forall_mem_cons.2 ⟨⟨_, rfl, rfl, ?_⟩, fun _ h => by cases h⟩⟩))
 replace h := h.1
 obtain ⟨x47, v48, h⟩ := h
 refine Zv (OV.loadT rfl rfl rfl v48) ?_
 obtain ⟨hle46, h⟩ := h
 refine GT.back hle46 (GT.eff 13 rfl (by kernel_rfl) rfl ?_)
 obtain ⟨x50, v51, h⟩ := h
 refine Zv (OV.loadT rfl rfl rfl v51) ?_
 obtain ⟨hle49, h⟩ := h
 refine GT.back hle49 ?_
 obtain ⟨p52, ha53, hb54, hc55, hd56, h⟩ := h
 refine Zy 14 rfl (OV.indexAddr rfl rfl rfl rfl ha53 hb54 hc55 hd56) (GT.eff 15 rfl (by kernel_rfl) rfl (GL.storeT (p := (p52.1, p52.2 + (x26 : Int).toNat * 2)) (vs := Qa.c x47) h trivial rfl rfl rfl rfl ?_))
 intro H58 h
 obtain ⟨hle57, h⟩ := h
 refine GT.back hle57 ?_
 obtain ⟨p59, ha60, hb61, hc62, hd63, h⟩ := h
 refine Zy 16 rfl (OV.indexAddr rfl rfl rfl rfl ha60 hb61 hc62 hd63) (GT.done (by kernel_rfl) ?_)
 show GL _ _ _ _ _ [_] _ _
 refine GL.storeT (p := (p59.1, p59.2 + (w .i64 (x26 + 1) : Int).toNat * 2)) (vs := Qa.c x50) h trivial rfl rfl rfl rfl ?_
 intro H64 h
 exact Yj I3 () h
 replace h := h.2
 obtain ⟨x66, v67, h⟩ := h
 refine Zv (OV.loadT rfl rfl rfl v67) ?_
 obtain ⟨hle65, h⟩ := h
 refine GT.back hle65 (GT.eff 9 rfl (by kernel_rfl) rfl ?_)
 obtain ⟨x69, v70, h⟩ := h
 refine Zv (OV.loadT rfl rfl rfl v70) ?_
 obtain ⟨hle68, h⟩ := h
 refine GT.back hle68 ?_
 obtain ⟨p71, ha72, hb73, hc74, hd75, h⟩ := h
 refine Zy 14 rfl (OV.indexAddr rfl rfl rfl rfl ha72 hb73 hc74 hd75) (GT.eff 15 rfl (by kernel_rfl) rfl (GL.storeT (p := (p71.1, p71.2 + (x26 : Int).toNat * 2)) (vs := Qa.c x69) h trivial rfl rfl rfl rfl ?_))
 intro H77 h
 obtain ⟨hle76, h⟩ := h
 refine GT.back hle76 ?_
 obtain ⟨p78, ha79, hb80, hc81, hd82, h⟩ := h
 refine Zy 16 rfl (OV.indexAddr rfl rfl rfl rfl ha79 hb80 hc81 hd82) (GT.done (by kernel_rfl) ?_)
 show GL _ _ _ _ _ [_] _ _
 refine GL.storeT (p := (p78.1, p78.2 + (w .i64 (x26 + 1) : Int).toNat * 2)) (vs := Qa.c x66) h trivial rfl rfl rfl rfl ?_
 intro H83 h
 exact Yj I3 () h
 intro x31 H32 h
 replace h := hR33 x31 H32 h
 refine GL.nil_to (fun _ _ h => h) (GC.region (Zm (Zi (.int .i64 (w .i64 (x26 + 1))) (Za ?_))))
 exact Yj I3 (w .i64 (x26 + 1)) h
 refine GC.exit_to (fun _ _ h => h) ?_
 exact GC.ret (fun _ _ hf hs => QJ rfl hf hs ⟨rfl, h⟩)
 refine GC.skip (GC.seq (Zo (Zm (Zm (Zi (.int .i64 (w .i64 (p_b - p_m))) (Zi (.bool (((w .i64 (p_b - p_m)) : Int) == 1)) (GL.nil (Yd h (fun hc84 h => ?_) fun hc84 h => ?_))))))))
 refine Zo (Zm (Za (GL.nil (Zo (Zm (Za (GL.nil (GC.seq (GC.block (Yp h (fun x85 => [(14, .int .i64 x85.1), (15, .int .i64 x85.2), (0, slv p_data), (2, .int .i64 p_m), (4, p_cmp)]) ?_))))))))))
 intro x85 H87 J86 h
 refine GC.seq (Zo (Zm (Zm (Zi (.bool (decide ((x85.1 : Int) < x85.2))) (GL.nil (Yd h (fun hc88 h => ?_) fun hc88 h => ?_))))))
 refine GC.skip (GC.block (Zo (Zm (Zm (Zi (.int .i64 (w .i64 (x85.1 + x85.2))) (Zv (OV.convInt rfl rfl rfl) (Zv (OV.shr rfl rfl (by decide)) (Zv (OV.convInt rfl rfl rfl) (Za (GL.nil (GC.seq ?_)))))))))))
 obtain ⟨Hs89, hle90, h⟩ := h
 refine GC.any (Hs := Hs89) (by kernel_rfl) hle90 (Zp 0 rfl Ym (Zp 1 rfl Ym (Zp 2 rfl Ym ?_)))
 obtain ⟨p91, ha92, hb93, hc94, hd95, h⟩ := h
 refine Zp 3 rfl (OV.indexAddr rfl rfl rfl rfl ha92 hb93 hc94 hd95) ?_
 obtain ⟨x96, v97, h⟩ := h
 refine Zp 4 rfl (OV.loadT rfl rfl rfl v97) (Zp 5 rfl Ym (Zp 6 rfl Ym ?_))
 obtain ⟨p98, ha99, hb100, hc101, hd102, h⟩ := h
 refine Zp 7 rfl (OV.indexAddr rfl rfl rfl rfl ha99 hb100 hc101 hd102) ?_
 obtain ⟨x103, v104, h⟩ := h
 refine Zp 8 rfl (OV.loadT rfl rfl rfl v104) (GA.eff 9 rfl (by kernel_rfl) (GL.callU (xv := p_cmp) (vs := [.agg (Qa.c x96).toArray, .agg (Qa.c x103).toArray]) h trivial rfl rfl rfl ?_))
 rintro _ H107 ⟨r106, rfl, h⟩
 obtain ⟨hle105, h⟩ := h
 refine GA.back hle105 (Zp 10 rfl (OV.ibin (v := .bool (decide ((r106 : Int) < 0))) rfl rfl rfl) (Zp 11 rfl (OV.not rfl) (GA.done (by kernel_rfl) (GL.nil (Yd h (fun hc108 h => ?_) fun hc108 h => ?_)))))
 refine GC.region (Zm (Zi (.int .i64 (w .i64 ((w .i64 (sShr .u64 (w .u64 (w .i64 (x85.1 + x85.2))) 1)) + 1))) (Za ?_)))
 exact Yj I3 ((w .i64 ((w .i64 (sShr .u64 (w .u64 (w .i64 (x85.1 + x85.2))) 1)) + 1)), x85.2) h
 refine GC.region (Zm (Za ?_))
 exact Yj I3 (x85.1, (w .i64 (sShr .u64 (w .u64 (w .i64 (x85.1 + x85.2))) 1))) h
 refine GC.exit_to (fun _ _ h => h) (GC.seq (Zo (Zm (Za (GL.nil (GC.block (Yp h (fun x109 => [(17, .int .i64 x109), (0, slv p_data), (14, .int .i64 x85.1)]) ?_)))))))
 intro x109 H111 J110 h
 refine GC.seq (Zo (Zm (Zm (Zi (.bool (decide ((x109 : Int) > x85.1))) (GL.nil (Yd h (fun hc112 h => ?_) fun hc112 h => ?_))))))
 refine GC.skip (GC.seq (GC.block ?_))
 obtain ⟨J113, h, hR116⟩ := h
 refine GC.meet (α := Unit) J113 (fun _ => [(0, slv p_data), (14, .int .i64 x85.1), (17, .int .i64 x109)]) ?_ ?_
 obtain ⟨Hs117, hle118, h⟩ := h
 refine GC.tail (Hs := Hs117) 17 (by kernel_rfl) hle118 (by kernel_rfl) (Zy 0 rfl Ym (Zy 1 rfl Ym (Zy 2 rfl Ym (Zy 3 rfl Ym (Zy 4 rfl (OV.ibin (v := .int .i64 (w .i64 (x109 - 1))) rfl rfl rfl) (Zy 5 rfl Ym (Zy 6 rfl Ym (Zy 7 rfl (OV.ibin (v := .int .i64 (w .i64 (x109 - 1))) rfl rfl rfl) ?_))))))))
 obtain ⟨p119, ha120, hb121, hc122, hd123, h⟩ := h
 refine Zy 8 rfl (OV.indexAddr rfl rfl rfl rfl ha120 hb121 hc122 hd123) (Zy 10 rfl Ym (Zy 11 rfl Ym ?_))
 obtain ⟨p124, ha125, hb126, hc127, hd128, h⟩ := h
 refine Zy 12 rfl (OV.indexAddr rfl rfl rfl rfl ha125 hb126 hc127 hd128) (GT.effs [9, 13] (by kernel_rfl) (by simp) (List.forall_mem_cons.2 ⟨⟨_, rfl, rfl, ?_⟩, List.forall_mem_cons.2 ⟨⟨_, rfl, rfl, ?_⟩, fun _ h => by cases h⟩⟩))
 replace h := h.1
 obtain ⟨x130, v131, h⟩ := h
 refine Zv (OV.loadT rfl rfl rfl v131) ?_
 obtain ⟨hle129, h⟩ := h
 refine GT.back hle129 (GT.eff 13 rfl (by kernel_rfl) rfl ?_)
 obtain ⟨x133, v134, h⟩ := h
 refine Zv (OV.loadT rfl rfl rfl v134) ?_
 obtain ⟨hle132, h⟩ := h
 refine GT.back hle132 ?_
 obtain ⟨p135, ha136, hb137, hc138, hd139, h⟩ := h
 refine Zy 14 rfl (OV.indexAddr rfl rfl rfl rfl ha136 hb137 hc138 hd139) (GT.eff 15 rfl (by kernel_rfl) rfl (GL.storeT (p := (p135.1, p135.2 + (x109 : Int).toNat * 2)) (vs := Qa.c x130) h trivial rfl rfl rfl rfl ?_))
 intro H141 h
 obtain ⟨hle140, h⟩ := h
 refine GT.back hle140 ?_
 obtain ⟨p142, ha143, hb144, hc145, hd146, h⟩ := h
 refine Zy 16 rfl (OV.indexAddr rfl rfl rfl rfl ha143 hb144 hc145 hd146) (GT.done (by kernel_rfl) ?_)
 show GL _ _ _ _ _ [_] _ _
 refine GL.storeT (p := (p142.1, p142.2 + (w .i64 (x109 - 1) : Int).toNat * 2)) (vs := Qa.c x133) h trivial rfl rfl rfl rfl ?_
 intro H147 h
 exact Yj I3 () h
 replace h := h.2
 obtain ⟨x149, v150, h⟩ := h
 refine Zv (OV.loadT rfl rfl rfl v150) ?_
 obtain ⟨hle148, h⟩ := h
 refine GT.back hle148 (GT.eff 9 rfl (by kernel_rfl) rfl ?_)
 obtain ⟨x152, v153, h⟩ := h
 refine Zv (OV.loadT rfl rfl rfl v153) ?_
 obtain ⟨hle151, h⟩ := h
 refine GT.back hle151 ?_
 obtain ⟨p154, ha155, hb156, hc157, hd158, h⟩ := h
 refine Zy 14 rfl (OV.indexAddr rfl rfl rfl rfl ha155 hb156 hc157 hd158) (GT.eff 15 rfl (by kernel_rfl) rfl (GL.storeT (p := (p154.1, p154.2 + (x109 : Int).toNat * 2)) (vs := Qa.c x152) h trivial rfl rfl rfl rfl ?_))
 intro H160 h
 obtain ⟨hle159, h⟩ := h
 refine GT.back hle159 ?_
 obtain ⟨p161, ha162, hb163, hc164, hd165, h⟩ := h
 refine Zy 16 rfl (OV.indexAddr rfl rfl rfl rfl ha162 hb163 hc164 hd165) (GT.done (by kernel_rfl) ?_)
 show GL _ _ _ _ _ [_] _ _
 refine GL.storeT (p := (p161.1, p161.2 + (w .i64 (x109 - 1) : Int).toNat * 2)) (vs := Qa.c x149) h trivial rfl rfl rfl rfl ?_
 intro H166 h
 exact Yj I3 () h
 intro x114 H115 h
 replace h := hR116 x114 H115 h
 refine GL.nil_to (fun _ _ h => h) (GC.region (Zm (Zi (.int .i64 (w .i64 (x109 - 1))) (Za ?_))))
 exact Yj I3 (w .i64 (x109 - 1)) h
 refine GC.exit_to (fun _ _ h => h) ?_
 exact GC.ret (fun _ _ hf hs => QJ rfl hf hs ⟨rfl, h⟩)
 refine GC.skip (Zo (Zm (Zm (Zi (.int .i64 (w .i64 (p_a + p_b))) (Zv (OV.convInt rfl rfl rfl) (Zv (OV.shr rfl rfl (by decide)) (Zv (OV.convInt rfl rfl rfl) (Za (GL.nil (Zo (Zm (Zm (Zi (.int .i64 (w .i64 ((w .i64 (sShr .u64 (w .u64 (w .i64 (p_a + p_b))) 1)) + p_m))) (Za (GL.nil (Zo (Za (Za (GL.nil ?_)))))))))))))))))))
 obtain ⟨J167, h, hR170⟩ := h
 refine GC.join (α := Int × Int) J167 (fun x168 => [(20, .int .i64 x168.1), (21, .int .i64 x168.2), (0, slv p_data), (1, .int .i64 p_a), (2, .int .i64 p_m), (3, .int .i64 p_b), (4, p_cmp), (18, .int .i64 (w .i64 (sShr .u64 (w .u64 (w .i64 (p_a + p_b))) 1))), (19, .int .i64 (w .i64 ((w .i64 (sShr .u64 (w .u64 (w .i64 (p_a + p_b))) 1)) + p_m)))]) ?_ ?_
 refine Zo (Zm (Zm (Zi (.bool (decide ((p_m : Int) > (w .i64 (sShr .u64 (w .u64 (w .i64 (p_a + p_b))) 1))))) (GL.nil (Yd h (fun hc171 h => ?_) fun hc171 h => ?_)))))
 refine Zo (Zm (Zm (Zi (.int .i64 (w .i64 ((w .i64 ((w .i64 (sShr .u64 (w .u64 (w .i64 (p_a + p_b))) 1)) + p_m)) - p_b))) (Za (GL.nil (GC.region (Zm (Za ?_))))))))
 exact Yj I3 ((w .i64 ((w .i64 ((w .i64 (sShr .u64 (w .u64 (w .i64 (p_a + p_b))) 1)) + p_m)) - p_b)), (w .i64 (sShr .u64 (w .u64 (w .i64 (p_a + p_b))) 1))) h
 refine Zo (Zm (Za (GL.nil (GC.region (Zm (Za ?_))))))
 exact Yj I3 (p_a, p_m) h
 intro x168 H169 h
 replace h := hR170 x168 H169 h
 refine Zo (Zm (Zi (.int .i64 (w .i64 ((w .i64 ((w .i64 (sShr .u64 (w .u64 (w .i64 (p_a + p_b))) 1)) + p_m)) - 1))) (Za (GL.nil (GC.seq (GC.block (Yp h (fun x172 => [(20, .int .i64 x172.1), (21, .int .i64 x172.2), (0, slv p_data), (1, .int .i64 p_a), (2, .int .i64 p_m), (3, .int .i64 p_b), (4, p_cmp), (18, .int .i64 (w .i64 (sShr .u64 (w .u64 (w .i64 (p_a + p_b))) 1))), (19, .int .i64 (w .i64 ((w .i64 (sShr .u64 (w .u64 (w .i64 (p_a + p_b))) 1)) + p_m))), (22, .int .i64 (w .i64 ((w .i64 ((w .i64 (sShr .u64 (w .u64 (w .i64 (p_a + p_b))) 1)) + p_m)) - 1)))]) ?_)))))))
 intro x172 H174 J173 h
 refine GC.seq (Zo (Zm (Zm (Zi (.bool (decide ((x172.1 : Int) < x172.2))) (GL.nil (Yd h (fun hc175 h => ?_) fun hc175 h => ?_))))))
 refine GC.skip (GC.block (Zo (Zm (Zm (Zi (.int .i64 (w .i64 (x172.1 + x172.2))) (Zv (OV.convInt rfl rfl rfl) (Zv (OV.shr rfl rfl (by decide)) (Zv (OV.convInt rfl rfl rfl) (Za (GL.nil (GC.seq ?_)))))))))))
 obtain ⟨Hs176, hle177, h⟩ := h
 refine GC.any (Hs := Hs176) (by kernel_rfl) hle177 (Zp 0 rfl Ym (Zp 1 rfl Ym (Zp 2 rfl Ym (Zp 3 rfl Ym (Zp 4 rfl (OV.ibin (v := .int .i64 (w .i64 ((w .i64 ((w .i64 ((w .i64 (sShr .u64 (w .u64 (w .i64 (p_a + p_b))) 1)) + p_m)) - 1)) - (w .i64 (sShr .u64 (w .u64 (w .i64 (x172.1 + x172.2))) 1))))) rfl rfl rfl) ?_)))))
 obtain ⟨p178, ha179, hb180, hc181, hd182, h⟩ := h
 refine Zp 5 rfl (OV.indexAddr rfl rfl rfl rfl ha179 hb180 hc181 hd182) ?_
 obtain ⟨x183, v184, h⟩ := h
 refine Zp 6 rfl (OV.loadT rfl rfl rfl v184) (Zp 7 rfl Ym (Zp 8 rfl Ym ?_))
 obtain ⟨p185, ha186, hb187, hc188, hd189, h⟩ := h
 refine Zp 9 rfl (OV.indexAddr rfl rfl rfl rfl ha186 hb187 hc188 hd189) ?_
 obtain ⟨x190, v191, h⟩ := h
 refine Zp 10 rfl (OV.loadT rfl rfl rfl v191) (GA.eff 11 rfl (by kernel_rfl) (GL.callU (xv := p_cmp) (vs := [.agg (Qa.c x183).toArray, .agg (Qa.c x190).toArray]) h trivial rfl rfl rfl ?_))
 rintro _ H194 ⟨r193, rfl, h⟩
 obtain ⟨hle192, h⟩ := h
 refine GA.back hle192 (Zp 12 rfl (OV.ibin (v := .bool (decide ((r193 : Int) < 0))) rfl rfl rfl) (Zp 13 rfl (OV.not rfl) (GA.done (by kernel_rfl) (GL.nil (Yd h (fun hc195 h => ?_) fun hc195 h => ?_)))))
 refine GC.region (Zm (Zi (.int .i64 (w .i64 ((w .i64 (sShr .u64 (w .u64 (w .i64 (x172.1 + x172.2))) 1)) + 1))) (Za ?_)))
 exact Yj I3 ((w .i64 ((w .i64 (sShr .u64 (w .u64 (w .i64 (x172.1 + x172.2))) 1)) + 1)), x172.2) h
 refine GC.region (Zm (Za ?_))
 exact Yj I3 (x172.1, (w .i64 (sShr .u64 (w .u64 (w .i64 (x172.1 + x172.2))) 1))) h
 refine GC.exit_to (fun _ _ h => h) (Zo (Zm (Zm (Zi (.int .i64 (w .i64 ((w .i64 ((w .i64 (sShr .u64 (w .u64 (w .i64 (p_a + p_b))) 1)) + p_m)) - x172.1))) (Za (GL.nil ?_))))))
 obtain ⟨J196, h, hR199⟩ := h
 refine GC.join (α := Unit) J196 (fun _ => [(0, slv p_data), (1, .int .i64 p_a), (3, .int .i64 p_b), (4, p_cmp), (18, .int .i64 (w .i64 (sShr .u64 (w .u64 (w .i64 (p_a + p_b))) 1))), (20, .int .i64 x172.1), (24, .int .i64 (w .i64 ((w .i64 ((w .i64 (sShr .u64 (w .u64 (w .i64 (p_a + p_b))) 1)) + p_m)) - x172.1)))]) ?_ ?_
 refine Zo (Zm (Zm (Zi (.bool (decide ((x172.1 : Int) < p_m))) (Zm (GL.cut0 4 [(185, .bool ((decide ((x172.1 : Int) < p_m)) && (decide ((p_m : Int) < (w .i64 ((w .i64 ((w .i64 (sShr .u64 (w .u64 (w .i64 (p_a + p_b))) 1)) + p_m)) - x172.1)))))), (0, slv p_data), (1, .int .i64 p_a), (2, .int .i64 p_m), (3, .int .i64 p_b), (4, p_cmp), (18, .int .i64 (w .i64 (sShr .u64 (w .u64 (w .i64 (p_a + p_b))) 1))), (20, .int .i64 x172.1), (24, .int .i64 (w .i64 ((w .i64 ((w .i64 (sShr .u64 (w .u64 (w .i64 (p_a + p_b))) 1)) + p_m)) - x172.1)))] ?_ ?_)))))
 rcases Zb (decide ((x172.1 : Int) < p_m)) with hc200 | hc200
 refine Zu hc200 Ym (Zu hc200 Ym (Zu hc200 (OV.ibin (v := .bool (decide ((p_m : Int) < (w .i64 ((w .i64 ((w .i64 (sShr .u64 (w .u64 (w .i64 (p_a + p_b))) 1)) + p_m)) - x172.1))))) rfl rfl rfl) (Zt hc200 ?_)))
 exact GL.jump0 (fun _ _ h => h) () rfl ⟨(by rw [hc200]; rfl), rfl, rfl, rfl, rfl, rfl, rfl, rfl, rfl, trivial⟩
 refine Zk hc200 (Zk hc200 (Zk hc200 (Zn hc200 ?_)))
 exact GL.jump0 (fun _ _ h => h) () rfl ⟨(by rw [hc200]; rfl), rfl, rfl, rfl, rfl, rfl, rfl, rfl, rfl, trivial⟩
 refine GL.nil (Yd h (fun hc201 h => ?_) fun hc201 h => ?_)
 refine GC.region (Zm (Zm (Zm (Zm (Zm (Zc h Qb1 ?_))))))
 rintro _ H202 ⟨rfl, h⟩
 exact Yj I3 () h
 exact Yk I3 () h
 intro x197 H198 h
 replace h := hR199 x197 H198 h
 obtain ⟨J203, h, hR206⟩ := h
 refine GC.join (α := Unit) J203 (fun _ => [(0, slv p_data), (3, .int .i64 p_b), (4, p_cmp), (18, .int .i64 (w .i64 (sShr .u64 (w .u64 (w .i64 (p_a + p_b))) 1))), (24, .int .i64 (w .i64 ((w .i64 ((w .i64 (sShr .u64 (w .u64 (w .i64 (p_a + p_b))) 1)) + p_m)) - x172.1)))]) ?_ ?_
 refine Zo (Zm (Zm (Zi (.bool (decide ((p_a : Int) < x172.1))) (Zm (GL.cut0 4 [(199, .bool ((decide ((p_a : Int) < x172.1)) && (decide ((x172.1 : Int) < (w .i64 (sShr .u64 (w .u64 (w .i64 (p_a + p_b))) 1)))))), (0, slv p_data), (1, .int .i64 p_a), (3, .int .i64 p_b), (4, p_cmp), (18, .int .i64 (w .i64 (sShr .u64 (w .u64 (w .i64 (p_a + p_b))) 1))), (20, .int .i64 x172.1), (24, .int .i64 (w .i64 ((w .i64 ((w .i64 (sShr .u64 (w .u64 (w .i64 (p_a + p_b))) 1)) + p_m)) - x172.1)))] ?_ ?_)))))
 rcases Zb (decide ((p_a : Int) < x172.1)) with hc207 | hc207
 refine Zu hc207 Ym (Zu hc207 Ym (Zu hc207 (OV.ibin (v := .bool (decide ((x172.1 : Int) < (w .i64 (sShr .u64 (w .u64 (w .i64 (p_a + p_b))) 1))))) rfl rfl rfl) (Zt hc207 ?_)))
 exact GL.jump0 (fun _ _ h => h) () rfl ⟨(by rw [hc207]; rfl), rfl, rfl, rfl, rfl, rfl, rfl, rfl, trivial⟩
 refine Zk hc207 (Zk hc207 (Zk hc207 (Zn hc207 ?_)))
 exact GL.jump0 (fun _ _ h => h) () rfl ⟨(by rw [hc207]; rfl), rfl, rfl, rfl, rfl, rfl, rfl, rfl, trivial⟩
 refine GL.nil (Yd h (fun hc208 h => ?_) fun hc208 h => ?_)
 refine GC.region (Zm (Zm (Zm (Zm (Zm (Zc h Qz ?_))))))
 rintro _ H209 ⟨rfl, h⟩
 exact Yj I3 () h
 exact Yk I3 () h
 intro x204 H205 h
 replace h := hR206 x204 H205 h
 refine Zo (Zm (Zm (Zi (.bool (decide (((w .i64 (sShr .u64 (w .u64 (w .i64 (p_a + p_b))) 1)) : Int) < (w .i64 ((w .i64 ((w .i64 (sShr .u64 (w .u64 (w .i64 (p_a + p_b))) 1)) + p_m)) - x172.1))))) (Zm ?_))))
 refine GL.cut0 4 [(213, .bool ((decide (((w .i64 (sShr .u64 (w .u64 (w .i64 (p_a + p_b))) 1)) : Int) < (w .i64 ((w .i64 ((w .i64 (sShr .u64 (w .u64 (w .i64 (p_a + p_b))) 1)) + p_m)) - x172.1)))) && (decide (((w .i64 ((w .i64 ((w .i64 (sShr .u64 (w .u64 (w .i64 (p_a + p_b))) 1)) + p_m)) - x172.1)) : Int) < p_b)))), (0, slv p_data), (3, .int .i64 p_b), (4, p_cmp), (18, .int .i64 (w .i64 (sShr .u64 (w .u64 (w .i64 (p_a + p_b))) 1))), (24, .int .i64 (w .i64 ((w .i64 ((w .i64 (sShr .u64 (w .u64 (w .i64 (p_a + p_b))) 1)) + p_m)) - x172.1)))] ?_ ?_
 rcases Zb (decide (((w .i64 (sShr .u64 (w .u64 (w .i64 (p_a + p_b))) 1)) : Int) < (w .i64 ((w .i64 ((w .i64 (sShr .u64 (w .u64 (w .i64 (p_a + p_b))) 1)) + p_m)) - x172.1)))) with hc210 | hc210
 refine Zu hc210 Ym (Zu hc210 Ym (Zu hc210 (OV.ibin (v := .bool (decide (((w .i64 ((w .i64 ((w .i64 (sShr .u64 (w .u64 (w .i64 (p_a + p_b))) 1)) + p_m)) - x172.1)) : Int) < p_b))) rfl rfl rfl) (Zt hc210 ?_)))
 exact GL.jump0 (fun _ _ h => h) () rfl ⟨(by rw [hc210]; rfl), rfl, rfl, rfl, rfl, rfl, trivial⟩
 refine Zk hc210 (Zk hc210 (Zk hc210 (Zn hc210 ?_)))
 exact GL.jump0 (fun _ _ h => h) () rfl ⟨(by rw [hc210]; rfl), rfl, rfl, rfl, rfl, rfl, trivial⟩
 refine GL.nil (Yd h (fun hc211 h => ?_) fun hc211 h => ?_)
 refine GC.region (Zm (Zm (Zm (Zm (Zm (Zc h Qz ?_))))))
 rintro _ H212 ⟨rfl, h⟩
 exact GL.ends (fun _ _ hf hs => QJ rfl hf hs ⟨rfl, h⟩)
 exact GC.ends (fun _ _ hf hs => QJ rfl hf hs ⟨rfl, h⟩)
def Qf1 (C : Ctx) (p_v : Qb) (K : Bool → Heap → Prop) (H : Heap) : Prop :=
 nw (Qb.c p_v) (fun b1 H2 =>
 ldT H2 Qb.c (b1, 0) fun x3 =>
 Qak C x3 (fun r5 H6 =>
 K ((r5 : Int) != 0) H6) H2) H
theorem Qjl (C p_v K H) (h : Qf1 C p_v K H) : QaX C p_v K H := by
 refine Ye Tryz.func103 rfl Tryz.ntmps103 [(0, .agg (Qb.c p_v).toArray)] (Zo (GL.box (v := .agg (Qb.c p_v).toArray) (cs := Qb.c p_v) h trivial rfl rfl rfl ?_))
 intro b1 H2 h
 refine Za (GL.nil (Zo ?_))
 obtain ⟨x3, v4, h⟩ := h
 refine Zv (OV.loadT rfl rfl rfl v4) (Zc h QdX ?_)
 rintro _ H6 ⟨r5, rfl, h⟩
 refine Zi (.bool ((r5 : Int) != 0)) (Za (GL.nil ?_))
 exact Y1 I3 ⟨((r5 : Int) != 0), rfl, h⟩
def Qw (C : Ctx) (p_s1 : Sl) (p_s2 : Sl) (p_cmp : Value) (K : Int → Heap → Prop) (H : Heap) : Prop :=
 lp (α := Int) 0 H (fun x1 J2 H3 =>
 ift (decide ((x1 : Int) < (Sl.len p_s1 : Int)))
 (ixa p_s1 x1 fun p5 =>
 ldT H3 Qb.c (p5.1, p5.2 + (x1 : Int).toNat * 4) fun x10 =>
 nw (Qb.c Qb.zero) (fun b12 H13 =>
 stT (b12, 0) (Qb.c x10) (fun H14 =>
 ift (decide ((x1 : Int) ≥ (Sl.len p_s2 : Int)))
 (K 1 H14)
 (ixa p_s2 x1 fun p16 =>
 ldT H14 Qb.c (p16.1, p16.2 + (x1 : Int).toNat * 4) fun x21 =>
 nw (Qb.c Qb.zero) (fun b23 H24 =>
 stT (b23, 0) (Qb.c x21) (fun H25 =>
 ldT H25 Qb.c (b12, 0) fun x26 =>
 ldT H25 Qb.c (b23, 0) fun x28 =>
 callU Tryz.prog C p_cmp [.agg (Qb.c x26).toArray, .agg (Qb.c x28).toArray] H25 (fun v H31 => ∃ (r30 : Int), v = .int .i64 r30 ∧
 ift ((r30 : Int) != 0)
 (K r30 H31)
 (J2 (w .i64 (x1 + 1)) H31))) H24) H14)) H13) H3)
 (ift (decide (((Sl.len p_s1 : Int) : Int) < (Sl.len p_s2 : Int)))
 (K (-1) H3)
 (K 0 H3)))
theorem Q4 (C p_s1 p_s2 p_cmp K H) (h : Qw C p_s1 p_s2 p_cmp K H) : Qh C p_s1 p_s2 p_cmp K H := by
 refine Ye Tryz.func104 rfl Tryz.ntmps104 [(0, slv p_s1), (1, slv p_s2), (2, p_cmp)] (Zo (Za (GL.nil (GC.seq (Zo (Zm (Zq (Zm (GL.nil (GC.block (Yp h (fun x1 => [(13, .int .i64 x1), (0, slv p_s1), (1, slv p_s2), (2, p_cmp), (11, slv p_s1), (12, .int .i64 (Sl.len p_s1 : Int))]) ?_)))))))))))
 intro x1 H3 J2 h
 refine Zo (Zi (.bool (decide ((x1 : Int) < (Sl.len p_s1 : Int)))) (GL.nil (GC.seq (Yd h (fun u4 h => ?_) fun u4 h => ?_))))
 refine GC.skip (GC.seq (GC.block (Zo (Zm (Yx h fun p5 h => ?_)))))
 obtain ⟨x10, v11, h⟩ := h
 refine Zv (OV.loadT rfl rfl rfl v11) (GL.alloc (cs := Qb.c Qb.zero) h trivial rfl rfl rfl ?_)
 intro b12 H13 h
 refine Za (GL.storeT (p := (b12, 0)) (vs := Qb.c x10) h trivial rfl rfl rfl rfl ?_)
 intro H14 h
 refine GL.nil (GC.seq (Zo (Zm (Zm (Zq (Zi (.bool (decide ((x1 : Int) ≥ (Sl.len p_s2 : Int)))) (GL.nil (Yd h (fun u15 h => ?_) fun u15 h => ?_))))))))
 refine Zo (Za (GL.nil ?_))
 exact Y1 I3 ⟨1, rfl, h⟩
 refine GC.skip (Zo (Zm (Zm (Yx h fun p16 h => ?_))))
 obtain ⟨x21, v22, h⟩ := h
 refine Zv (OV.loadT rfl rfl rfl v22) (GL.alloc (cs := Qb.c Qb.zero) h trivial rfl rfl rfl ?_)
 intro b23 H24 h
 refine GL.storeT (p := (b23, 0)) (vs := Qb.c x21) h trivial rfl rfl rfl rfl ?_
 intro H25 h
 refine GL.nil (Zo (Zm ?_))
 obtain ⟨x26, v27, h⟩ := h
 refine Zv (OV.loadT rfl rfl rfl v27) ?_
 obtain ⟨x28, v29, h⟩ := h
 refine Zv (OV.loadT rfl rfl rfl v29) (GL.callU (xv := p_cmp) (vs := [.agg (Qb.c x26).toArray, .agg (Qb.c x28).toArray]) h trivial rfl rfl rfl ?_)
 rintro _ H31 ⟨r30, rfl, h⟩
 refine Za (GL.nil (Zo (Zm (Zi (.bool ((r30 : Int) != 0)) (GL.nil (Yd h (fun u32 h => ?_) fun u32 h => ?_))))))
 refine Zo (Zm (Za (GL.nil ?_)))
 exact Y1 I3 ⟨r30, rfl, h⟩
 refine GC.skip_to (fun _ _ h => h) (GC.region (Zi (.int .i64 (w .i64 (x1 + 1))) (Zm ?_)))
 exact Yj I3 (w .i64 (x1 + 1)) h
 refine GC.exit_to (fun _ _ h => h) (GC.seq (Zo (Zm (Zq (Zm (Zq (Zi (.bool (decide (((Sl.len p_s1 : Int) : Int) < (Sl.len p_s2 : Int)))) (GL.nil ?_))))))))
 refine Yd h (fun u33 h => ?_) fun u33 h => ?_
 refine Zo (Za (GL.nil ?_))
 exact Y1 I3 ⟨(-1), rfl, h⟩
 refine GC.skip (Zo (Za (GL.nil ?_)))
 exact Y1 I3 ⟨0, rfl, h⟩
def Qfn (C : Ctx) (p_x : Qb) (p_y : Qb) (K : Int → Heap → Prop) (H : Heap) : Prop :=
 nw (Qb.c p_x) (fun b1 H2 =>
 nw (Qb.c p_y) (fun b3 H4 =>
 ldT H4 Qb.c (b1, 0) fun x5 =>
 ldT H4 Qb.c (b3, 0) fun x7 =>
 QQ C x5 x7 (fun r9 H10 =>
 K r9 H10) H4) H2) H
theorem Qis (C p_x p_y K H) (h : Qfn C p_x p_y K H) : Qa4 C p_x p_y K H := by
 refine Ye Tryz.func105 rfl Tryz.ntmps105 [(0, .agg (Qb.c p_x).toArray), (1, .agg (Qb.c p_y).toArray)] (Zo (GL.box (v := .agg (Qb.c p_x).toArray) (cs := Qb.c p_x) h trivial rfl rfl rfl ?_))
 intro b1 H2 h
 refine GL.box (v := .agg (Qb.c p_y).toArray) (cs := Qb.c p_y) h trivial rfl rfl rfl ?_
 intro b3 H4 h
 refine Za (GL.nil (Zo ?_))
 obtain ⟨x5, v6, h⟩ := h
 refine Zv (OV.loadT rfl rfl rfl v6) ?_
 obtain ⟨x7, v8, h⟩ := h
 refine Zv (OV.loadT rfl rfl rfl v8) (Zc h QhC ?_)
 rintro _ H10 ⟨r9, rfl, h⟩
 refine Za (GL.nil ?_)
 exact Y1 I3 ⟨r9, rfl, h⟩
def Qd8 (C : Ctx) (p_v : Qb) (p_w : Qb) (K : Int → Heap → Prop) (H : Heap) : Prop :=
 nw (Qb.c p_v) (fun b1 H2 =>
 nw (Qb.c p_w) (fun b3 H4 =>
 ldI H4 .u8 ((b1, 0).1, (b1, 0).2 + 0) fun x5 =>
 ldI H4 .u8 ((b3, 0).1, (b3, 0).2 + 0) fun x7 =>
 QbO C x5 x7 (fun r9 H10 =>
 ift ((r9 : Int) != 0)
 (K r9 H10)
 (ldI H10 .u8 ((b1, 0).1, (b1, 0).2 + 0) fun x12 =>
 ift ((x12 : Int) == 3)
 (ldS H10 ((b1, 0).1, (b1, 0).2 + 2) fun x15 =>
 ldS H10 ((b3, 0).1, (b3, 0).2 + 2) fun x17 =>
 QaC C x15 x17 (fun r19 H20 =>
 K r19 H20) H10)
 (ift ((x12 : Int) == 4)
 (ldS H10 ((b1, 0).1, (b1, 0).2 + 2) fun x22 =>
 ldS H10 ((b3, 0).1, (b3, 0).2 + 2) fun x24 =>
 Qag C x22 x24 (fun r26 H27 =>
 K r26 H27) H10)
 (dr H10 fun Hs28 =>
 ldI Hs28 .i64 ((b1, 0).1, (b1, 0).2 + 1) fun x30 =>
 ldI Hs28 .i64 ((b3, 0).1, (b3, 0).2 + 1) fun x32 =>
 ldS Hs28 ((b1, 0).1, (b1, 0).2 + 2) fun x34 =>
 ldS Hs28 ((b3, 0).1, (b3, 0).2 + 2) fun x36 =>
 ldL Hs28 ((b1, 0).1, (b1, 0).2 + 3) fun x38 =>
 ldL Hs28 ((b3, 0).1, (b3, 0).2 + 3) fun x40 =>
 QbN C x30 x32 (fun r43 H44 =>
 Heap.le Hs28 H44 ∧
 Qag C x34 x36 (fun r46 H47 =>
 Heap.le Hs28 H47 ∧
 Qcz C x38 x40 (fun r49 H50 =>
 Heap.le Hs28 H50 ∧
 nw ([.int .i64 r43, .int .i64 r46, .int .i64 r49]) (fun b52 H53 =>
 Heap.le Hs28 H53 ∧
 Qdu C (Sl.of (some (b52, 0)) 3 3) (fun r55 H56 =>
 Heap.le Hs28 H56 ∧
 K r55 H56) H53) H50) H47) H44) H10)))) H4) H2) H
theorem Qht (C p_v p_w K H) (h : Qd8 C p_v p_w K H) : QQ C p_v p_w K H := by
 refine Ye Tryz.func106 rfl Tryz.ntmps106 [(0, .agg (Qb.c p_v).toArray), (1, .agg (Qb.c p_w).toArray)] (Zo (GL.box (v := .agg (Qb.c p_v).toArray) (cs := Qb.c p_v) h trivial rfl rfl rfl ?_))
 intro b1 H2 h
 refine GL.box (v := .agg (Qb.c p_w).toArray) (cs := Qb.c p_w) h trivial rfl rfl rfl ?_
 intro b3 H4 h
 refine Za (GL.nil (GC.seq (Zo (Zf (Yl h fun x5 h => ?_)))))
 refine Zf (Yl h fun x7 h => ?_)
 refine Zc h QfC ?_
 rintro _ H10 ⟨r9, rfl, h⟩
 refine Za (GL.nil (Zo (Zm (Zi (.bool ((r9 : Int) != 0)) (GL.nil (Yd h (fun u11 h => ?_) fun u11 h => ?_))))))
 refine Zo (Zm (Za (GL.nil ?_)))
 exact Y1 I3 ⟨r9, rfl, h⟩
 refine GC.skip (GC.seq (Zo (Zf (Yl h fun x12 h => ?_))))
 refine GL.nil (GC.block (Zo (Zi (.bool ((x12 : Int) == 3)) (Za (GL.nil (Yd h (fun u14 h => ?_) fun u14 h => ?_))))))
 refine Zo (Zf (Yl h fun x15 h => ?_))
 refine Zf (Yl h fun x17 h => ?_)
 refine Zc h QgR ?_
 rintro _ H20 ⟨r19, rfl, h⟩
 refine Za (GL.nil ?_)
 exact Y1 I3 ⟨r19, rfl, h⟩
 refine Zo (Zi (.bool ((x12 : Int) == 4)) (Za (GL.nil (Yd h (fun u21 h => ?_) fun u21 h => ?_))))
 refine Zo (Zf (Yl h fun x22 h => ?_))
 refine Zf (Yl h fun x24 h => ?_)
 refine Zc h Qbn ?_
 rintro _ H27 ⟨r26, rfl, h⟩
 refine Za (GL.nil ?_)
 exact Y1 I3 ⟨r26, rfl, h⟩
 refine GC.skip_to (fun _ _ h => h) (GC.seq ?_)
 obtain ⟨Hs28, hle29, h⟩ := h
 refine GC.any (Hs := Hs28) (by kernel_rfl) hle29 (Zp 0 rfl Yf ?_)
 obtain ⟨x30, v31, h⟩ := h
 refine Zp 1 rfl (Yo v31) (Zp 2 rfl Yf ?_)
 obtain ⟨x32, v33, h⟩ := h
 refine Zp 3 rfl (Yo v33) (Zp 5 rfl Yf ?_)
 obtain ⟨x34, v35, h⟩ := h
 refine Zp 6 rfl (Yo v35) (Zp 7 rfl Yf ?_)
 obtain ⟨x36, v37, h⟩ := h
 refine Zp 8 rfl (Yo v37) (Zp 10 rfl Yf ?_)
 obtain ⟨x38, v39, h⟩ := h
 refine Zp 11 rfl (Yo v39) (Zp 12 rfl Yf ?_)
 obtain ⟨x40, v41, h⟩ := h
 refine Zp 13 rfl (Yo v41) (GA.eff 4 rfl (by kernel_rfl) (Zc h QfB ?_))
 rintro _ H44 ⟨r43, rfl, h⟩
 obtain ⟨hle42, h⟩ := h
 refine GA.back hle42 (GA.eff 9 rfl (by kernel_rfl) (Zc h Qbn ?_))
 rintro _ H47 ⟨r46, rfl, h⟩
 obtain ⟨hle45, h⟩ := h
 refine GA.back hle45 (GA.eff 14 rfl (by kernel_rfl) (Zc h QgT ?_))
 rintro _ H50 ⟨r49, rfl, h⟩
 obtain ⟨hle48, h⟩ := h
 refine GA.back hle48 (GA.eff 15 rfl (by kernel_rfl) (GL.buildSlice (cs := [.int .i64 r43, .int .i64 r46, .int .i64 r49]) h trivial rfl (vs := [(0, .int .i64 r43), (1, .int .i64 r46), (2, .int .i64 r49)]) rfl ⟨3, fun _ => by kernel_rfl⟩ ?_))
 intro b52 H53 h
 obtain ⟨hle51, h⟩ := h
 refine GA.back hle51 (GA.eff 16 rfl (by kernel_rfl) (Zc h QgI ?_))
 rintro _ H56 ⟨r55, rfl, h⟩
 obtain ⟨hle54, h⟩ := h
 refine GA.back hle54 (Zp 17 rfl Ya (GA.done (by kernel_rfl) (GL.nil ?_)))
 exact Y1 I3 ⟨r55, rfl, h⟩
def Qbg (C : Ctx) (p_b : Option (Nat × Nat)) (K : Heap → Prop) (H : Heap) : Prop :=
 nck p_b fun p1 =>
 ldP H (p1.1, p1.2 + 0) fun x3 =>
 ift (Option.isNone x3)
 (∃ p7, p_b = some p7 ∧ cvU p7 (
 cvP 128 2 p7 (
 nck p_b fun p10 =>
 sttG (p10.1, p10.2 + 0) (pv (some p7)) (fun H12 =>
 K H12) H) H) H)
 (nck p_b fun p13 =>
 ldP H (p13.1, p13.2 + 0) fun x15 =>
 ∃ p17, x15 = some p17 ∧ p_b = some p17 ∧
 ift false
 (False)
 (K H))
theorem QcS (C p_b K H) (h : Qbg C p_b K H) : QX C p_b K H := by
 refine Ye Tryz.func107 rfl Tryz.ntmps107 [(0, pv p_b)] (Zo (Zm ?_))
 obtain ⟨p1, hp2, h⟩ := h
 refine Zv (OV.nilCheck (q := p_b) rfl hp2) (Zf (Yl h fun x3 h => ?_))
 refine Zv (OV.eqlNil (p := x3) rfl rfl rfl) (GL.nil (Yd h (fun u5 h => ?_) fun u5 h => ?_))
 refine GC.region (Zm (Zm ?_))
 obtain ⟨p7, hp8, hu6, h⟩ := h
 refine Zv (OV.cvU (q := p_b) (p := p7) hp8 hu6 rfl rfl rfl ⟨_, rfl, by decide⟩) (Zv (OV.ext QdR (vs := [pv (some p7)]) (v := pv (some p7)) rfl (fun w => QoL _ w)) ?_)
 obtain ⟨hu9, h⟩ := h
 refine Zv (OV.cvP (T := 128) (len := 2) (p := p7) hu9 rfl rfl rfl ⟨_, rfl⟩ (by kernel_rfl)) ?_
 obtain ⟨p10, hp11, h⟩ := h
 refine Zv (OV.nilCheck (q := p_b) rfl hp11) (Zf (GL.storeG (p := (p10.1, p10.2 + 0)) (v := pv (some p7)) h trivial rfl rfl rfl rfl ?_))
 intro H12 h
 exact GL.ends (fun _ _ hf hs => QJ rfl hf hs ⟨rfl, h⟩)
 refine Zo (Zm ?_)
 obtain ⟨p13, hp14, h⟩ := h
 refine Zv (OV.nilCheck (q := p_b) rfl hp14) (Zf (Yl h fun x15 h => ?_))
 refine Zm ?_
 obtain ⟨p17, hp18, hq19, h⟩ := h
 refine Zv (OV.neqSame (p := x15) (q := p_b) rfl rfl hp18 hq19 rfl rfl) (GL.nil (Yd h (fun u20 h => ?_) fun u20 h => ?_))
 exact GC.never h
 exact GC.ends (fun _ _ hf hs => QJ rfl hf hs ⟨rfl, h⟩)
def QaN (C : Ctx) (p_b : Bool) (K : Str → Heap → Prop) (H : Heap) : Prop :=
 ift p_b
 (K [116, 114, 117, 101] H)
 (K [102, 97, 108, 115, 101] H)
theorem Qct (C p_b K H) (h : QaN C p_b K H) : Qa0 C p_b K H := by
 refine Ye Tryz.func108 rfl Tryz.ntmps108 [(0, .bool p_b)] (Zo (Za (GL.nil (GC.seq (Zo (Zm (GL.nil (Yd h (fun u1 h => ?_) fun u1 h => ?_))))))))
 refine Zo (Za (GL.nil ?_))
 exact Y1 I3 ⟨[116, 114, 117, 101], rfl, h⟩
 refine GC.skip (Zo (Za (GL.nil ?_)))
 exact Y1 I3 ⟨[102, 97, 108, 115, 101], rfl, h⟩
def QfR (C : Ctx) (p_v : Qb) (K : Int → Heap → Prop) (H : Heap) : Prop :=
 nw (Qb.c p_v) (fun b1 H2 =>
 ldT H2 Qb.c (b1, 0) fun x3 =>
 Qaj C x3 (fun r5 H6 =>
 ift (decide ((r5 : Int) > 64))
 (K 65 H6)
 (ldT H6 Qb.c (b1, 0) fun x8 =>
 QaB C x8 (fun r10 H11 =>
 ift (!r10)
 (K 4 H11)
 (ldT H11 Qb.c (b1, 0) fun x13 =>
 QaA C x13 (fun r15 H16 =>
 ift (!r15)
 (K 40 H16)
 (K 0 H16)) H11)) H6)) H2) H
theorem Qjb (C p_v K H) (h : QfR C p_v K H) : QaR C p_v K H := by
 refine Ye Tryz.func110 rfl Tryz.ntmps110 [(0, .agg (Qb.c p_v).toArray)] (Zo (GL.box (v := .agg (Qb.c p_v).toArray) (cs := Qb.c p_v) h trivial rfl rfl rfl ?_))
 intro b1 H2 h
 refine Za (GL.nil (GC.seq (Zo ?_)))
 obtain ⟨x3, v4, h⟩ := h
 refine Zv (OV.loadT rfl rfl rfl v4) (Zc h QfI ?_)
 rintro _ H6 ⟨r5, rfl, h⟩
 refine Zi (.bool (decide ((r5 : Int) > 64))) (GL.nil (Yd h (fun u7 h => ?_) fun u7 h => ?_))
 refine Zo (Za (GL.nil ?_))
 exact Y1 I3 ⟨65, rfl, h⟩
 refine GC.skip (GC.seq (Zo ?_))
 obtain ⟨x8, v9, h⟩ := h
 refine Zv (OV.loadT rfl rfl rfl v9) (Zc h QgM ?_)
 rintro _ H11 ⟨r10, rfl, h⟩
 refine Zv (OV.not rfl) (GL.nil (Yd h (fun u12 h => ?_) fun u12 h => ?_))
 refine Zo (Za (GL.nil ?_))
 exact Y1 I3 ⟨4, rfl, h⟩
 refine GC.skip (GC.seq (Zo ?_))
 obtain ⟨x13, v14, h⟩ := h
 refine Zv (OV.loadT rfl rfl rfl v14) (Zc h QgL ?_)
 rintro _ H16 ⟨r15, rfl, h⟩
 refine Zv (OV.not rfl) (GL.nil (Yd h (fun u17 h => ?_) fun u17 h => ?_))
 refine Zo (Za (GL.nil ?_))
 exact Y1 I3 ⟨40, rfl, h⟩
 refine GC.skip (Zo (Za (GL.nil ?_)))
 exact Y1 I3 ⟨0, rfl, h⟩
def QhS (C : Ctx) (p_a : Qb) (p_b : Qb) (K : Int → Heap → Prop) (H : Heap) : Prop :=
 nw (Qb.c p_a) (fun b1 H2 =>
 nw (Qb.c p_b) (fun b3 H4 =>
 ldI H4 .u8 ((b1, 0).1, (b1, 0).2 + 0) fun x5 =>
 ldI H4 .u8 ((b3, 0).1, (b3, 0).2 + 0) fun x7 =>
 ift ((x5 : Int) != x7)
 (ldI H4 .u8 ((b1, 0).1, (b1, 0).2 + 0) fun x10 =>
 ldI H4 .u8 ((b3, 0).1, (b3, 0).2 + 0) fun x12 =>
 QaM C (w .i64 x10) (w .i64 x12) (fun r14 H15 =>
 K r14 H15) H4)
 (ldI H4 .u8 ((b1, 0).1, (b1, 0).2 + 0) fun x16 =>
 ift ((x16 : Int) == 3)
 (ldS H4 ((b1, 0).1, (b1, 0).2 + 2) fun x19 =>
 ldS H4 ((b3, 0).1, (b3, 0).2 + 2) fun x21 =>
 Qcx C x19 x21 (fun r23 H24 =>
 K r23 H24) H4)
 (ift ((x16 : Int) == 4)
 (ldS H4 ((b1, 0).1, (b1, 0).2 + 2) fun x26 =>
 ldS H4 ((b3, 0).1, (b3, 0).2 + 2) fun x28 =>
 Qcc C x26 x28 (fun r30 H31 =>
 K r30 H31) H4)
 (ift ((x16 : Int) == 5)
 (ldL H4 ((b1, 0).1, (b1, 0).2 + 3) fun x33 =>
 ldL H4 ((b3, 0).1, (b3, 0).2 + 3) fun x35 =>
 QbT C x33 x35 (fun r37 H38 =>
 K r37 H38) H4)
 (ift ((x16 : Int) == 6)
 (ldS H4 ((b1, 0).1, (b1, 0).2 + 2) fun x40 =>
 ldS H4 ((b3, 0).1, (b3, 0).2 + 2) fun x42 =>
 Qcc C x40 x42 (fun r44 H45 =>
 ift ((r44 : Int) != 0)
 (K r44 H45)
 (ldL H45 ((b1, 0).1, (b1, 0).2 + 3) fun x47 =>
 ldL H45 ((b3, 0).1, (b3, 0).2 + 3) fun x49 =>
 QbT C x47 x49 (fun r51 H52 =>
 K r51 H52) H45)) H4)
 (ldI H4 .i64 ((b1, 0).1, (b1, 0).2 + 1) fun x53 =>
 ldI H4 .i64 ((b3, 0).1, (b3, 0).2 + 1) fun x55 =>
 QaM C x53 x55 (fun r57 H58 =>
 K r57 H58) H4)))))) H2) H
theorem Qk2 (C p_a p_b K H) (h : QhS C p_a p_b K H) : QaT C p_a p_b K H := by
 refine Ye Tryz.func111 rfl Tryz.ntmps111 [(0, .agg (Qb.c p_a).toArray), (1, .agg (Qb.c p_b).toArray)] (Zo (GL.box (v := .agg (Qb.c p_a).toArray) (cs := Qb.c p_a) h trivial rfl rfl rfl ?_))
 intro b1 H2 h
 refine GL.box (v := .agg (Qb.c p_b).toArray) (cs := Qb.c p_b) h trivial rfl rfl rfl ?_
 intro b3 H4 h
 refine Za (GL.nil (GC.seq (Zo (Zf (Yl h fun x5 h => ?_)))))
 refine Zf (Yl h fun x7 h => ?_)
 refine Zi (.bool ((x5 : Int) != x7)) (GL.nil (Yd h (fun u9 h => ?_) fun u9 h => ?_))
 refine Zo (Zf (Yl h fun x10 h => ?_))
 refine Zv (OV.convInt rfl rfl rfl) (Zf (Yl h fun x12 h => ?_))
 refine Zv (OV.convInt rfl rfl rfl) (Zc h Qbx ?_)
 rintro _ H15 ⟨r14, rfl, h⟩
 refine Za (GL.nil ?_)
 exact Y1 I3 ⟨r14, rfl, h⟩
 refine GC.skip (GC.seq (Zo (Zf (Yl h fun x16 h => ?_))))
 refine GL.nil (GC.block (Zo (Zi (.bool ((x16 : Int) == 3)) (Za (GL.nil (Yd h (fun u18 h => ?_) fun u18 h => ?_))))))
 refine Zo (Zf (Yl h fun x19 h => ?_))
 refine Zf (Yl h fun x21 h => ?_)
 refine Zc h QgJ ?_
 rintro _ H24 ⟨r23, rfl, h⟩
 refine Za (GL.nil ?_)
 exact Y1 I3 ⟨r23, rfl, h⟩
 refine Zo (Zi (.bool ((x16 : Int) == 4)) (Za (GL.nil (Yd h (fun u25 h => ?_) fun u25 h => ?_))))
 refine Zo (Zf (Yl h fun x26 h => ?_))
 refine Zf (Yl h fun x28 h => ?_)
 refine Zc h QdT ?_
 rintro _ H31 ⟨r30, rfl, h⟩
 refine Za (GL.nil ?_)
 exact Y1 I3 ⟨r30, rfl, h⟩
 refine Zo (Zi (.bool ((x16 : Int) == 5)) (Za (GL.nil (Yd h (fun u32 h => ?_) fun u32 h => ?_))))
 refine Zo (Zf (Yl h fun x33 h => ?_))
 refine Zf (Yl h fun x35 h => ?_)
 refine Zc h Qes ?_
 rintro _ H38 ⟨r37, rfl, h⟩
 refine Za (GL.nil ?_)
 exact Y1 I3 ⟨r37, rfl, h⟩
 refine Zo (Zi (.bool ((x16 : Int) == 6)) (Za (GL.nil (Yd h (fun u39 h => ?_) fun u39 h => ?_))))
 refine Zo (Zf (Yl h fun x40 h => ?_))
 refine Zf (Yl h fun x42 h => ?_)
 refine Zc h QdT ?_
 rintro _ H45 ⟨r44, rfl, h⟩
 refine Za (GL.nil (GC.seq (Zo (Zm (Zi (.bool ((r44 : Int) != 0)) (GL.nil (Yd h (fun u46 h => ?_) fun u46 h => ?_)))))))
 refine Zo (Zm (Za (GL.nil ?_)))
 exact Y1 I3 ⟨r44, rfl, h⟩
 refine GC.skip (Zo (Zf (Yl h fun x47 h => ?_)))
 refine Zf (Yl h fun x49 h => ?_)
 refine Zc h Qes ?_
 rintro _ H52 ⟨r51, rfl, h⟩
 refine Za (GL.nil ?_)
 exact Y1 I3 ⟨r51, rfl, h⟩
 refine GC.skip_to (fun _ _ h => h) (Zo (Zf ?_))
 refine Yl h fun x53 h => ?_
 refine Zf (Yl h fun x55 h => ?_)
 refine Zc h Qbx ?_
 rintro _ H58 ⟨r57, rfl, h⟩
 refine Za (GL.nil ?_)
 exact Y1 I3 ⟨r57, rfl, h⟩
def Qha (C : Ctx) (p_a : Int) (p_b : Int) (K : Int → Heap → Prop) (H : Heap) : Prop :=
 ift (decide ((p_a : Int) < p_b))
 (K (-1) H)
 (ift (decide ((p_a : Int) > p_b))
 (K 1 H)
 (K 0 H))
theorem Qj9 (C p_a p_b K H) (h : Qha C p_a p_b K H) : QaM C p_a p_b K H := by
 refine Ye Tryz.func112 rfl Tryz.ntmps112 [(0, .int .i64 p_a), (1, .int .i64 p_b)] (Zo (Za (GL.nil (GC.seq (Zo (Zm (Zm (Zi (.bool (decide ((p_a : Int) < p_b))) (GL.nil (Yd h (fun u1 h => ?_) fun u1 h => ?_))))))))))
 refine Zo (Za (GL.nil ?_))
 exact Y1 I3 ⟨(-1), rfl, h⟩
 refine GC.skip (GC.seq (Zo (Zm (Zm (Zi (.bool (decide ((p_a : Int) > p_b))) (GL.nil (Yd h (fun u2 h => ?_) fun u2 h => ?_)))))))
 refine Zo (Za (GL.nil ?_))
 exact Y1 I3 ⟨1, rfl, h⟩
 refine GC.skip (Zo (Za (GL.nil ?_)))
 exact Y1 I3 ⟨0, rfl, h⟩
def Qav (C : Ctx) (p_s : Str) (p_prefix : Str) (K : Str → Heap → Prop) (H : Heap) : Prop :=
 QH C p_s p_prefix (fun r1 H2 =>
 ift r1
 (slS p_s (List.length p_prefix : Int) (List.length p_s : Int) fun t4 =>
 K t4 H2)
 (K p_s H2)) H
theorem QbY (C p_s p_prefix K H) (h : Qav C p_s p_prefix K H) : Qaz C p_s p_prefix K H := by
 refine Ye Tryz.func113 rfl Tryz.ntmps113 [(0, sv p_s), (1, sv p_prefix)] (Zo (Za (GL.nil (GC.seq (Zo (Zm (Zm (Zc h QaD ?_))))))))
 rintro _ H2 ⟨r1, rfl, h⟩
 refine GL.nil (Yd h (fun u3 h => ?_) fun u3 h => ?_)
 refine Zo (Zm (Zm (Zr ?_)))
 obtain ⟨h5, h6, h7, t4, h8, h⟩ := h
 refine Zv (OV.sliceStr (s := p_s) h5 h6 h7 h8 rfl rfl rfl rfl rfl rfl) (Za (GL.nil ?_))
 exact Y1 I3 ⟨t4, rfl, h⟩
 refine GC.skip (Zo (Zm (Za (GL.nil ?_))))
 exact Y1 I3 ⟨p_s, rfl, h⟩
def Qcl (C : Ctx) (p_chars : Str) (K : List Value → Bool → Heap → Prop) (H : Heap) : Prop :=
 nw ((List.replicate 256 (.bool false : Value))) (fun b1 H2 =>
 lp (α := Int) 0 H2 (fun x3 J4 H5 =>
 ift (decide ((x3 : Int) < (List.length p_chars : Int)))
 (ixs p_chars x3 fun c7 =>
 ift (decide (((c7.toNat : Int) : Int) ≥ 128))
 (ldC H5 256 (b1, 0) fun x11 =>
 stC 256 (b1, 0) x11 (fun H14 =>
 ldC H14 256 (b1, 0) fun x17 =>
 K x17 false H14) H5)
 (ixr (b1, 0) 256 (c7.toNat : Int) <|
 st ((b1, 0).1, (b1, 0).2 + ((c7.toNat : Int) : Int).toNat * 1) (.bool true) (fun H22 =>
 J4 (w .i64 (x3 + 1)) H22) H5))
 (ldC H5 256 (b1, 0) fun x23 =>
 stC 256 (b1, 0) x23 (fun H26 =>
 ldC H26 256 (b1, 0) fun x29 =>
 K x29 true H26) H5))) H
theorem Qeb (C p_chars K H) (h : Qcl C p_chars K H) : QE C p_chars K H := by
 refine Ye Tryz.func116 rfl Tryz.ntmps116 [(0, sv p_chars)] (Zo (GL.alloc (cs := (List.replicate 256 (.bool false : Value))) h trivial rfl rfl rfl ?_))
 intro b1 H2 h
 refine Za (GL.nil (GC.seq (Zo (Za (GL.nil (GC.block (Yp h (fun x3 => [(4, .int .i64 x3), (0, sv p_chars), (2, pv (some (b1, 0)))]) ?_)))))))
 intro x3 H5 J4 h
 refine GC.seq (Zo (Zm (Zm (Zr (Zi (.bool (decide ((x3 : Int) < (List.length p_chars : Int)))) (GL.nil (Yd h (fun u6 h => ?_) fun u6 h => ?_)))))))
 refine GC.skip (GC.seq (GC.block (Zo (Zm (Zm (Ys h fun c7 h => ?_))))))
 refine Za (GL.nil (GC.seq (Zo (Zm (Zi (.bool (decide (((c7.toNat : Int) : Int) ≥ 128))) (GL.nil (Yd h (fun u10 h => ?_) fun u10 h => ?_)))))))
 refine Zo ?_
 obtain ⟨x11, hl13, v12, h⟩ := h
 refine Zv (OV.loadT (p := (b1, 0)) (cs := x11) rfl rfl (by rw [hl13]; rfl) v12) ?_
 obtain ⟨hl15, h116, h⟩ := h
 refine GL.storeT (p := (b1, 0)) (vs := x11) h trivial rfl rfl h116 (by rw [hl15]; rfl) ?_
 intro H14 h
 refine Za (GL.nil ?_)
 obtain ⟨x17, hl19, v18, h⟩ := h
 exact GC.ret (fun _ _ hf hs => QbH rfl (RV.cellT (p := (b1, 0)) (cs := x17) rfl rfl (by rw [hl19]; rfl) v18) (RV.tmp rfl) hf hs ⟨x17, false, rfl, h⟩)
 refine GC.skip (GC.region (Zm ?_))
 obtain ⟨ha20, hb21, h⟩ := h
 refine Zv (OV.indexAddrA (p := (b1, 0)) rfl rfl rfl rfl ha20 hb21) (GL.store (p := ((b1, 0).1, (b1, 0).2 + ((c7.toNat : Int) : Int).toNat * 1)) (v := .bool true) h trivial rfl rfl rfl rfl ?_)
 intro H22 h
 refine GL.nil_to (fun _ _ h => h) (GC.region (Zm (Zi (.int .i64 (w .i64 (x3 + 1))) (Za ?_))))
 exact Yj I3 (w .i64 (x3 + 1)) h
 refine GC.exit_to (fun _ _ h => h) (Zo ?_)
 obtain ⟨x23, hl25, v24, h⟩ := h
 refine Zv (OV.loadT (p := (b1, 0)) (cs := x23) rfl rfl (by rw [hl25]; rfl) v24) ?_
 obtain ⟨hl27, h128, h⟩ := h
 refine GL.storeT (p := (b1, 0)) (vs := x23) h trivial rfl rfl h128 (by rw [hl27]; rfl) ?_
 intro H26 h
 refine Za (GL.nil ?_)
 obtain ⟨x29, hl31, v30, h⟩ := h
 exact GC.ret (fun _ _ hf hs => QbH rfl (RV.cellT (p := (b1, 0)) (cs := x29) rfl rfl (by rw [hl31]; rfl) v30) (RV.tmp rfl) hf hs ⟨x29, true, rfl, h⟩)
def QbX (C : Ctx) (p_s : Str) (p_as : Option (Nat × Nat)) (K : Str → Heap → Prop) (H : Heap) : Prop :=
 jn (α := Str) (fun x2 H3 =>
 K x2 H3)
 (fun J1 => lp (α := Str) p_s H (fun x5 J6 H7 =>
 ift (decide (((List.length x5 : Int) : Int) > 0))
 (ixs x5 0 fun c9 =>
 QY C p_as (c9.toNat : Int) (fun r12 H13 =>
 ift (!r12)
 (J1 x5 H13)
 (slS x5 1 (List.length x5 : Int) fun t15 =>
 J6 t15 H13)) H7)
 (J1 x5 H7)))
theorem Qd1 (C p_s p_as K H) (h : QbX C p_s p_as K H) : QaW C p_s p_as K H := by
 refine Ye Tryz.func117 rfl Tryz.ntmps117 [(0, sv p_s), (1, pv p_as)] (Zo (Za (GL.nil ?_)))
 obtain ⟨J1, h, hR4⟩ := h
 refine GC.join (α := Str) J1 (fun x2 => [(0, sv x2)]) ?_ ?_
 refine GC.block (Yp h (fun x5 => [(0, sv x5), (1, pv p_as)]) ?_)
 intro x5 H7 J6 h
 refine GC.seq (Zo (Zm (Zr (Zi (.bool (decide (((List.length x5 : Int) : Int) > 0))) (GL.nil (Yd h (fun u8 h => ?_) fun u8 h => ?_))))))
 refine GC.skip (GC.block (GC.seq (Zo (Zm (Zm (Ys h fun c9 h => ?_))))))
 refine Zc h Qbe ?_
 rintro _ H13 ⟨r12, rfl, h⟩
 refine Zv (OV.not rfl) (GL.nil (Yd h (fun u14 h => ?_) fun u14 h => ?_))
 exact GC.exit_jump (fun _ _ h => h) x5 h ⟨rfl, trivial⟩
 refine GC.skip (GC.region (Zm ?_))
 obtain ⟨h16, h17, h18, t15, h19, h⟩ := h
 refine Zv (OV.sliceStr (s := x5) h16 h17 h18 h19 rfl rfl rfl rfl rfl rfl) (Za ?_)
 exact Yj I3 t15 h
 exact GC.exit_jump (fun _ _ h => h) x5 h ⟨rfl, trivial⟩
 intro x2 H3 h
 replace h := hR4 x2 H3 h
 refine Zo (Zm (Za (GL.nil ?_)))
 exact Y1 I3 ⟨x2, rfl, h⟩
def QbJ (C : Ctx) (p_s : Str) (p_as : Option (Nat × Nat)) (K : Str → Heap → Prop) (H : Heap) : Prop :=
 jn (α := Str) (fun x2 H3 =>
 K x2 H3)
 (fun J1 => lp (α := Str) p_s H (fun x5 J6 H7 =>
 ift (decide (((List.length x5 : Int) : Int) > 0))
 (ixs x5 (w .i64 ((List.length x5 : Int) - 1)) fun c9 =>
 QY C p_as (c9.toNat : Int) (fun r12 H13 =>
 ift (!r12)
 (J1 x5 H13)
 (slS x5 0 (w .i64 ((List.length x5 : Int) - 1)) fun t15 =>
 J6 t15 H13)) H7)
 (J1 x5 H7)))
theorem QdK (C p_s p_as K H) (h : QbJ C p_s p_as K H) : QaJ C p_s p_as K H := by
 refine Ye Tryz.func118 rfl Tryz.ntmps118 [(0, sv p_s), (1, pv p_as)] (Zo (Za (GL.nil ?_)))
 obtain ⟨J1, h, hR4⟩ := h
 refine GC.join (α := Str) J1 (fun x2 => [(0, sv x2)]) ?_ ?_
 refine GC.block (Yp h (fun x5 => [(0, sv x5), (1, pv p_as)]) ?_)
 intro x5 H7 J6 h
 refine GC.seq (Zo (Zm (Zr (Zi (.bool (decide (((List.length x5 : Int) : Int) > 0))) (GL.nil (Yd h (fun u8 h => ?_) fun u8 h => ?_))))))
 refine GC.skip (GC.block (GC.seq (Zo (Zm (Zm (Zm (Zr (Zi (.int .i64 (w .i64 ((List.length x5 : Int) - 1))) (Ys h fun c9 h => ?_)))))))))
 refine Zc h Qbe ?_
 rintro _ H13 ⟨r12, rfl, h⟩
 refine Zv (OV.not rfl) (GL.nil (Yd h (fun u14 h => ?_) fun u14 h => ?_))
 exact GC.exit_jump (fun _ _ h => h) x5 h ⟨rfl, trivial⟩
 refine GC.skip (GC.region (Zm (Zm (Zr (Zi (.int .i64 (w .i64 ((List.length x5 : Int) - 1))) ?_)))))
 obtain ⟨h16, h17, h18, t15, h19, h⟩ := h
 refine Zv (OV.sliceStr (s := x5) h16 h17 h18 h19 rfl rfl rfl rfl rfl rfl) (Za ?_)
 exact Yj I3 t15 h
 exact GC.exit_jump (fun _ _ h => h) x5 h ⟨rfl, trivial⟩
 intro x2 H3 h
 replace h := hR4 x2 H3 h
 refine Zo (Zm (Za (GL.nil ?_)))
 exact Y1 I3 ⟨x2, rfl, h⟩
def Qa3 (C : Ctx) (p_s : Str) (p_substr : Str) (K : Int → Heap → Prop) (H : Heap) : Prop :=
 ift ((((List.length p_substr : Int) : Int) == 0) || (p_substr == p_s))
 (K 0 H)
 (ift (((List.length p_substr : Int) : Int) == 1)
 (ixs p_substr 0 fun c4 =>
 Q5 C p_s (c4.toNat : Int) (fun r7 H8 =>
 K r7 H8) H)
 (ift (decide (((List.length p_substr : Int) : Int) ≥ (List.length p_s : Int)))
 (K (-1) H)
 (ldI H .i64 (0, 0) fun x10 =>
 ift ((decide (((List.length p_substr : Int) : Int) ≤ x10)) && (decide (((List.length p_s : Int) : Int) ≤ 64)))
 (False)
 (ixs p_substr 0 fun c14 =>
 ixs p_substr 1 fun c17 =>
 lp (α := Int × Int) (0, 0) H (fun x20 J21 H22 =>
 ift (decide ((x20.1 : Int) < (w .i64 ((w .i64 ((List.length p_s : Int) - (List.length p_substr : Int))) + 1))))
 (jn (α := Int) (fun x25 H26 =>
 ixs p_s (w .i64 (x25 + 1)) fun c41 =>
 jn (α := Bool) (fun b44 H54 =>
 ift b44
 (K x25 H54)
 (ldI H54 .i64 (0, 0) fun x56 =>
 jn (α := Bool) (fun b58 H64 =>
 ift b58
 (False)
 (ldI H64 .i64 (0, 0) fun x72 =>
 ift (((decide (((List.length p_substr : Int) : Int) > x72)) && (decide (((w .i64 (x20.2 + 1)) : Int) ≥ (w .i64 (4 + (sShr .i64 (w .i64 (x25 + 1)) 4)))))) && (decide (((w .i64 (x25 + 1)) : Int) < (w .i64 ((w .i64 ((List.length p_s : Int) - (List.length p_substr : Int))) + 1)))))
 (slS p_s (w .i64 (x25 + 1)) (List.length p_s : Int) fun t77 =>
 Qbi C t77 p_substr (fun r83 H84 =>
 ift (decide ((r83 : Int) < 0))
 (K (-1) H84)
 (K (w .i64 ((w .i64 (x25 + 1)) + r83)) H84)) H64)
 (J21 ((w .i64 (x25 + 1)), (w .i64 (x20.2 + 1))) H64)))
 (fun J59 => ift (decide (((List.length p_substr : Int) : Int) ≤ x56))
 (Qdq C (w .i64 (x25 + 1)) (fun r62 H63 =>
 J59 (decide (((w .i64 (x20.2 + 1)) : Int) > r62)) H63) H54)
 (J59 false H54))))
 (fun J45 => ift (((c41.toNat : Int) : Int) == (c17.toNat : Int))
 (slS p_s x25 (w .i64 (x25 + (List.length p_substr : Int))) fun t48 =>
 J45 (t48 == p_substr) H26)
 (J45 false H26)))
 (fun J24 => ixs p_s x20.1 fun c28 =>
 ift (((c28.toNat : Int) : Int) != (c14.toNat : Int))
 (slS p_s (w .i64 (x20.1 + 1)) (w .i64 ((w .i64 ((List.length p_s : Int) - (List.length p_substr : Int))) + 1)) fun t32 =>
 Q5 C t32 (c14.toNat : Int) (fun r38 H39 =>
 ift (decide ((r38 : Int) < 0))
 (K (-1) H39)
 (J24 (w .i64 (x20.1 + (w .i64 (r38 + 1)))) H39)) H22)
 (J24 x20.1 H22)))
 (K (-1) H22))))))
theorem QcI (C p_s p_substr K H) (h : Qa3 C p_s p_substr K H) : Qai C p_s p_substr K H := by
 refine Ye Tryz.func121 rfl Tryz.ntmps121 [(0, sv p_s), (1, sv p_substr)] (Zo (Za (GL.nil (Zo (Zm (Zr (Za (GL.nil (GC.seq (GC.block (Zo (Zm (Zi (.bool (((List.length p_substr : Int) : Int) == 0)) (Zm (GL.cut0 4 [(23, .bool ((((List.length p_substr : Int) : Int) == 0) || (p_substr == p_s))), (0, sv p_s), (1, sv p_substr), (5, .int .i64 (List.length p_substr : Int))] ?_ ?_)))))))))))))))
 rcases Zb (((List.length p_substr : Int) : Int) == 0) with hc1 | hc1
 refine Zk hc1 (Zk hc1 (Zk hc1 (Zt hc1 ?_)))
 exact GL.jump0 (fun _ _ h => h) () rfl ⟨(by rw [hc1]; rfl), rfl, rfl, rfl, trivial⟩
 refine Zu hc1 Ym (Zu hc1 Ym (Zu hc1 (OV.sbin (a := p_substr) (b := p_s) (v := .bool (p_substr == p_s)) rfl rfl rfl) (Zn hc1 ?_)))
 exact GL.jump0 (fun _ _ h => h) () rfl ⟨(by rw [hc1]; rfl), rfl, rfl, rfl, trivial⟩
 refine Za (GL.nil (Yd h (fun hc2 h => ?_) fun hc2 h => ?_))
 refine Zo (Za (GL.nil ?_))
 exact Y1 I3 ⟨0, rfl, h⟩
 refine Zo (Zm (Zi (.bool (((List.length p_substr : Int) : Int) == 1)) (Za (GL.nil (Yd h (fun hc3 h => ?_) fun hc3 h => ?_)))))
 refine Zo (Zm (Zm (Ys h fun c4 h => ?_)))
 refine Zc h QaE ?_
 rintro _ H8 ⟨r7, rfl, h⟩
 refine Za (GL.nil ?_)
 exact Y1 I3 ⟨r7, rfl, h⟩
 refine Zo (Zm (Zm (Zr (Zi (.bool (decide (((List.length p_substr : Int) : Int) ≥ (List.length p_s : Int)))) (Za (GL.nil (Yd h (fun hc9 h => ?_) fun hc9 h => ?_)))))))
 refine Zo (Za (GL.nil ?_))
 exact Y1 I3 ⟨(-1), rfl, h⟩
 refine Zo (Zm (Yl h fun x10 h => ?_))
 refine Zi (.bool (decide (((List.length p_substr : Int) : Int) ≤ x10))) (Zm (GL.cut0 4 [(44, .bool ((decide (((List.length p_substr : Int) : Int) ≤ x10)) && (decide (((List.length p_s : Int) : Int) ≤ 64)))), (0, sv p_s), (1, sv p_substr), (5, .int .i64 (List.length p_substr : Int))] ?_ ?_))
 rcases Zb (decide (((List.length p_substr : Int) : Int) ≤ x10)) with hc12 | hc12
 refine Zu hc12 Ym (Zu hc12 (OV.lenStr rfl rfl) (Zu hc12 (OV.ibin (v := .bool (decide (((List.length p_s : Int) : Int) ≤ 64))) rfl rfl rfl) (Zt hc12 ?_)))
 exact GL.jump0 (fun _ _ h => h) () rfl ⟨(by rw [hc12]; rfl), rfl, rfl, rfl, trivial⟩
 refine Zk hc12 (Zk hc12 (Zk hc12 (Zn hc12 ?_)))
 exact GL.jump0 (fun _ _ h => h) () rfl ⟨(by rw [hc12]; rfl), rfl, rfl, rfl, trivial⟩
 refine Za (GL.nil (Yd h (fun hc13 h => ?_) fun hc13 h => ?_))
 refine GC.seq ?_
 exact GC.never h
 refine GC.skip_to (fun _ _ h => h) (Zo (Zm ?_))
 refine Ys h fun c14 h => ?_
 refine Za (GL.nil (Zo (Zm (Ys h fun c17 h => ?_))))
 refine Za (GL.nil (Zo (Za (GL.nil (Zo (Zm (Zr (Zm (Zi (.int .i64 (w .i64 ((List.length p_s : Int) - (List.length p_substr : Int)))) (Zi (.int .i64 (w .i64 ((w .i64 ((List.length p_s : Int) - (List.length p_substr : Int))) + 1))) (Za (GL.nil (Zo (Za (GL.nil (GC.seq (GC.block (Yp h (fun x20 => [(8, .int .i64 x20.1), (10, .int .i64 x20.2), (0, sv p_s), (1, sv p_substr), (5, .int .i64 (List.length p_substr : Int)), (6, .int .u8 (c14.toNat : Int)), (7, .int .u8 (c17.toNat : Int)), (9, .int .i64 (w .i64 ((w .i64 ((List.length p_s : Int) - (List.length p_substr : Int))) + 1)))]) ?_))))))))))))))))))
 intro x20 H22 J21 h
 refine GC.seq (Zo (Zm (Zm (Zi (.bool (decide ((x20.1 : Int) < (w .i64 ((w .i64 ((List.length p_s : Int) - (List.length p_substr : Int))) + 1))))) (GL.nil (Yd h (fun hc23 h => ?_) fun hc23 h => ?_))))))
 refine GC.skip (GC.block ?_)
 obtain ⟨J24, h, hR27⟩ := h
 refine GC.join (α := Int) J24 (fun x25 => [(8, .int .i64 x25), (0, sv p_s), (1, sv p_substr), (5, .int .i64 (List.length p_substr : Int)), (6, .int .u8 (c14.toNat : Int)), (7, .int .u8 (c17.toNat : Int)), (9, .int .i64 (w .i64 ((w .i64 ((List.length p_s : Int) - (List.length p_substr : Int))) + 1))), (10, .int .i64 x20.2)]) ?_ ?_
 refine Zo (Zm (Zm (Ys h fun c28 h => ?_)))
 refine Zm (Zi (.bool (((c28.toNat : Int) : Int) != (c14.toNat : Int))) (GL.nil (Yd h (fun hc31 h => ?_) fun hc31 h => ?_)))
 refine Zo (Zm (Zm (Zi (.int .i64 (w .i64 (x20.1 + 1))) (Zm ?_))))
 obtain ⟨h33, h34, h35, t32, h36, h⟩ := h
 refine Zv (OV.sliceStr (s := p_s) h33 h34 h35 h36 rfl rfl rfl rfl rfl rfl) (Zm (Zc h QaE ?_))
 rintro _ H39 ⟨r38, rfl, h⟩
 refine Za (GL.nil (GC.seq (Zo (Zm (Zi (.bool (decide ((r38 : Int) < 0))) (GL.nil (Yd h (fun hc40 h => ?_) fun hc40 h => ?_)))))))
 refine Zo (Za (GL.nil ?_))
 exact Y1 I3 ⟨(-1), rfl, h⟩
 refine GC.skip (GC.region (Zm (Zm (Zi (.int .i64 (w .i64 (r38 + 1))) (Zi (.int .i64 (w .i64 (x20.1 + (w .i64 (r38 + 1))))) (Za ?_))))))
 exact Yj I3 (w .i64 (x20.1 + (w .i64 (r38 + 1)))) h
 exact Yk I3 x20.1 h
 intro x25 H26 h
 replace h := hR27 x25 H26 h
 refine GC.seq (Zo (Zm (Zm (Zi (.int .i64 (w .i64 (x25 + 1))) (Ys h fun c41 h => ?_)))))
 refine Zm (Zi (.bool (((c41.toNat : Int) : Int) == (c17.toNat : Int))) (Zm ?_))
 obtain ⟨J45, h, hR46⟩ := h
 refine GL.cut (α := Bool) 9 J45 (fun b44 => [(93, .bool b44), (0, sv p_s), (1, sv p_substr), (5, .int .i64 (List.length p_substr : Int)), (6, .int .u8 (c14.toNat : Int)), (7, .int .u8 (c17.toNat : Int)), (8, .int .i64 x25), (9, .int .i64 (w .i64 ((w .i64 ((List.length p_s : Int) - (List.length p_substr : Int))) + 1))), (10, .int .i64 x20.2)]) ?_ ?_
 rcases h.em with ⟨hc47, h⟩ | ⟨hc47, h⟩
 refine Zu hc47 Ym (Zu hc47 Ym (Zu hc47 Ym (Zu hc47 Ym (Zu hc47 (OV.ibin (v := .int .i64 (w .i64 (x25 + (List.length p_substr : Int)))) rfl rfl rfl) ?_))))
 obtain ⟨h49, h50, h51, t48, h52, h⟩ := h
 refine Zu hc47 (OV.sliceStr (s := p_s) h49 h50 h51 h52 rfl rfl rfl rfl rfl rfl) (Zu hc47 Ym (Zu hc47 (OV.sbin (a := t48) (b := p_substr) (v := .bool (t48 == p_substr)) rfl rfl rfl) (Zt hc47 ?_)))
 exact Yj I3 (t48 == p_substr) h
 refine Zk hc47 (Zk hc47 (Zk hc47 (Zk hc47 (Zk hc47 (Zk hc47 (Zk hc47 (Zk hc47 (Zn hc47 ?_))))))))
 exact Yj I3 false h
 intro b44 H54 h
 replace h := hR46 b44 H54 h
 refine GL.nil (Yd h (fun hc55 h => ?_) fun hc55 h => ?_)
 refine Zo (Zm (Za (GL.nil ?_)))
 exact Y1 I3 ⟨x25, rfl, h⟩
 refine GC.skip (Zo (Zm (Zi (.int .i64 (w .i64 (x25 + 1))) (Za (GL.nil (Zo (Zm (Zi (.int .i64 (w .i64 (x20.2 + 1))) (Za (GL.nil (Zo (Zm (Yl h fun x56 h => ?_)))))))))))))
 refine Zi (.bool (decide (((List.length p_substr : Int) : Int) ≤ x56))) (Zm ?_)
 obtain ⟨J59, h, hR60⟩ := h
 refine GL.cut (α := Bool) 5 J59 (fun b58 => [(107, .bool b58), (0, sv p_s), (1, sv p_substr), (5, .int .i64 (List.length p_substr : Int)), (6, .int .u8 (c14.toNat : Int)), (7, .int .u8 (c17.toNat : Int)), (8, .int .i64 (w .i64 (x25 + 1))), (9, .int .i64 (w .i64 ((w .i64 ((List.length p_s : Int) - (List.length p_substr : Int))) + 1))), (10, .int .i64 (w .i64 (x20.2 + 1)))]) ?_ ?_
 rcases h.em with ⟨hc61, h⟩ | ⟨hc61, h⟩
 refine Zu hc61 Ym (Zu hc61 Ym (GL.call h (Yt hc61) rfl Qdd (vs := [.int .i64 (w .i64 (x25 + 1))]) rfl ?_))
 rintro _ H63 ⟨r62, rfl, h⟩
 refine Zu hc61 (OV.ibin (v := .bool (decide (((w .i64 (x20.2 + 1)) : Int) > r62))) rfl rfl rfl) (Zt hc61 ?_)
 exact Yj I3 (decide (((w .i64 (x20.2 + 1)) : Int) > r62)) h
 refine Zk hc61 (Zk hc61 (Zk hc61 (Zk hc61 (Zn hc61 ?_))))
 exact Yj I3 false h
 intro b58 H64 h
 replace h := hR60 b58 H64 h
 refine GL.nil (Yd h (fun hc65 h => ?_) fun hc65 h => ?_)
 refine GC.seq ?_
 exact GC.never h
 refine Zo (Zm (Yl h fun x72 h => ?_))
 refine Zi (.bool (decide (((List.length p_substr : Int) : Int) > x72))) (Zm (GL.cut0 6 [(127, .bool ((decide (((List.length p_substr : Int) : Int) > x72)) && (decide (((w .i64 (x20.2 + 1)) : Int) ≥ (w .i64 (4 + (sShr .i64 (w .i64 (x25 + 1)) 4))))))), (0, sv p_s), (1, sv p_substr), (5, .int .i64 (List.length p_substr : Int)), (6, .int .u8 (c14.toNat : Int)), (7, .int .u8 (c17.toNat : Int)), (8, .int .i64 (w .i64 (x25 + 1))), (9, .int .i64 (w .i64 ((w .i64 ((List.length p_s : Int) - (List.length p_substr : Int))) + 1))), (10, .int .i64 (w .i64 (x20.2 + 1)))] ?_ ?_))
 rcases Zb (decide (((List.length p_substr : Int) : Int) > x72)) with hc74 | hc74
 refine Zu hc74 Ym (Zu hc74 Ym (Zu hc74 (OV.shr rfl rfl (by decide)) (Zu hc74 (OV.ibin (v := .int .i64 (w .i64 (4 + (sShr .i64 (w .i64 (x25 + 1)) 4)))) rfl rfl rfl) (Zu hc74 (OV.ibin (v := .bool (decide (((w .i64 (x20.2 + 1)) : Int) ≥ (w .i64 (4 + (sShr .i64 (w .i64 (x25 + 1)) 4)))))) rfl rfl rfl) (Zt hc74 ?_)))))
 exact GL.jump0 (fun _ _ h => h) () rfl ⟨(by rw [hc74]; rfl), rfl, rfl, rfl, rfl, rfl, rfl, rfl, rfl, trivial⟩
 refine Zk hc74 (Zk hc74 (Zk hc74 (Zk hc74 (Zk hc74 (Zn hc74 ?_)))))
 exact GL.jump0 (fun _ _ h => h) () rfl ⟨(by rw [hc74]; rfl), rfl, rfl, rfl, rfl, rfl, rfl, rfl, rfl, trivial⟩
 refine Zm (GL.cut0 4 [(132, .bool (((decide (((List.length p_substr : Int) : Int) > x72)) && (decide (((w .i64 (x20.2 + 1)) : Int) ≥ (w .i64 (4 + (sShr .i64 (w .i64 (x25 + 1)) 4)))))) && (decide (((w .i64 (x25 + 1)) : Int) < (w .i64 ((w .i64 ((List.length p_s : Int) - (List.length p_substr : Int))) + 1)))))), (0, sv p_s), (1, sv p_substr), (5, .int .i64 (List.length p_substr : Int)), (6, .int .u8 (c14.toNat : Int)), (7, .int .u8 (c17.toNat : Int)), (8, .int .i64 (w .i64 (x25 + 1))), (9, .int .i64 (w .i64 ((w .i64 ((List.length p_s : Int) - (List.length p_substr : Int))) + 1))), (10, .int .i64 (w .i64 (x20.2 + 1)))] ?_ ?_)
 rcases Zb ((decide (((List.length p_substr : Int) : Int) > x72)) && (decide (((w .i64 (x20.2 + 1)) : Int) ≥ (w .i64 (4 + (sShr .i64 (w .i64 (x25 + 1)) 4)))))) with hc75 | hc75
 refine Zu hc75 Ym (Zu hc75 Ym (Zu hc75 (OV.ibin (v := .bool (decide (((w .i64 (x25 + 1)) : Int) < (w .i64 ((w .i64 ((List.length p_s : Int) - (List.length p_substr : Int))) + 1))))) rfl rfl rfl) (Zt hc75 ?_)))
 exact GL.jump0 (fun _ _ h => h) () rfl ⟨(by rw [hc75]; rfl), rfl, rfl, rfl, rfl, rfl, rfl, rfl, rfl, trivial⟩
 refine Zk hc75 (Zk hc75 (Zk hc75 (Zn hc75 ?_)))
 exact GL.jump0 (fun _ _ h => h) () rfl ⟨(by rw [hc75]; rfl), rfl, rfl, rfl, rfl, rfl, rfl, rfl, rfl, trivial⟩
 refine GL.nil (Yd h (fun hc76 h => ?_) fun hc76 h => ?_)
 refine Zo (Zm (Zm ?_))
 obtain ⟨h78, h79, h80, t77, h81, h⟩ := h
 refine Zv (OV.sliceStr (s := p_s) h78 h79 h80 h81 rfl rfl rfl rfl rfl rfl) (Zm (Zc h Qa8 ?_))
 rintro _ H84 ⟨r83, rfl, h⟩
 refine Za (GL.nil (GC.seq (Zo (Zm (Zi (.bool (decide ((r83 : Int) < 0))) (GL.nil (Yd h (fun hc85 h => ?_) fun hc85 h => ?_)))))))
 refine Zo (Za (GL.nil ?_))
 exact Y1 I3 ⟨(-1), rfl, h⟩
 refine GC.skip (Zo (Zm (Zm (Zi (.int .i64 (w .i64 ((w .i64 (x25 + 1)) + r83))) (Za (GL.nil ?_))))))
 exact Y1 I3 ⟨(w .i64 ((w .i64 (x25 + 1)) + r83)), rfl, h⟩
 exact Yk I3 ((w .i64 (x25 + 1)), (w .i64 (x20.2 + 1))) h
 refine GC.exit_to (fun _ _ h => h) (Zo (Za (GL.nil ?_)))
 exact Y1 I3 ⟨(-1), rfl, h⟩
def Qaw (C : Ctx) (p_data : Sl) (p_a : Int) (p_m : Int) (p_b : Int) (p_cmp : Value) (K : Heap → Prop) (H : Heap) : Prop :=
 lp (α := Int × Int) ((w .i64 (p_m - p_a)), (w .i64 (p_b - p_m))) H (fun x1 J2 H3 =>
 ift ((x1.1 : Int) != x1.2)
 (ift (decide ((x1.1 : Int) > x1.2))
 (Qu C p_data (w .i64 (p_m - x1.1)) p_m x1.2 p_cmp (fun H6 =>
 J2 ((w .i64 (x1.1 - x1.2)), x1.2) H6) H3)
 (Qu C p_data (w .i64 (p_m - x1.1)) (w .i64 ((w .i64 (p_m + x1.2)) - x1.1)) x1.1 p_cmp (fun H7 =>
 J2 (x1.1, (w .i64 (x1.2 - x1.1))) H7) H3))
 (Qu C p_data (w .i64 (p_m - x1.1)) p_m x1.1 p_cmp (fun H8 =>
 K H8) H3))
theorem QbZ (C p_data p_a p_m p_b p_cmp K H) (h : Qaw C p_data p_a p_m p_b p_cmp K H) : QV C p_data p_a p_m p_b p_cmp K H := by
 refine Ye Tryz.func122 rfl Tryz.ntmps122 [(0, slv p_data), (1, .int .i64 p_a), (2, .int .i64 p_m), (3, .int .i64 p_b), (4, p_cmp)] (Zo (Zm (Zm (Zi (.int .i64 (w .i64 (p_m - p_a))) (Za (GL.nil (Zo (Zm (Zm (Zi (.int .i64 (w .i64 (p_b - p_m))) (Za (GL.nil (GC.seq (GC.block (Yp h (fun x1 => [(10, .int .i64 x1.1), (11, .int .i64 x1.2), (0, slv p_data), (2, .int .i64 p_m), (4, p_cmp)]) ?_)))))))))))))))
 intro x1 H3 J2 h
 refine GC.seq (Zo (Zm (Zm (Zi (.bool ((x1.1 : Int) != x1.2)) (GL.nil (Yd h (fun u4 h => ?_) fun u4 h => ?_))))))
 refine GC.skip (GC.block (Zo (Zm (Zm (Zi (.bool (decide ((x1.1 : Int) > x1.2))) (GL.nil (Yd h (fun u5 h => ?_) fun u5 h => ?_)))))))
 refine Zo (Zm (Zm (Zm (Zi (.int .i64 (w .i64 (p_m - x1.1))) (Zm (Zm (Zm (Zc h QN ?_))))))))
 rintro _ H6 ⟨rfl, h⟩
 refine GL.nil (GC.region (Zm (Zm (Zi (.int .i64 (w .i64 (x1.1 - x1.2))) (Za ?_)))))
 exact Yj I3 ((w .i64 (x1.1 - x1.2)), x1.2) h
 refine Zo (Zm (Zm (Zm (Zi (.int .i64 (w .i64 (p_m - x1.1))) (Zm (Zm (Zi (.int .i64 (w .i64 (p_m + x1.2))) (Zm (Zi (.int .i64 (w .i64 ((w .i64 (p_m + x1.2)) - x1.1))) (Zm (Zm (Zc h QN ?_))))))))))))
 rintro _ H7 ⟨rfl, h⟩
 refine GL.nil (GC.region (Zm (Zm (Zi (.int .i64 (w .i64 (x1.2 - x1.1))) (Za ?_)))))
 exact Yj I3 (x1.1, (w .i64 (x1.2 - x1.1))) h
 refine GC.exit_to (fun _ _ h => h) (GC.region (Zm (Zm (Zm (Zi (.int .i64 (w .i64 (p_m - x1.1))) (Zm (Zm (Zm (Zc h QN ?_)))))))))
 rintro _ H8 ⟨rfl, h⟩
 exact GL.ends (fun _ _ hf hs => QJ rfl hf hs ⟨rfl, h⟩)
def QcP (C : Ctx) (p_x : Int) (p_y : Int) (K : Int → Heap → Prop) (H : Heap) : Prop :=
 Qbs C p_x (fun r1 H2 =>
 Qbs C p_y (fun r3 H4 =>
 ift r1
 (ift r3
 (K 0 H4)
 (K (-1) H4))
 (ift r3
 (K 1 H4)
 (ift (decide ((p_x : Int) < p_y))
 (K (-1) H4)
 (ift (decide ((p_x : Int) > p_y))
 (K 1 H4)
 (K 0 H4))))) H2) H
theorem Qfz (C p_x p_y K H) (h : QcP C p_x p_y K H) : QbO C p_x p_y K H := by
 refine Ye Tryz.func123 rfl Tryz.ntmps123 [(0, .int .u8 p_x), (1, .int .u8 p_y)] (Zo (Za (GL.nil (Zo (Zm (Zc h QdB ?_))))))
 rintro _ H2 ⟨r1, rfl, h⟩
 refine Za (GL.nil (Zo (Zm (Zc h QdB ?_))))
 rintro _ H4 ⟨r3, rfl, h⟩
 refine Za (GL.nil (GC.seq (Zo (Zm (GL.nil (Yd h (fun hc5 h => ?_) fun hc5 h => ?_))))))
 refine GC.seq (Zo (Zm (GL.nil (Yd h (fun hc6 h => ?_) fun hc6 h => ?_))))
 refine Zo (Za (GL.nil ?_))
 exact Y1 I3 ⟨0, rfl, h⟩
 refine GC.skip (Zo (Za (GL.nil ?_)))
 exact Y1 I3 ⟨(-1), rfl, h⟩
 refine GC.skip (GC.seq (Zo (Zm (GL.nil (Yd h (fun hc7 h => ?_) fun hc7 h => ?_)))))
 refine Zo (Za (GL.nil ?_))
 exact Y1 I3 ⟨1, rfl, h⟩
 refine GC.skip (GC.seq (Zo (Zm (Zm (Zi (.bool (decide ((p_x : Int) < p_y))) (GL.nil (Yd h (fun hc8 h => ?_) fun hc8 h => ?_)))))))
 refine Zo (Za (GL.nil ?_))
 exact Y1 I3 ⟨(-1), rfl, h⟩
 refine GC.skip (GC.seq (Zo (Zm (Zm (Zi (.bool (decide ((p_x : Int) > p_y))) (GL.nil (Yd h (fun hc9 h => ?_) fun hc9 h => ?_)))))))
 refine Zo (Za (GL.nil ?_))
 exact Y1 I3 ⟨1, rfl, h⟩
 refine GC.skip (Zo (Za (GL.nil ?_)))
 exact Y1 I3 ⟨0, rfl, h⟩
def Qez (C : Ctx) (p_a : Str) (p_b : Str) (K : Int → Heap → Prop) (H : Heap) : Prop :=
 QaV C p_a [45] (fun r1 H2 =>
 QaV C p_b [45] (fun r3 H4 =>
 ift (r1 && r3)
 (dr H4 fun Hs7 =>
 slS p_b 1 (List.length p_b : Int) fun t9 =>
 slS p_a 1 (List.length p_a : Int) fun t15 =>
 QaC C t9 t15 (fun r22 H23 =>
 Heap.le Hs7 H23 ∧
 K r22 H23) H4)
 (ift r1
 (K (-1) H4)
 (ift r3
 (K 1 H4)
 (Qcm C (List.length p_a : Int) (List.length p_b : Int) (fun r26 H27 =>
 Qag C p_a p_b (fun r28 H29 =>
 nw ([.int .i64 r26, .int .i64 r28]) (fun b30 H31 =>
 Qdu C (Sl.of (some (b30, 0)) 2 2) (fun r32 H33 =>
 K r32 H33) H31) H29) H27) H4)))) H2) H
theorem Qgu (C p_a p_b K H) (h : Qez C p_a p_b K H) : QaC C p_a p_b K H := by
 refine Ye Tryz.func124 rfl Tryz.ntmps124 [(0, sv p_a), (1, sv p_b)] (Zo (Za (GL.nil (Zo (Zm (Zc h QcN ?_))))))
 rintro _ H2 ⟨r1, rfl, h⟩
 refine Zm (Zc h QcN ?_)
 rintro _ H4 ⟨r3, rfl, h⟩
 refine Za (Za (GL.nil (GC.seq (GC.block (Zo (Zm (Zm (GL.cut0 2 [(15, .bool (r1 && r3)), (0, sv p_a), (1, sv p_b), (5, .bool r1), (6, .bool r3)] ?_ ?_))))))))
 rcases Bool.eq_false_or_eq_true r1 with u5 | u5
 refine Zu u5 Ym (Zt u5 ?_)
 exact GL.jump0 (fun _ _ h => h) () rfl ⟨(by rw [u5]; rfl), rfl, rfl, rfl, rfl, trivial⟩
 refine Zk u5 (Zn u5 ?_)
 exact GL.jump0 (fun _ _ h => h) () rfl ⟨(by rw [u5]; rfl), rfl, rfl, rfl, rfl, trivial⟩
 refine Za (GL.nil (Yd h (fun u6 h => ?_) fun u6 h => ?_))
 refine GC.seq ?_
 obtain ⟨Hs7, hle8, h⟩ := h
 refine GC.any (Hs := Hs7) (by kernel_rfl) hle8 (Zp 0 rfl Ym ?_)
 obtain ⟨h10, h11, h12, t9, h13, h⟩ := h
 refine Zp 1 rfl (OV.sliceStr (s := p_b) h10 h11 h12 h13 rfl rfl rfl rfl rfl rfl) (Zp 2 rfl Ym ?_)
 obtain ⟨h16, h17, h18, t15, h19, h⟩ := h
 refine Zp 3 rfl (OV.sliceStr (s := p_a) h16 h17 h18 h19 rfl rfl rfl rfl rfl rfl) (GA.eff 4 rfl (by kernel_rfl) (Zc h QgR ?_))
 rintro _ H23 ⟨r22, rfl, h⟩
 obtain ⟨hle21, h⟩ := h
 refine GA.back hle21 (Zp 5 rfl Ya (GA.done (by kernel_rfl) (GL.nil ?_)))
 exact Y1 I3 ⟨r22, rfl, h⟩
 refine Zo (Zm (Za (GL.nil (Yd h (fun u24 h => ?_) fun u24 h => ?_))))
 refine Zo (Za (GL.nil ?_))
 exact Y1 I3 ⟨(-1), rfl, h⟩
 refine Zo (Zm (Za (GL.nil (Yd h (fun u25 h => ?_) fun u25 h => ?_))))
 refine Zo (Za (GL.nil ?_))
 exact Y1 I3 ⟨1, rfl, h⟩
 refine GC.skip_to (fun _ _ h => h) (Zo (Zm (Zr (Zm (Zr (Zc h QgH ?_))))))
 rintro _ H27 ⟨r26, rfl, h⟩
 refine Zm (Zm (Zc h Qbn ?_))
 rintro _ H29 ⟨r28, rfl, h⟩
 refine GL.buildSlice (cs := [.int .i64 r26, .int .i64 r28]) h trivial rfl (vs := [(0, .int .i64 r26), (1, .int .i64 r28)]) rfl ⟨3, fun _ => by kernel_rfl⟩ ?_
 intro b30 H31 h
 refine Zc h QgI ?_
 rintro _ H33 ⟨r32, rfl, h⟩
 refine Za (GL.nil ?_)
 exact Y1 I3 ⟨r32, rfl, h⟩
def QcC (C : Ctx) (p_x : Str) (p_y : Str) (K : Int → Heap → Prop) (H : Heap) : Prop :=
 Qba C p_x (fun r1 H2 =>
 Qba C p_y (fun r3 H4 =>
 ift r1
 (ift r3
 (K 0 H4)
 (K (-1) H4))
 (ift r3
 (K 1 H4)
 (ift (slt p_x p_y)
 (K (-1) H4)
 (ift (!(slt p_x p_y || (p_x == p_y)))
 (K 1 H4)
 (K 0 H4))))) H2) H
theorem QeS (C p_x p_y K H) (h : QcC C p_x p_y K H) : Qag C p_x p_y K H := by
 refine Ye Tryz.func125 rfl Tryz.ntmps125 [(0, sv p_x), (1, sv p_y)] (Zo (Za (GL.nil (Zo (Zm (Zc h Qda ?_))))))
 rintro _ H2 ⟨r1, rfl, h⟩
 refine Za (GL.nil (Zo (Zm (Zc h Qda ?_))))
 rintro _ H4 ⟨r3, rfl, h⟩
 refine Za (GL.nil (GC.seq (Zo (Zm (GL.nil (Yd h (fun u5 h => ?_) fun u5 h => ?_))))))
 refine GC.seq (Zo (Zm (GL.nil (Yd h (fun u6 h => ?_) fun u6 h => ?_))))
 refine Zo (Za (GL.nil ?_))
 exact Y1 I3 ⟨0, rfl, h⟩
 refine GC.skip (Zo (Za (GL.nil ?_)))
 exact Y1 I3 ⟨(-1), rfl, h⟩
 refine GC.skip (GC.seq (Zo (Zm (GL.nil (Yd h (fun u7 h => ?_) fun u7 h => ?_)))))
 refine Zo (Za (GL.nil ?_))
 exact Y1 I3 ⟨1, rfl, h⟩
 refine GC.skip (GC.seq (Zo (Zm (Zm (Zv (OV.sbin (a := p_x) (b := p_y) (v := .bool (slt p_x p_y)) rfl rfl rfl) (GL.nil (Yd h (fun u8 h => ?_) fun u8 h => ?_)))))))
 refine Zo (Za (GL.nil ?_))
 exact Y1 I3 ⟨(-1), rfl, h⟩
 refine GC.skip (GC.seq (Zo (Zm (Zm (Zv (OV.sbin (a := p_x) (b := p_y) (v := .bool (!(slt p_x p_y || (p_x == p_y)))) rfl rfl rfl) (GL.nil (Yd h (fun u9 h => ?_) fun u9 h => ?_)))))))
 refine Zo (Za (GL.nil ?_))
 exact Y1 I3 ⟨1, rfl, h⟩
 refine GC.skip (Zo (Za (GL.nil ?_)))
 exact Y1 I3 ⟨0, rfl, h⟩
def QgY (C : Ctx) (p_vals : Sl) (K : Int → Heap → Prop) (H : Heap) : Prop :=
 lp (α := Int) 0 H (fun x1 J2 H3 =>
 ift (decide ((x1 : Int) < (Sl.len p_vals : Int)))
 (ixa p_vals x1 fun p5 =>
 ldI H3 .i64 (p5.1, p5.2 + (x1 : Int).toNat * 1) fun x10 =>
 ift ((x10 : Int) != 0)
 (K x10 H3)
 (J2 (w .i64 (x1 + 1)) H3))
 (K 0 H3))
theorem QjX (C p_vals K H) (h : QgY C p_vals K H) : Qdu C p_vals K H := by
 refine Ye Tryz.func126 rfl Tryz.ntmps126 [(0, slv p_vals)] (Zo (Za (GL.nil (Zo (Za (GL.nil (GC.seq (Zo (Zm (Zq (Zm (GL.nil (GC.block (Yp h (fun x1 => [(8, .int .i64 x1), (3, .int .i64 0), (6, slv p_vals), (7, .int .i64 (Sl.len p_vals : Int))]) ?_))))))))))))))
 intro x1 H3 J2 h
 refine Zo (Zi (.bool (decide ((x1 : Int) < (Sl.len p_vals : Int)))) (GL.nil (GC.seq (Yd h (fun u4 h => ?_) fun u4 h => ?_))))
 refine GC.skip (GC.seq (GC.block (Zo (Yx h fun p5 h => ?_))))
 refine Yl h fun x10 h => ?_
 refine Za (GL.nil (Zo (Zm (Zm (Zi (.bool ((x10 : Int) != 0)) (GL.nil (Yd h (fun u12 h => ?_) fun u12 h => ?_)))))))
 refine Zo (Zm (Za (GL.nil ?_)))
 exact Y1 I3 ⟨x10, rfl, h⟩
 refine GC.skip_to (fun _ _ h => h) (GC.region (Zi (.int .i64 (w .i64 (x1 + 1))) (Zm ?_)))
 exact Yj I3 (w .i64 (x1 + 1)) h
 refine GC.exit_to (fun _ _ h => h) (Zo (Zm (Za (GL.nil ?_))))
 exact Y1 I3 ⟨0, rfl, h⟩
def QcO (C : Ctx) (p_x : Int) (p_y : Int) (K : Int → Heap → Prop) (H : Heap) : Prop :=
 Qbr C p_x (fun r1 H2 =>
 Qbr C p_y (fun r3 H4 =>
 ift r1
 (ift r3
 (K 0 H4)
 (K (-1) H4))
 (ift r3
 (K 1 H4)
 (ift (decide ((p_x : Int) < p_y))
 (K (-1) H4)
 (ift (decide ((p_x : Int) > p_y))
 (K 1 H4)
 (K 0 H4))))) H2) H
theorem Qfy (C p_x p_y K H) (h : QcO C p_x p_y K H) : QbN C p_x p_y K H := by
 refine Ye Tryz.func127 rfl Tryz.ntmps127 [(0, .int .i64 p_x), (1, .int .i64 p_y)] (Zo (Za (GL.nil (Zo (Zm (Zc h QdA ?_))))))
 rintro _ H2 ⟨r1, rfl, h⟩
 refine Za (GL.nil (Zo (Zm (Zc h QdA ?_))))
 rintro _ H4 ⟨r3, rfl, h⟩
 refine Za (GL.nil (GC.seq (Zo (Zm (GL.nil (Yd h (fun u5 h => ?_) fun u5 h => ?_))))))
 refine GC.seq (Zo (Zm (GL.nil (Yd h (fun u6 h => ?_) fun u6 h => ?_))))
 refine Zo (Za (GL.nil ?_))
 exact Y1 I3 ⟨0, rfl, h⟩
 refine GC.skip (Zo (Za (GL.nil ?_)))
 exact Y1 I3 ⟨(-1), rfl, h⟩
 refine GC.skip (GC.seq (Zo (Zm (GL.nil (Yd h (fun u7 h => ?_) fun u7 h => ?_)))))
 refine Zo (Za (GL.nil ?_))
 exact Y1 I3 ⟨1, rfl, h⟩
 refine GC.skip (GC.seq (Zo (Zm (Zm (Zi (.bool (decide ((p_x : Int) < p_y))) (GL.nil (Yd h (fun u8 h => ?_) fun u8 h => ?_)))))))
 refine Zo (Za (GL.nil ?_))
 exact Y1 I3 ⟨(-1), rfl, h⟩
 refine GC.skip (GC.seq (Zo (Zm (Zm (Zi (.bool (decide ((p_x : Int) > p_y))) (GL.nil (Yd h (fun u9 h => ?_) fun u9 h => ?_)))))))
 refine Zo (Za (GL.nil ?_))
 exact Y1 I3 ⟨1, rfl, h⟩
 refine GC.skip (Zo (Za (GL.nil ?_)))
 exact Y1 I3 ⟨0, rfl, h⟩
def QfS (C : Ctx) (p_v : Qb) (K : Int → Heap → Prop) (H : Heap) : Prop :=
 nw (Qb.c p_v) (fun b1 H2 =>
 lp (α := Int × Int) (0, 0) H2 (fun x3 J4 H5 =>
 ldL H5 ((b1, 0).1, (b1, 0).2 + 3) fun x6 =>
 ift (decide ((x3.2 : Int) < (Sl.len x6 : Int)))
 (ldL H5 ((b1, 0).1, (b1, 0).2 + 3) fun x9 =>
 ixa x9 x3.2 fun p11 =>
 ldT H5 Qb.c (p11.1, p11.2 + (x3.2 : Int).toNat * 4) fun x16 =>
 Qaj C x16 (fun r18 H19 =>
 J4 ((if r18 > x3.1 then r18 else x3.1 : Int), (w .i64 (x3.2 + 1))) H19) H5)
 (K (w .i64 (x3.1 + 1)) H5))) H
theorem Qjc (C p_v K H) (h : QfS C p_v K H) : Qaj C p_v K H := by
 refine Ye Tryz.func133 rfl Tryz.ntmps133 [(0, .agg (Qb.c p_v).toArray)] (Zo (GL.box (v := .agg (Qb.c p_v).toArray) (cs := Qb.c p_v) h trivial rfl rfl rfl ?_))
 intro b1 H2 h
 refine Za (GL.nil (Zo (Za (GL.nil (GC.seq (Zo (Za (GL.nil (GC.block (Yp h (fun x3 => [(3, .int .i64 x3.1), (4, .int .i64 x3.2), (1, pv (some (b1, 0)))]) ?_))))))))))
 intro x3 H5 J4 h
 refine GC.seq (Zo (Zm (Zf (Yl h fun x6 h => ?_))))
 refine Zq (Zi (.bool (decide ((x3.2 : Int) < (Sl.len x6 : Int)))) (GL.nil (Yd h (fun u8 h => ?_) fun u8 h => ?_)))
 refine GC.skip (GC.seq (GC.block (GC.region (Zm (Zf (Yl h fun x9 h => ?_))))))
 refine Zm (Yx h fun p11 h => ?_)
 obtain ⟨x16, v17, h⟩ := h
 refine Zv (OV.loadT rfl rfl rfl v17) (Zc h QfI ?_)
 rintro _ H19 ⟨r18, rfl, h⟩
 refine Zv (OV.maxI rfl rfl) (Za (GL.nil_to (fun _ _ h => h) (GC.region (Zm (Zi (.int .i64 (w .i64 (x3.2 + 1))) (Za ?_))))))
 exact Yj I3 ((if r18 > x3.1 then r18 else x3.1 : Int), (w .i64 (x3.2 + 1))) h
 refine GC.exit_to (fun _ _ h => h) (Zo (Zm (Zi (.int .i64 (w .i64 (x3.1 + 1))) (Za (GL.nil ?_)))))
 exact Y1 I3 ⟨(w .i64 (x3.1 + 1)), rfl, h⟩
def Qg9 (C : Ctx) (p_v : Qb) (K : Bool → Heap → Prop) (H : Heap) : Prop :=
 nw (Qb.c p_v) (fun b1 H2 =>
 jn (α := Bool) (fun x4 H5 =>
 lp (α := Bool × Int) (x4, 0) H5 (fun x101 J102 H103 =>
 ldL H103 ((b1, 0).1, (b1, 0).2 + 3) fun x104 =>
 ift ((decide ((x101.2 : Int) < (Sl.len x104 : Int))) && x101.1)
 (ldL H103 ((b1, 0).1, (b1, 0).2 + 3) fun x108 =>
 ixa x108 x101.2 fun p110 =>
 ldT H103 Qb.c (p110.1, p110.2 + (x101.2 : Int).toNat * 4) fun x115 =>
 QaB C x115 (fun r117 H118 =>
 J102 (r117, (w .i64 (x101.2 + 1))) H118) H103)
 (K x101.1 H103)))
 (fun J3 => ldI H2 .u8 ((b1, 0).1, (b1, 0).2 + 0) fun x7 =>
 ift ((x7 : Int) == 1)
 (ldI H2 .i64 ((b1, 0).1, (b1, 0).2 + 1) fun x10 =>
 jn (α := Bool) (fun b12 H18 =>
 jn (α := Bool) (fun b19 H25 =>
 jn (α := Bool) (fun b26 H32 =>
 J3 b26 H32)
 (fun J27 => ift b19
 (ldL H25 ((b1, 0).1, (b1, 0).2 + 3) fun x30 =>
 J27 (((Sl.len x30 : Int) : Int) == 0) H25)
 (J27 false H25)))
 (fun J20 => ift b12
 (ldS H18 ((b1, 0).1, (b1, 0).2 + 2) fun x23 =>
 J20 (x23 == ([] : Str)) H18)
 (J20 false H18)))
 (fun J13 => ift ((x10 : Int) == 0)
 (J13 true H2)
 (ldI H2 .i64 ((b1, 0).1, (b1, 0).2 + 1) fun x16 =>
 J13 ((x16 : Int) == 1) H2)))
 (ift ((x7 : Int) == 2)
 (ldS H2 ((b1, 0).1, (b1, 0).2 + 2) fun x34 =>
 jn (α := Bool) (fun b36 H42 =>
 J3 b36 H42)
 (fun J37 => ift (x34 == ([] : Str))
 (ldL H2 ((b1, 0).1, (b1, 0).2 + 3) fun x40 =>
 J37 (((Sl.len x40 : Int) : Int) == 0) H2)
 (J37 false H2)))
 (ift ((x7 : Int) == 3)
 (ldI H2 .i64 ((b1, 0).1, (b1, 0).2 + 1) fun x44 =>
 jn (α := Bool) (fun b46 H52 =>
 jn (α := Bool) (fun b53 H61 =>
 J3 b53 H61)
 (fun J54 => ift b46
 (ldS H52 ((b1, 0).1, (b1, 0).2 + 2) fun x57 =>
 QdN C x57 (fun r59 H60 =>
 J54 r59 H60) H52)
 (J54 false H52)))
 (fun J47 => ift ((x44 : Int) == 0)
 (ldL H2 ((b1, 0).1, (b1, 0).2 + 3) fun x50 =>
 J47 (((Sl.len x50 : Int) : Int) == 0) H2)
 (J47 false H2)))
 (ift ((x7 : Int) == 4)
 (ldI H2 .i64 ((b1, 0).1, (b1, 0).2 + 1) fun x63 =>
 jn (α := Bool) (fun b65 H71 =>
 J3 b65 H71)
 (fun J66 => ift ((x63 : Int) == 0)
 (ldL H2 ((b1, 0).1, (b1, 0).2 + 3) fun x69 =>
 J66 (((Sl.len x69 : Int) : Int) == 0) H2)
 (J66 false H2)))
 (ift ((x7 : Int) == 5)
 (ldI H2 .i64 ((b1, 0).1, (b1, 0).2 + 1) fun x73 =>
 jn (α := Bool) (fun b75 H81 =>
 jn (α := Bool) (fun b82 H88 =>
 J3 b82 H88)
 (fun J83 => ift b75
 (ldL H81 ((b1, 0).1, (b1, 0).2 + 3) fun x86 =>
 J83 (((Sl.len x86 : Int) : Int) != 1) H81)
 (J83 false H81)))
 (fun J76 => ift ((x73 : Int) == 0)
 (ldS H2 ((b1, 0).1, (b1, 0).2 + 2) fun x79 =>
 J76 (x79 == ([] : Str)) H2)
 (J76 false H2)))
 (ift ((x7 : Int) == 6)
 (ldI H2 .i64 ((b1, 0).1, (b1, 0).2 + 1) fun x90 =>
 jn (α := Bool) (fun b92 H100 =>
 J3 b92 H100)
 (fun J93 => ift ((x90 : Int) == 0)
 (ldS H2 ((b1, 0).1, (b1, 0).2 + 2) fun x96 =>
 Qee C x96 (fun r98 H99 =>
 J93 r98 H99) H2)
 (J93 false H2)))
 (J3 false H2)))))))) H
theorem Qj8 (C p_v K H) (h : Qg9 C p_v K H) : QaB C p_v K H := by
 refine Ye Tryz.func134 rfl Tryz.ntmps134 [(0, .agg (Qb.c p_v).toArray)] (Zo (GL.box (v := .agg (Qb.c p_v).toArray) (cs := Qb.c p_v) h trivial rfl rfl rfl ?_))
 intro b1 H2 h
 refine Za (GL.nil (Zo (Za (GL.nil ?_))))
 obtain ⟨J3, h, hR6⟩ := h
 refine GC.join (α := Bool) J3 (fun x4 => [(3, .bool x4), (1, pv (some (b1, 0)))]) ?_ ?_
 refine Zo (Zf (Yl h fun x7 h => ?_))
 refine GL.nil (GC.block (Zo (Zi (.bool ((x7 : Int) == 1)) (Za (GL.nil (Yd h (fun u9 h => ?_) fun u9 h => ?_))))))
 refine GC.region (Zf (Yl h fun x10 h => ?_))
 refine Zi (.bool ((x10 : Int) == 0)) (Zm ?_)
 obtain ⟨J13, h, hR14⟩ := h
 refine GL.cut (α := Bool) 4 J13 (fun b12 => [(16, .bool b12), (1, pv (some (b1, 0)))]) ?_ ?_
 rcases h.em with ⟨u15, h⟩ | ⟨u15, h⟩
 refine Zk u15 (Zk u15 (Zk u15 (Zt u15 ?_)))
 exact Yj I3 true h
 refine Zu u15 Yf ?_
 obtain ⟨x16, v17, h⟩ := h
 refine Zu u15 (Yo v17) (Zu u15 (OV.ibin (v := .bool ((x16 : Int) == 1)) rfl rfl rfl) (Zn u15 ?_))
 exact Yj I3 ((x16 : Int) == 1) h
 intro b12 H18 h
 replace h := hR14 b12 H18 h
 refine Zm ?_
 obtain ⟨J20, h, hR21⟩ := h
 refine GL.cut (α := Bool) 4 J20 (fun b19 => [(21, .bool b19), (1, pv (some (b1, 0)))]) ?_ ?_
 rcases h.em with ⟨u22, h⟩ | ⟨u22, h⟩
 refine Zu u22 Yf ?_
 obtain ⟨x23, v24, h⟩ := h
 refine Zu u22 (Yo v24) (Zu u22 (OV.sbin (a := x23) (b := ([] : Str)) (v := .bool (x23 == ([] : Str))) rfl rfl rfl) (Zt u22 ?_))
 exact Yj I3 (x23 == ([] : Str)) h
 refine Zk u22 (Zk u22 (Zk u22 (Zn u22 ?_)))
 exact Yj I3 false h
 intro b19 H25 h
 replace h := hR21 b19 H25 h
 refine Zm ?_
 obtain ⟨J27, h, hR28⟩ := h
 refine GL.cut (α := Bool) 5 J27 (fun b26 => [(27, .bool b26), (1, pv (some (b1, 0)))]) ?_ ?_
 rcases h.em with ⟨u29, h⟩ | ⟨u29, h⟩
 refine Zu u29 Yf ?_
 obtain ⟨x30, v31, h⟩ := h
 refine Zu u29 (Yo v31) (Zu u29 (OV.lenSl rfl rfl) (Zu u29 (OV.ibin (v := .bool (((Sl.len x30 : Int) : Int) == 0)) rfl rfl rfl) (Zt u29 ?_)))
 exact Yj I3 (((Sl.len x30 : Int) : Int) == 0) h
 refine Zk u29 (Zk u29 (Zk u29 (Zk u29 (Zn u29 ?_))))
 exact Yj I3 false h
 intro b26 H32 h
 replace h := hR28 b26 H32 h
 refine Za ?_
 exact Yj I3 b26 h
 refine Zo (Zi (.bool ((x7 : Int) == 2)) (Za (GL.nil (Yd h (fun u33 h => ?_) fun u33 h => ?_))))
 refine GC.region (Zf (Yl h fun x34 h => ?_))
 refine Zv (OV.sbin (a := x34) (b := ([] : Str)) (v := .bool (x34 == ([] : Str))) rfl rfl rfl) (Zm ?_)
 obtain ⟨J37, h, hR38⟩ := h
 refine GL.cut (α := Bool) 5 J37 (fun b36 => [(38, .bool b36), (1, pv (some (b1, 0)))]) ?_ ?_
 rcases h.em with ⟨u39, h⟩ | ⟨u39, h⟩
 refine Zu u39 Yf ?_
 obtain ⟨x40, v41, h⟩ := h
 refine Zu u39 (Yo v41) (Zu u39 (OV.lenSl rfl rfl) (Zu u39 (OV.ibin (v := .bool (((Sl.len x40 : Int) : Int) == 0)) rfl rfl rfl) (Zt u39 ?_)))
 exact Yj I3 (((Sl.len x40 : Int) : Int) == 0) h
 refine Zk u39 (Zk u39 (Zk u39 (Zk u39 (Zn u39 ?_))))
 exact Yj I3 false h
 intro b36 H42 h
 replace h := hR38 b36 H42 h
 refine Za ?_
 exact Yj I3 b36 h
 refine Zo (Zi (.bool ((x7 : Int) == 3)) (Za (GL.nil (Yd h (fun u43 h => ?_) fun u43 h => ?_))))
 refine GC.region (Zf (Yl h fun x44 h => ?_))
 refine Zi (.bool ((x44 : Int) == 0)) (Zm ?_)
 obtain ⟨J47, h, hR48⟩ := h
 refine GL.cut (α := Bool) 5 J47 (fun b46 => [(49, .bool b46), (1, pv (some (b1, 0)))]) ?_ ?_
 rcases h.em with ⟨u49, h⟩ | ⟨u49, h⟩
 refine Zu u49 Yf ?_
 obtain ⟨x50, v51, h⟩ := h
 refine Zu u49 (Yo v51) (Zu u49 (OV.lenSl rfl rfl) (Zu u49 (OV.ibin (v := .bool (((Sl.len x50 : Int) : Int) == 0)) rfl rfl rfl) (Zt u49 ?_)))
 exact Yj I3 (((Sl.len x50 : Int) : Int) == 0) h
 refine Zk u49 (Zk u49 (Zk u49 (Zk u49 (Zn u49 ?_))))
 exact Yj I3 false h
 intro b46 H52 h
 replace h := hR48 b46 H52 h
 refine Zm ?_
 obtain ⟨J54, h, hR55⟩ := h
 refine GL.cut (α := Bool) 4 J54 (fun b53 => [(54, .bool b53), (1, pv (some (b1, 0)))]) ?_ ?_
 rcases h.em with ⟨u56, h⟩ | ⟨u56, h⟩
 refine Zu u56 Yf ?_
 obtain ⟨x57, v58, h⟩ := h
 refine Zu u56 (Yo v58) (GL.call h (Yt u56) rfl QiG (vs := [sv x57]) rfl ?_)
 rintro _ H60 ⟨r59, rfl, h⟩
 refine Zt u56 ?_
 exact Yj I3 r59 h
 refine Zk u56 (Zk u56 (Zk u56 (Zn u56 ?_)))
 exact Yj I3 false h
 intro b53 H61 h
 replace h := hR55 b53 H61 h
 refine Za ?_
 exact Yj I3 b53 h
 refine Zo (Zi (.bool ((x7 : Int) == 4)) (Za (GL.nil (Yd h (fun u62 h => ?_) fun u62 h => ?_))))
 refine GC.region (Zf (Yl h fun x63 h => ?_))
 refine Zi (.bool ((x63 : Int) == 0)) (Zm ?_)
 obtain ⟨J66, h, hR67⟩ := h
 refine GL.cut (α := Bool) 5 J66 (fun b65 => [(65, .bool b65), (1, pv (some (b1, 0)))]) ?_ ?_
 rcases h.em with ⟨u68, h⟩ | ⟨u68, h⟩
 refine Zu u68 Yf ?_
 obtain ⟨x69, v70, h⟩ := h
 refine Zu u68 (Yo v70) (Zu u68 (OV.lenSl rfl rfl) (Zu u68 (OV.ibin (v := .bool (((Sl.len x69 : Int) : Int) == 0)) rfl rfl rfl) (Zt u68 ?_)))
 exact Yj I3 (((Sl.len x69 : Int) : Int) == 0) h
 refine Zk u68 (Zk u68 (Zk u68 (Zk u68 (Zn u68 ?_))))
 exact Yj I3 false h
 intro b65 H71 h
 replace h := hR67 b65 H71 h
 refine Za ?_
 exact Yj I3 b65 h
 refine Zo (Zi (.bool ((x7 : Int) == 5)) (Za (GL.nil (Yd h (fun u72 h => ?_) fun u72 h => ?_))))
 refine GC.region (Zf (Yl h fun x73 h => ?_))
 refine Zi (.bool ((x73 : Int) == 0)) (Zm ?_)
 obtain ⟨J76, h, hR77⟩ := h
 refine GL.cut (α := Bool) 4 J76 (fun b75 => [(75, .bool b75), (1, pv (some (b1, 0)))]) ?_ ?_
 rcases h.em with ⟨u78, h⟩ | ⟨u78, h⟩
 refine Zu u78 Yf ?_
 obtain ⟨x79, v80, h⟩ := h
 refine Zu u78 (Yo v80) (Zu u78 (OV.sbin (a := x79) (b := ([] : Str)) (v := .bool (x79 == ([] : Str))) rfl rfl rfl) (Zt u78 ?_))
 exact Yj I3 (x79 == ([] : Str)) h
 refine Zk u78 (Zk u78 (Zk u78 (Zn u78 ?_)))
 exact Yj I3 false h
 intro b75 H81 h
 replace h := hR77 b75 H81 h
 refine Zm ?_
 obtain ⟨J83, h, hR84⟩ := h
 refine GL.cut (α := Bool) 5 J83 (fun b82 => [(81, .bool b82), (1, pv (some (b1, 0)))]) ?_ ?_
 rcases h.em with ⟨u85, h⟩ | ⟨u85, h⟩
 refine Zu u85 Yf ?_
 obtain ⟨x86, v87, h⟩ := h
 refine Zu u85 (Yo v87) (Zu u85 (OV.lenSl rfl rfl) (Zu u85 (OV.ibin (v := .bool (((Sl.len x86 : Int) : Int) != 1)) rfl rfl rfl) (Zt u85 ?_)))
 exact Yj I3 (((Sl.len x86 : Int) : Int) != 1) h
 refine Zk u85 (Zk u85 (Zk u85 (Zk u85 (Zn u85 ?_))))
 exact Yj I3 false h
 intro b82 H88 h
 replace h := hR84 b82 H88 h
 refine Za ?_
 exact Yj I3 b82 h
 refine Zo (Zi (.bool ((x7 : Int) == 6)) (Za (GL.nil (Yd h (fun u89 h => ?_) fun u89 h => ?_))))
 refine GC.region (Zf (Yl h fun x90 h => ?_))
 refine Zi (.bool ((x90 : Int) == 0)) (Zm ?_)
 obtain ⟨J93, h, hR94⟩ := h
 refine GL.cut (α := Bool) 4 J93 (fun b92 => [(91, .bool b92), (1, pv (some (b1, 0)))]) ?_ ?_
 rcases h.em with ⟨u95, h⟩ | ⟨u95, h⟩
 refine Zu u95 Yf ?_
 obtain ⟨x96, v97, h⟩ := h
 refine Zu u95 (Yo v97) (GL.call h (Yt u95) rfl Qju (vs := [sv x96]) rfl ?_)
 rintro _ H99 ⟨r98, rfl, h⟩
 refine Zt u95 ?_
 exact Yj I3 r98 h
 refine Zk u95 (Zk u95 (Zk u95 (Zn u95 ?_)))
 exact Yj I3 false h
 intro b92 H100 h
 replace h := hR94 b92 H100 h
 refine Za ?_
 exact Yj I3 b92 h
 exact Yk I3 false h
 intro x4 H5 h
 replace h := hR6 x4 H5 h
 refine GC.seq (Zo (Za (GL.nil (GC.block (Yp h (fun x101 => [(3, .bool x101.1), (4, .int .i64 x101.2), (1, pv (some (b1, 0)))]) ?_)))))
 intro x101 H103 J102 h
 refine GC.seq (Zo (Zm (Zf (Yl h fun x104 h => ?_))))
 refine Zq (Zi (.bool (decide ((x101.2 : Int) < (Sl.len x104 : Int)))) (Zm (GL.cut0 2 [(99, .bool ((decide ((x101.2 : Int) < (Sl.len x104 : Int))) && x101.1)), (1, pv (some (b1, 0))), (3, .bool x101.1), (4, .int .i64 x101.2)] ?_ ?_)))
 rcases Zb (decide ((x101.2 : Int) < (Sl.len x104 : Int))) with u106 | u106
 refine Zu u106 Ym (Zt u106 ?_)
 exact GL.jump0 (fun _ _ h => h) () rfl ⟨(by rw [u106]; rfl), rfl, rfl, rfl, trivial⟩
 refine Zk u106 (Zn u106 ?_)
 exact GL.jump0 (fun _ _ h => h) () rfl ⟨(by rw [u106]; rfl), rfl, rfl, rfl, trivial⟩
 refine GL.nil (Yd h (fun u107 h => ?_) fun u107 h => ?_)
 refine GC.skip (GC.seq (GC.block (GC.region (Zf (Yl h fun x108 h => ?_)))))
 refine Zm (Yx h fun p110 h => ?_)
 obtain ⟨x115, v116, h⟩ := h
 refine Zv (OV.loadT rfl rfl rfl v116) (Zc h QgM ?_)
 rintro _ H118 ⟨r117, rfl, h⟩
 refine Za (GL.nil_to (fun _ _ h => h) (GC.region (Zm (Zi (.int .i64 (w .i64 (x101.2 + 1))) (Za ?_)))))
 exact Yj I3 (r117, (w .i64 (x101.2 + 1))) h
 refine GC.exit_to (fun _ _ h => h) (Zo (Zm (Za (GL.nil ?_))))
 exact Y1 I3 ⟨x101.1, rfl, h⟩
def Qg8 (C : Ctx) (p_v : Qb) (K : Bool → Heap → Prop) (H : Heap) : Prop :=
 nw (Qb.c p_v) (fun b1 H2 =>
 jn (α := Bool) (fun x4 H5 =>
 lp (α := Bool × Int) (x4, 0) H5 (fun x23 J24 H25 =>
 ldL H25 ((b1, 0).1, (b1, 0).2 + 3) fun x26 =>
 ift ((decide ((x23.2 : Int) < (Sl.len x26 : Int))) && x23.1)
 (ldL H25 ((b1, 0).1, (b1, 0).2 + 3) fun x30 =>
 ixa x30 x23.2 fun p32 =>
 ldT H25 Qb.c (p32.1, p32.2 + (x23.2 : Int).toNat * 4) fun x37 =>
 QaA C x37 (fun r39 H40 =>
 J24 (r39, (w .i64 (x23.2 + 1))) H40) H25)
 (K x23.1 H25)))
 (fun J3 => ldI H2 .u8 ((b1, 0).1, (b1, 0).2 + 0) fun x7 =>
 ift ((x7 : Int) == 3)
 (ldS H2 ((b1, 0).1, (b1, 0).2 + 2) fun x10 =>
 QdM C x10 (fun r12 H13 =>
 J3 (decide ((r12 : Int) ≤ 200)) H13) H2)
 (ift ((x7 : Int) == 4)
 (ldS H2 ((b1, 0).1, (b1, 0).2 + 2) fun x15 =>
 J3 (decide (((List.length x15 : Int) : Int) ≤ 4096)) H2)
 (ift ((x7 : Int) == 5)
 (ldL H2 ((b1, 0).1, (b1, 0).2 + 3) fun x18 =>
 J3 (decide (((Sl.len x18 : Int) : Int) ≤ 16)) H2)
 (ift ((x7 : Int) == 6)
 (ldL H2 ((b1, 0).1, (b1, 0).2 + 3) fun x21 =>
 J3 (decide (((Sl.len x21 : Int) : Int) ≤ 8)) H2)
 (J3 true H2)))))) H
theorem Qj7 (C p_v K H) (h : Qg8 C p_v K H) : QaA C p_v K H := by
 refine Ye Tryz.func135 rfl Tryz.ntmps135 [(0, .agg (Qb.c p_v).toArray)] (Zo (GL.box (v := .agg (Qb.c p_v).toArray) (cs := Qb.c p_v) h trivial rfl rfl rfl ?_))
 intro b1 H2 h
 refine Za (GL.nil (Zo (Za (GL.nil ?_))))
 obtain ⟨J3, h, hR6⟩ := h
 refine GC.join (α := Bool) J3 (fun x4 => [(3, .bool x4), (1, pv (some (b1, 0)))]) ?_ ?_
 refine Zo (Zf (Yl h fun x7 h => ?_))
 refine GL.nil (GC.block (Zo (Zi (.bool ((x7 : Int) == 3)) (Za (GL.nil (Yd h (fun u9 h => ?_) fun u9 h => ?_))))))
 refine GC.region (Zf (Yl h fun x10 h => ?_))
 refine Zc h QiF ?_
 rintro _ H13 ⟨r12, rfl, h⟩
 refine Zi (.bool (decide ((r12 : Int) ≤ 200))) (Za ?_)
 exact Yj I3 (decide ((r12 : Int) ≤ 200)) h
 refine Zo (Zi (.bool ((x7 : Int) == 4)) (Za (GL.nil (Yd h (fun u14 h => ?_) fun u14 h => ?_))))
 refine GC.region (Zf (Yl h fun x15 h => ?_))
 refine Zr (Zi (.bool (decide (((List.length x15 : Int) : Int) ≤ 4096))) (Za ?_))
 exact Yj I3 (decide (((List.length x15 : Int) : Int) ≤ 4096)) h
 refine Zo (Zi (.bool ((x7 : Int) == 5)) (Za (GL.nil (Yd h (fun u17 h => ?_) fun u17 h => ?_))))
 refine GC.region (Zf (Yl h fun x18 h => ?_))
 refine Zq (Zi (.bool (decide (((Sl.len x18 : Int) : Int) ≤ 16))) (Za ?_))
 exact Yj I3 (decide (((Sl.len x18 : Int) : Int) ≤ 16)) h
 refine Zo (Zi (.bool ((x7 : Int) == 6)) (Za (GL.nil (Yd h (fun u20 h => ?_) fun u20 h => ?_))))
 refine GC.region (Zf (Yl h fun x21 h => ?_))
 refine Zq (Zi (.bool (decide (((Sl.len x21 : Int) : Int) ≤ 8))) (Za ?_))
 exact Yj I3 (decide (((Sl.len x21 : Int) : Int) ≤ 8)) h
 exact Yk I3 true h
 intro x4 H5 h
 replace h := hR6 x4 H5 h
 refine GC.seq (Zo (Za (GL.nil (GC.block (Yp h (fun x23 => [(3, .bool x23.1), (4, .int .i64 x23.2), (1, pv (some (b1, 0)))]) ?_)))))
 intro x23 H25 J24 h
 refine GC.seq (Zo (Zm (Zf (Yl h fun x26 h => ?_))))
 refine Zq (Zi (.bool (decide ((x23.2 : Int) < (Sl.len x26 : Int)))) (Zm (GL.cut0 2 [(38, .bool ((decide ((x23.2 : Int) < (Sl.len x26 : Int))) && x23.1)), (1, pv (some (b1, 0))), (3, .bool x23.1), (4, .int .i64 x23.2)] ?_ ?_)))
 rcases Zb (decide ((x23.2 : Int) < (Sl.len x26 : Int))) with u28 | u28
 refine Zu u28 Ym (Zt u28 ?_)
 exact GL.jump0 (fun _ _ h => h) () rfl ⟨(by rw [u28]; rfl), rfl, rfl, rfl, trivial⟩
 refine Zk u28 (Zn u28 ?_)
 exact GL.jump0 (fun _ _ h => h) () rfl ⟨(by rw [u28]; rfl), rfl, rfl, rfl, trivial⟩
 refine GL.nil (Yd h (fun u29 h => ?_) fun u29 h => ?_)
 refine GC.skip (GC.seq (GC.block (GC.region (Zf (Yl h fun x30 h => ?_)))))
 refine Zm (Yx h fun p32 h => ?_)
 obtain ⟨x37, v38, h⟩ := h
 refine Zv (OV.loadT rfl rfl rfl v38) (Zc h QgL ?_)
 rintro _ H40 ⟨r39, rfl, h⟩
 refine Za (GL.nil_to (fun _ _ h => h) (GC.region (Zm (Zi (.int .i64 (w .i64 (x23.2 + 1))) (Za ?_)))))
 exact Yj I3 (r39, (w .i64 (x23.2 + 1))) h
 refine GC.exit_to (fun _ _ h => h) (Zo (Zm (Za (GL.nil ?_))))
 exact Y1 I3 ⟨x23.1, rfl, h⟩
def Qey (C : Ctx) (p_a : Str) (p_b : Str) (K : Int → Heap → Prop) (H : Heap) : Prop :=
 ixs p_a 0 fun c1 =>
 ixs p_b 0 fun c4 =>
 ift (!((((c1.toNat : Int) : Int) == 45) == (((c4.toNat : Int) : Int) == 45)))
 (ift (((c1.toNat : Int) : Int) == 45)
 (K (-1) H)
 (K 1 H))
 (ift (((c1.toNat : Int) : Int) == 45)
 (dr H fun Hs10 =>
 slS p_b 1 (List.length p_b : Int) fun t12 =>
 slS p_a 1 (List.length p_a : Int) fun t18 =>
 Qcx C t12 t18 (fun r25 H26 =>
 Heap.le Hs10 H26 ∧
 K r25 H26) H)
 (ift (((List.length p_a : Int) : Int) != (List.length p_b : Int))
 (QaM C (List.length p_a : Int) (List.length p_b : Int) (fun r28 H29 =>
 K r28 H29) H)
 (Qcc C p_a p_b (fun r30 H31 =>
 K r30 H31) H)))
theorem Qgt (C p_a p_b K H) (h : Qey C p_a p_b K H) : Qcx C p_a p_b K H := by
 refine Ye Tryz.func136 rfl Tryz.ntmps136 [(0, sv p_a), (1, sv p_b)] (Zo (Za (GL.nil (GC.seq (GC.draw (by kernel_rfl) (by kernel_rfl) (GQ.val trivial rfl (OV.move (v := sv p_a) rfl) ?_))))))
 obtain ⟨c1, ha2, hb3, h⟩ := h
 refine GQ.val trivial rfl (OV.indexStr (s := p_a) rfl rfl rfl ha2 hb3) (GQ.val trivial rfl (OV.ibin (v := .bool (((c1.toNat : Int) : Int) == 45)) rfl rfl rfl) (GQ.val trivial rfl (OV.move (v := sv p_b) rfl) ?_))
 obtain ⟨c4, ha5, hb6, h⟩ := h
 refine GQ.val trivial rfl (OV.indexStr (s := p_b) rfl rfl rfl ha5 hb6) (GQ.val trivial rfl (OV.ibin (v := .bool (((c4.toNat : Int) : Int) == 45)) rfl rfl rfl) (GQ.val trivial rfl (OV.assign (v := .bool (((c1.toNat : Int) : Int) == 45)) rfl) (GQ.val trivial rfl (OV.assign (v := .bool (((c4.toNat : Int) : Int) == 45)) rfl) (GQ.nil (GL.nil (GC.seq (Zo (Zm (Zm (Zv (OV.neqBool rfl rfl rfl) (GL.nil (Yd h (fun u7 h => ?_) fun u7 h => ?_))))))))))))
 refine GC.seq (Zo (Zm (GL.nil (Yd h (fun u8 h => ?_) fun u8 h => ?_))))
 refine Zo (Za (GL.nil ?_))
 exact Y1 I3 ⟨(-1), rfl, h⟩
 refine GC.skip (Zo (Za (GL.nil ?_)))
 exact Y1 I3 ⟨1, rfl, h⟩
 refine GC.skip (GC.seq (Zo (Zm (GL.nil (Yd h (fun u9 h => ?_) fun u9 h => ?_)))))
 refine GC.seq ?_
 obtain ⟨Hs10, hle11, h⟩ := h
 refine GC.any (Hs := Hs10) (by kernel_rfl) hle11 (Zp 0 rfl Ym ?_)
 obtain ⟨h13, h14, h15, t12, h16, h⟩ := h
 refine Zp 1 rfl (OV.sliceStr (s := p_b) h13 h14 h15 h16 rfl rfl rfl rfl rfl rfl) (Zp 2 rfl Ym ?_)
 obtain ⟨h19, h20, h21, t18, h22, h⟩ := h
 refine Zp 3 rfl (OV.sliceStr (s := p_a) h19 h20 h21 h22 rfl rfl rfl rfl rfl rfl) (GA.eff 4 rfl (by kernel_rfl) (Zc h QgJ ?_))
 rintro _ H26 ⟨r25, rfl, h⟩
 obtain ⟨hle24, h⟩ := h
 refine GA.back hle24 (Zp 5 rfl Ya (GA.done (by kernel_rfl) (GL.nil ?_)))
 exact Y1 I3 ⟨r25, rfl, h⟩
 refine GC.skip (GC.seq (Zo (Zm (Zr (Zm (Zr (Zi (.bool (((List.length p_a : Int) : Int) != (List.length p_b : Int))) (GL.nil (Yd h (fun u27 h => ?_) fun u27 h => ?_)))))))))
 refine Zo (Zm (Zr (Zm (Zr (Zc h Qbx ?_)))))
 rintro _ H29 ⟨r28, rfl, h⟩
 refine Za (GL.nil ?_)
 exact Y1 I3 ⟨r28, rfl, h⟩
 refine GC.skip (Zo (Zm (Zm (Zc h QdT ?_))))
 rintro _ H31 ⟨r30, rfl, h⟩
 refine Za (GL.nil ?_)
 exact Y1 I3 ⟨r30, rfl, h⟩
def QfU (C : Ctx) (p_a : Str) (p_b : Str) (K : Int → Heap → Prop) (H : Heap) : Prop :=
 lp (α := Int) 0 H (fun x1 J2 H3 =>
 ift ((decide ((x1 : Int) < (List.length p_a : Int))) && (decide ((x1 : Int) < (List.length p_b : Int))))
 (ixs p_a x1 fun c6 =>
 ixs p_b x1 fun c9 =>
 ift (((c6.toNat : Int) : Int) != (c9.toNat : Int))
 (dr H3 fun Hs13 =>
 ixs p_a x1 fun c15 =>
 ixs p_b x1 fun c18 =>
 QaM C (w .i64 (c15.toNat : Int)) (w .i64 (c18.toNat : Int)) (fun r22 H23 =>
 Heap.le Hs13 H23 ∧
 K r22 H23) H3)
 (J2 (w .i64 (x1 + 1)) H3))
 (QaM C (List.length p_a : Int) (List.length p_b : Int) (fun r24 H25 =>
 K r24 H25) H3))
theorem Qje (C p_a p_b K H) (h : QfU C p_a p_b K H) : Qcc C p_a p_b K H := by
 refine Ye Tryz.func137 rfl Tryz.ntmps137 [(0, sv p_a), (1, sv p_b)] (Zo (Za (GL.nil (GC.seq (Zo (Za (GL.nil (GC.block (Yp h (fun x1 => [(5, .int .i64 x1), (0, sv p_a), (1, sv p_b)]) ?_)))))))))
 intro x1 H3 J2 h
 refine GC.seq (Zo (Zm (Zm (Zr (Zi (.bool (decide ((x1 : Int) < (List.length p_a : Int)))) (Zm (GL.cut0 5 [(15, .bool ((decide ((x1 : Int) < (List.length p_a : Int))) && (decide ((x1 : Int) < (List.length p_b : Int))))), (0, sv p_a), (1, sv p_b), (5, .int .i64 x1)] ?_ ?_)))))))
 rcases Zb (decide ((x1 : Int) < (List.length p_a : Int))) with u4 | u4
 refine Zu u4 Ym (Zu u4 Ym (Zu u4 (OV.lenStr rfl rfl) (Zu u4 (OV.ibin (v := .bool (decide ((x1 : Int) < (List.length p_b : Int)))) rfl rfl rfl) (Zt u4 ?_))))
 exact GL.jump0 (fun _ _ h => h) () rfl ⟨(by rw [u4]; rfl), rfl, rfl, rfl, trivial⟩
 refine Zk u4 (Zk u4 (Zk u4 (Zk u4 (Zn u4 ?_))))
 exact GL.jump0 (fun _ _ h => h) () rfl ⟨(by rw [u4]; rfl), rfl, rfl, rfl, trivial⟩
 refine GL.nil (Yd h (fun u5 h => ?_) fun u5 h => ?_)
 refine GC.skip (GC.seq (GC.block (GC.seq (GC.draw (by kernel_rfl) (by kernel_rfl) (GQ.val trivial rfl (OV.move (v := sv p_a) rfl) (GQ.val trivial rfl (OV.move (v := .int .i64 x1) rfl) ?_))))))
 obtain ⟨c6, ha7, hb8, h⟩ := h
 refine GQ.val trivial rfl (OV.indexStr (s := p_a) rfl rfl rfl ha7 hb8) (GQ.val trivial rfl (OV.move (v := sv p_b) rfl) (GQ.val trivial rfl (OV.move (v := .int .i64 x1) rfl) ?_))
 obtain ⟨c9, ha10, hb11, h⟩ := h
 refine GQ.val trivial rfl (OV.indexStr (s := p_b) rfl rfl rfl ha10 hb11) (GQ.val trivial rfl (OV.ibin (v := .bool (((c6.toNat : Int) : Int) != (c9.toNat : Int))) rfl rfl rfl) (GQ.nil (GL.nil (Yd h (fun u12 h => ?_) fun u12 h => ?_))))
 refine GC.seq ?_
 obtain ⟨Hs13, hle14, h⟩ := h
 refine GC.any (Hs := Hs13) (by kernel_rfl) hle14 (Zp 0 rfl Ym (Zp 1 rfl Ym ?_))
 obtain ⟨c15, ha16, hb17, h⟩ := h
 refine Zp 2 rfl (OV.indexStr rfl rfl rfl ha16 hb17) (Zp 3 rfl (OV.convInt rfl rfl rfl) (Zp 4 rfl Ym (Zp 5 rfl Ym ?_)))
 obtain ⟨c18, ha19, hb20, h⟩ := h
 refine Zp 6 rfl (OV.indexStr rfl rfl rfl ha19 hb20) (Zp 7 rfl (OV.convInt rfl rfl rfl) (GA.eff 8 rfl (by kernel_rfl) (Zc h Qbx ?_)))
 rintro _ H23 ⟨r22, rfl, h⟩
 obtain ⟨hle21, h⟩ := h
 refine GA.back hle21 (Zp 9 rfl Ya (GA.done (by kernel_rfl) (GL.nil ?_)))
 exact Y1 I3 ⟨r22, rfl, h⟩
 refine GC.skip_to (fun _ _ h => h) (GC.region (Zm (Zi (.int .i64 (w .i64 (x1 + 1))) (Za ?_))))
 exact Yj I3 (w .i64 (x1 + 1)) h
 refine GC.exit_to (fun _ _ h => h) (Zo (Zm (Zr (Zm (Zr (Zc h Qbx ?_))))))
 rintro _ H25 ⟨r24, rfl, h⟩
 refine Za (GL.nil ?_)
 exact Y1 I3 ⟨r24, rfl, h⟩
def QaF (C : Ctx) (p_s : Str) (p_prefix : Str) (K : Bool → Heap → Prop) (H : Heap) : Prop :=
 jn (α := Bool) (fun b1 H11 =>
 K b1 H11)
 (fun J2 => ift (decide (((List.length p_s : Int) : Int) ≥ (List.length p_prefix : Int)))
 (slS p_s 0 (List.length p_prefix : Int) fun t5 =>
 J2 (t5 == p_prefix) H)
 (J2 false H))
theorem Qb3 (C p_s p_prefix K H) (h : QaF C p_s p_prefix K H) : QH C p_s p_prefix K H := by
 refine Ye Tryz.func138 rfl Tryz.ntmps138 [(0, sv p_s), (1, sv p_prefix)] (Zo (Za (GL.nil (Zo (Zm (Zr (Zm (Zr (Zi (.bool (decide (((List.length p_s : Int) : Int) ≥ (List.length p_prefix : Int)))) (Zm ?_))))))))))
 obtain ⟨J2, h, hR3⟩ := h
 refine GL.cut (α := Bool) 7 J2 (fun b1 => [(17, .bool b1)]) ?_ ?_
 rcases h.em with ⟨u4, h⟩ | ⟨u4, h⟩
 refine Zu u4 Ym (Zu u4 Ym (Zu u4 (OV.lenStr rfl rfl) ?_))
 obtain ⟨h6, h7, h8, t5, h9, h⟩ := h
 refine Zu u4 (OV.sliceStr (s := p_s) h6 h7 h8 h9 rfl rfl rfl rfl rfl rfl) (Zu u4 Ym (Zu u4 (OV.sbin (a := t5) (b := p_prefix) (v := .bool (t5 == p_prefix)) rfl rfl rfl) (Zt u4 ?_)))
 exact Yj I3 (t5 == p_prefix) h
 refine Zk u4 (Zk u4 (Zk u4 (Zk u4 (Zk u4 (Zk u4 (Zn u4 ?_))))))
 exact Yj I3 false h
 intro b1 H11 h
 replace h := hR3 b1 H11 h
 refine Za (GL.nil ?_)
 exact Y1 I3 ⟨b1, rfl, h⟩
def Qbh (C : Ctx) (p_as : Option (Nat × Nat)) (p_c : Int) (K : Bool → Heap → Prop) (H : Heap) : Prop :=
 nck p_as fun p1 =>
 ixr p1 256 p_c <|
 ldB H (p1.1, p1.2 + (p_c : Int).toNat * 1) fun x5 =>
 K x5 H
theorem QcT (C p_as p_c K H) (h : Qbh C p_as p_c K H) : QY C p_as p_c K H := by
 refine Ye Tryz.func139 rfl Tryz.ntmps139 [(0, pv p_as), (1, .int .u8 p_c)] (Zo (Za (GL.nil (Zo (Zm (Zm ?_))))))
 obtain ⟨p1, hp2, h⟩ := h
 refine Zv (OV.nilCheck (q := p_as) rfl hp2) ?_
 obtain ⟨ha3, hb4, h⟩ := h
 refine Zv (OV.indexAddrA (p := p1) rfl rfl rfl rfl ha3 hb4) (Yl h fun x5 h => ?_)
 refine Za (GL.nil ?_)
 exact Y1 I3 ⟨x5, rfl, h⟩
def QaG (C : Ctx) (p_s : Str) (p_c : Int) (K : Int → Heap → Prop) (H : Heap) : Prop :=
 K (idxB p_s p_c) H
theorem Qb4 (C p_s p_c K H) (h : QaG C p_s p_c K H) : Q5 C p_s p_c K H := by
 refine Ye Tryz.func143 rfl Tryz.ntmps143 [(0, sv p_s), (1, .int .u8 p_c)] (Zo (Za (GL.nil (Zo (Zm (Zm (Zv (OV.ext QbG (vs := [sv p_s, .int .u8 p_c]) (v := .int .i64 (idxB p_s p_c)) rfl (fun w => QoK _ _ w)) (Za (GL.nil ?_)))))))))
 exact Y1 I3 ⟨(idxB p_s p_c), rfl, h⟩
end
section
set_option maxRecDepth 100000
open Go Go.Proofs
def Qah (C : Ctx) (p_data : Sl) (p_a : Int) (p_b : Int) (p_n : Int) (p_cmp : Value) (K : Heap → Prop) (H : Heap) : Prop :=
 lp (α := Int) 0 H (fun x1 J2 H3 =>
 ift (decide ((x1 : Int) < p_n))
 (jn (α := Unit) (fun x6 H7 =>
 J2 (w .i64 (x1 + 1)) H7)
 (fun J5 => dr H3 fun Hs9 =>
 ixa p_data (w .i64 (p_b + x1)) fun p11 =>
 ixa p_data (w .i64 (p_a + x1)) fun p16 =>
 (ldT H3 Qa.c (p11.1, p11.2 + (w .i64 (p_b + x1) : Int).toNat * 2) fun x22 =>
 Heap.le Hs9 H3 ∧
 ldT H3 Qa.c (p16.1, p16.2 + (w .i64 (p_a + x1) : Int).toNat * 2) fun x25 =>
 Heap.le Hs9 H3 ∧
 ixa p_data (w .i64 (p_a + x1)) fun p27 =>
 stT (p27.1, p27.2 + (w .i64 (p_a + x1) : Int).toNat * 2) (Qa.c x22) (fun H33 =>
 Heap.le Hs9 H33 ∧
 ixa p_data (w .i64 (p_b + x1)) fun p34 =>
 stT (p34.1, p34.2 + (w .i64 (p_b + x1) : Int).toNat * 2) (Qa.c x25) (fun H39 =>
 J5 () H39) H33) H3) ∧
 (ldT H3 Qa.c (p16.1, p16.2 + (w .i64 (p_a + x1) : Int).toNat * 2) fun x41 =>
 Heap.le Hs9 H3 ∧
 ldT H3 Qa.c (p11.1, p11.2 + (w .i64 (p_b + x1) : Int).toNat * 2) fun x44 =>
 Heap.le Hs9 H3 ∧
 ixa p_data (w .i64 (p_a + x1)) fun p46 =>
 stT (p46.1, p46.2 + (w .i64 (p_a + x1) : Int).toNat * 2) (Qa.c x44) (fun H52 =>
 Heap.le Hs9 H52 ∧
 ixa p_data (w .i64 (p_b + x1)) fun p53 =>
 stT (p53.1, p53.2 + (w .i64 (p_b + x1) : Int).toNat * 2) (Qa.c x41) (fun H58 =>
 J5 () H58) H52) H3)))
 (K H3))
theorem QbA (C p_data p_a p_b p_n p_cmp K H) (h : Qah C p_data p_a p_b p_n p_cmp K H) : Qu C p_data p_a p_b p_n p_cmp K H := by
 refine Ye Tryz.func147 rfl Tryz.ntmps147 [(0, slv p_data), (1, .int .i64 p_a), (2, .int .i64 p_b), (3, .int .i64 p_n), (4, p_cmp)] (Zo (Za (GL.nil (GC.block (Yp h (fun x1 => [(10, .int .i64 x1), (0, slv p_data), (1, .int .i64 p_a), (2, .int .i64 p_b), (3, .int .i64 p_n)]) ?_)))))
 intro x1 H3 J2 h
 refine GC.seq (Zo (Zm (Zm (Zi (.bool (decide ((x1 : Int) < p_n))) (GL.nil (Yd h (fun u4 h => ?_) fun u4 h => ?_))))))
 refine GC.skip (GC.seq (GC.block ?_))
 obtain ⟨J5, h, hR8⟩ := h
 refine GC.meet (α := Unit) J5 (fun _ => [(0, slv p_data), (1, .int .i64 p_a), (2, .int .i64 p_b), (3, .int .i64 p_n), (10, .int .i64 x1)]) ?_ ?_
 obtain ⟨Hs9, hle10, h⟩ := h
 refine GC.tail (Hs := Hs9) 23 (by kernel_rfl) hle10 (by kernel_rfl) (Zy 0 rfl Ym (Zy 1 rfl Ym (Zy 2 rfl Ym (Zy 3 rfl (OV.ibin (v := .int .i64 (w .i64 (p_a + x1))) rfl rfl rfl) (Zy 4 rfl Ym (Zy 5 rfl Ym (Zy 6 rfl Ym (Zy 7 rfl (OV.ibin (v := .int .i64 (w .i64 (p_b + x1))) rfl rfl rfl) (Zy 8 rfl Ym (Zy 9 rfl Ym (Zy 10 rfl Ym (Zy 11 rfl (OV.ibin (v := .int .i64 (w .i64 (p_b + x1))) rfl rfl rfl) ?_))))))))))))
 obtain ⟨p11, ha12, hb13, u14, hd15, h⟩ := h
 refine Zy 12 rfl (OV.indexAddr rfl rfl rfl rfl ha12 hb13 u14 hd15) (Zy 14 rfl Ym (Zy 15 rfl Ym (Zy 16 rfl Ym (Zy 17 rfl (OV.ibin (v := .int .i64 (w .i64 (p_a + x1))) rfl rfl rfl) ?_))))
 obtain ⟨p16, ha17, hb18, u19, hd20, h⟩ := h
 refine Zy 18 rfl (OV.indexAddr rfl rfl rfl rfl ha17 hb18 u19 hd20) (GT.effs [13, 19] (by kernel_rfl) (by simp) (List.forall_mem_cons.2 ⟨⟨_, rfl, rfl, ?_⟩, List.forall_mem_cons.2 ⟨⟨_, rfl, rfl, ?_⟩, fun _ h => by cases h⟩⟩))
 replace h := h.1
 obtain ⟨x22, v23, h⟩ := h
 refine Zv (OV.loadT rfl rfl rfl v23) ?_
 obtain ⟨hle21, h⟩ := h
 refine GT.back hle21 (GT.eff 19 rfl (by kernel_rfl) rfl ?_)
 obtain ⟨x25, v26, h⟩ := h
 refine Zv (OV.loadT rfl rfl rfl v26) ?_
 obtain ⟨hle24, h⟩ := h
 refine GT.back hle24 ?_
 obtain ⟨p27, ha28, hb29, u30, hd31, h⟩ := h
 refine Zy 20 rfl (OV.indexAddr rfl rfl rfl rfl ha28 hb29 u30 hd31) (GT.eff 21 rfl (by kernel_rfl) rfl (GL.storeT (p := (p27.1, p27.2 + (w .i64 (p_a + x1) : Int).toNat * 2)) (vs := Qa.c x22) h trivial rfl rfl rfl rfl ?_))
 intro H33 h
 obtain ⟨hle32, h⟩ := h
 refine GT.back hle32 ?_
 obtain ⟨p34, ha35, hb36, u37, hd38, h⟩ := h
 refine Zy 22 rfl (OV.indexAddr rfl rfl rfl rfl ha35 hb36 u37 hd38) (GT.done (by kernel_rfl) ?_)
 show GL _ _ _ _ _ [_] _ _
 refine GL.storeT (p := (p34.1, p34.2 + (w .i64 (p_b + x1) : Int).toNat * 2)) (vs := Qa.c x25) h trivial rfl rfl rfl rfl ?_
 intro H39 h
 exact Yj I3 () h
 replace h := h.2
 obtain ⟨x41, v42, h⟩ := h
 refine Zv (OV.loadT rfl rfl rfl v42) ?_
 obtain ⟨hle40, h⟩ := h
 refine GT.back hle40 (GT.eff 13 rfl (by kernel_rfl) rfl ?_)
 obtain ⟨x44, v45, h⟩ := h
 refine Zv (OV.loadT rfl rfl rfl v45) ?_
 obtain ⟨hle43, h⟩ := h
 refine GT.back hle43 ?_
 obtain ⟨p46, ha47, hb48, u49, hd50, h⟩ := h
 refine Zy 20 rfl (OV.indexAddr rfl rfl rfl rfl ha47 hb48 u49 hd50) (GT.eff 21 rfl (by kernel_rfl) rfl (GL.storeT (p := (p46.1, p46.2 + (w .i64 (p_a + x1) : Int).toNat * 2)) (vs := Qa.c x44) h trivial rfl rfl rfl rfl ?_))
 intro H52 h
 obtain ⟨hle51, h⟩ := h
 refine GT.back hle51 ?_
 obtain ⟨p53, ha54, hb55, u56, hd57, h⟩ := h
 refine Zy 22 rfl (OV.indexAddr rfl rfl rfl rfl ha54 hb55 u56 hd57) (GT.done (by kernel_rfl) ?_)
 show GL _ _ _ _ _ [_] _ _
 refine GL.storeT (p := (p53.1, p53.2 + (w .i64 (p_b + x1) : Int).toNat * 2)) (vs := Qa.c x41) h trivial rfl rfl rfl rfl ?_
 intro H58 h
 exact Yj I3 () h
 intro x6 H7 h
 replace h := hR8 x6 H7 h
 refine GL.nil_to (fun _ _ h => h) (GC.region (Zm (Zi (.int .i64 (w .i64 (x1 + 1))) (Za ?_))))
 exact Yj I3 (w .i64 (x1 + 1)) h
 exact GC.exit_ends (fun _ _ hf hs => QJ rfl hf hs ⟨rfl, h⟩)
def QdG (C : Ctx) (p_x : Int) (K : Bool → Heap → Prop) (H : Heap) : Prop :=
 K ((p_x : Int) != p_x) H
theorem Qgs (C p_x K H) (h : QdG C p_x K H) : Qbs C p_x K H := by
 refine Ye Tryz.func148 rfl Tryz.ntmps148 [(0, .int .u8 p_x)] (Zo (Za (GL.nil (Zo (Zm (Zm (Zi (.bool ((p_x : Int) != p_x)) (Za (GL.nil ?_)))))))))
 exact Y1 I3 ⟨((p_x : Int) != p_x), rfl, h⟩
def QcQ (C : Ctx) (p_s : Str) (p_prefix : Str) (K : Bool → Heap → Prop) (H : Heap) : Prop :=
 QH C p_s p_prefix (fun r1 H2 =>
 K r1 H2) H
theorem QfA (C p_s p_prefix K H) (h : QcQ C p_s p_prefix K H) : QaV C p_s p_prefix K H := by
 refine Ye Tryz.func149 rfl Tryz.ntmps149 [(0, sv p_s), (1, sv p_prefix)] (Zo (Za (GL.nil (Zo (Zm (Zm (Zc h QaD ?_)))))))
 rintro _ H2 ⟨r1, rfl, h⟩
 refine Za (GL.nil ?_)
 exact Y1 I3 ⟨r1, rfl, h⟩
def QdE (C : Ctx) (p_x : Int) (p_y : Int) (K : Int → Heap → Prop) (H : Heap) : Prop :=
 Qb6 C p_x (fun r1 H2 =>
 Qb6 C p_y (fun r3 H4 =>
 ift r1
 (ift r3
 (K 0 H4)
 (K (-1) H4))
 (ift r3
 (K 1 H4)
 (ift (decide ((p_x : Int) < p_y))
 (K (-1) H4)
 (ift (decide ((p_x : Int) > p_y))
 (K 1 H4)
 (K 0 H4))))) H2) H
theorem Qgq (C p_x p_y K H) (h : QdE C p_x p_y K H) : Qcm C p_x p_y K H := by
 refine Ye Tryz.func150 rfl Tryz.ntmps150 [(0, .int .i64 p_x), (1, .int .i64 p_y)] (Zo (Za (GL.nil (Zo (Zm (Zc h QeB ?_))))))
 rintro _ H2 ⟨r1, rfl, h⟩
 refine Za (GL.nil (Zo (Zm (Zc h QeB ?_))))
 rintro _ H4 ⟨r3, rfl, h⟩
 refine Za (GL.nil (GC.seq (Zo (Zm (GL.nil (Yd h (fun u5 h => ?_) fun u5 h => ?_))))))
 refine GC.seq (Zo (Zm (GL.nil (Yd h (fun u6 h => ?_) fun u6 h => ?_))))
 refine Zo (Za (GL.nil ?_))
 exact Y1 I3 ⟨0, rfl, h⟩
 refine GC.skip (Zo (Za (GL.nil ?_)))
 exact Y1 I3 ⟨(-1), rfl, h⟩
 refine GC.skip (GC.seq (Zo (Zm (GL.nil (Yd h (fun u7 h => ?_) fun u7 h => ?_)))))
 refine Zo (Za (GL.nil ?_))
 exact Y1 I3 ⟨1, rfl, h⟩
 refine GC.skip (GC.seq (Zo (Zm (Zm (Zi (.bool (decide ((p_x : Int) < p_y))) (GL.nil (Yd h (fun u8 h => ?_) fun u8 h => ?_)))))))
 refine Zo (Za (GL.nil ?_))
 exact Y1 I3 ⟨(-1), rfl, h⟩
 refine GC.skip (GC.seq (Zo (Zm (Zm (Zi (.bool (decide ((p_x : Int) > p_y))) (GL.nil (Yd h (fun u9 h => ?_) fun u9 h => ?_)))))))
 refine Zo (Za (GL.nil ?_))
 exact Y1 I3 ⟨1, rfl, h⟩
 refine GC.skip (Zo (Za (GL.nil ?_)))
 exact Y1 I3 ⟨0, rfl, h⟩
def Qdi (C : Ctx) (p_x : Str) (K : Bool → Heap → Prop) (H : Heap) : Prop :=
 K (!(p_x == p_x)) H
theorem Qf7 (C p_x K H) (h : Qdi C p_x K H) : Qba C p_x K H := by
 refine Ye Tryz.func151 rfl Tryz.ntmps151 [(0, sv p_x)] (Zo (Za (GL.nil (Zo (Zm (Zm (Zv (OV.sbin (a := p_x) (b := p_x) (v := .bool (!(p_x == p_x))) rfl rfl rfl) (Za (GL.nil ?_)))))))))
 exact Y1 I3 ⟨(!(p_x == p_x)), rfl, h⟩
def QdF (C : Ctx) (p_x : Int) (K : Bool → Heap → Prop) (H : Heap) : Prop :=
 K ((p_x : Int) != p_x) H
theorem Qgr (C p_x K H) (h : QdF C p_x K H) : Qbr C p_x K H := by
 refine Ye Tryz.func152 rfl Tryz.ntmps152 [(0, .int .i64 p_x)] (Zo (Za (GL.nil (Zo (Zm (Zm (Zi (.bool ((p_x : Int) != p_x)) (Za (GL.nil ?_)))))))))
 exact Y1 I3 ⟨((p_x : Int) != p_x), rfl, h⟩
def Qfh (C : Ctx) (p_s : Str) (K : Bool → Heap → Prop) (H : Heap) : Prop :=
 jn (α := Str) (fun x2 H3 =>
 jn (α := Bool) (fun b24 H36 =>
 ift b24
 (K false H36)
 (lp (α := Int) 0 H36 (fun x38 J39 H40 =>
 ift (decide ((x38 : Int) < (List.length x2 : Int)))
 (ixs x2 x38 fun c42 =>
 jn (α := Bool) (fun b45 H52 =>
 ift b45
 (K false H52)
 (J39 (w .i64 (x38 + 1)) H52))
 (fun J46 => ift (decide (((c42.toNat : Int) : Int) < 48))
 (J46 true H40)
 (ixs x2 x38 fun c49 =>
 J46 (decide (((c49.toNat : Int) : Int) > 57)) H40)))
 (K true H40))))
 (fun J25 => ift (x2 == ([] : Str))
 (J25 true H3)
 (jn (α := Bool) (fun b28 H35 =>
 J25 b28 H35)
 (fun J29 => ift (decide (((List.length x2 : Int) : Int) > 1))
 (ixs x2 0 fun c32 =>
 J29 (((c32.toNat : Int) : Int) == 48) H3)
 (J29 false H3)))))
 (fun J1 => jn (α := Bool) (fun b5 H12 =>
 ift b5
 (slS p_s 1 (List.length p_s : Int) fun t14 =>
 ixs t14 0 fun c20 =>
 ift (((c20.toNat : Int) : Int) == 48)
 (K false H12)
 (J1 t14 H12))
 (J1 p_s H12))
 (fun J6 => ift (decide (((List.length p_s : Int) : Int) > 1))
 (ixs p_s 0 fun c9 =>
 J6 (((c9.toNat : Int) : Int) == 45) H)
 (J6 false H)))
theorem Qim (C p_s K H) (h : Qfh C p_s K H) : QdN C p_s K H := by
 refine Ye Tryz.func158 rfl Tryz.ntmps158 [(0, sv p_s)] (Zo (Za (GL.nil ?_)))
 obtain ⟨J1, h, hR4⟩ := h
 refine GC.join (α := Str) J1 (fun x2 => [(0, sv x2)]) ?_ ?_
 refine Zo (Zm (Zr (Zi (.bool (decide (((List.length p_s : Int) : Int) > 1))) (Zm ?_))))
 obtain ⟨J6, h, hR7⟩ := h
 refine GL.cut (α := Bool) 4 J6 (fun b5 => [(11, .bool b5), (0, sv p_s)]) ?_ ?_
 rcases h.em with ⟨u8, h⟩ | ⟨u8, h⟩
 refine Zu u8 Ym ?_
 obtain ⟨c9, ha10, hb11, h⟩ := h
 refine Zu u8 (OV.indexStr rfl rfl rfl ha10 hb11) (Zu u8 (OV.ibin (v := .bool (((c9.toNat : Int) : Int) == 45)) rfl rfl rfl) (Zt u8 ?_))
 exact Yj I3 (((c9.toNat : Int) : Int) == 45) h
 refine Zk u8 (Zk u8 (Zk u8 (Zn u8 ?_)))
 exact Yj I3 false h
 intro b5 H12 h
 replace h := hR7 b5 H12 h
 refine GL.nil (Yd h (fun u13 h => ?_) fun u13 h => ?_)
 refine Zo (Zm ?_)
 obtain ⟨h15, h16, h17, t14, h18, h⟩ := h
 refine Zv (OV.sliceStr (s := p_s) h15 h16 h17 h18 rfl rfl rfl rfl rfl rfl) (Za (GL.nil (Zo (Zm (Ys h fun c20 h => ?_)))))
 refine Zi (.bool (((c20.toNat : Int) : Int) == 48)) (GL.nil (Yd h (fun u23 h => ?_) fun u23 h => ?_))
 refine Zo (Za (GL.nil ?_))
 exact Y1 I3 ⟨false, rfl, h⟩
 exact Yk I3 t14 h
 exact Yk I3 p_s h
 intro x2 H3 h
 replace h := hR4 x2 H3 h
 refine GC.seq (Zo (Zm (Zv (OV.sbin (a := x2) (b := ([] : Str)) (v := .bool (x2 == ([] : Str))) rfl rfl rfl) (Zm ?_))))
 obtain ⟨J25, h, hR26⟩ := h
 refine GL.cut (α := Bool) 9 J25 (fun b24 => [(28, .bool b24), (0, sv x2)]) ?_ ?_
 rcases h.em with ⟨u27, h⟩ | ⟨u27, h⟩
 refine Zk u27 (Zk u27 (Zk u27 (Zk u27 (GL.skip ⟨_, rfl, .inr rfl⟩ rfl (GL.skip ⟨_, rfl, .inr rfl⟩ rfl (GL.skip ⟨_, rfl, .inr rfl⟩ rfl (Zk u27 (Zt u27 ?_))))))))
 exact Yj I3 true h
 refine Zu u27 Ym (Zu u27 (OV.lenStr rfl rfl) (Zu u27 (OV.ibin (v := .bool (decide (((List.length x2 : Int) : Int) > 1))) rfl rfl rfl) (Zu u27 Ym ?_)))
 obtain ⟨J29, h, hR30⟩ := h
 refine GL.cut (α := Bool) 4 J29 (fun b28 => [(27, .bool b28), (0, sv x2), (19, .bool (x2 == ([] : Str)))]) ?_ ?_
 rcases h.em with ⟨u31, h⟩ | ⟨u31, h⟩
 refine Zu u31 Ym ?_
 obtain ⟨c32, ha33, hb34, h⟩ := h
 refine Zu u31 (OV.indexStr rfl rfl rfl ha33 hb34) (Zu u31 (OV.ibin (v := .bool (((c32.toNat : Int) : Int) == 48)) rfl rfl rfl) (Zu u27 (OV.pickT rfl u31 rfl) ?_))
 exact Yj I3 (((c32.toNat : Int) : Int) == 48) h
 refine Zk u31 (Zk u31 (Zk u31 (Zu u27 (OV.pickF rfl u31 rfl) ?_)))
 exact Yj I3 false h
 intro b28 H35 h
 replace h := hR30 b28 H35 h
 refine Zn u27 ?_
 exact Yj I3 b28 h
 intro b24 H36 h
 replace h := hR26 b24 H36 h
 refine GL.nil (Yd h (fun u37 h => ?_) fun u37 h => ?_)
 refine Zo (Za (GL.nil ?_))
 exact Y1 I3 ⟨false, rfl, h⟩
 refine GC.skip (GC.seq (Zo (Za (GL.nil (GC.block (Yp h (fun x38 => [(3, .int .i64 x38), (0, sv x2)]) ?_))))))
 intro x38 H40 J39 h
 refine GC.seq (Zo (Zm (Zm (Zr (Zi (.bool (decide ((x38 : Int) < (List.length x2 : Int)))) (GL.nil (Yd h (fun u41 h => ?_) fun u41 h => ?_)))))))
 refine GC.skip (GC.seq (GC.block (Zo (Zm (Zm (Ys h fun c42 h => ?_))))))
 refine Zi (.bool (decide (((c42.toNat : Int) : Int) < 48))) (Zm ?_)
 obtain ⟨J46, h, hR47⟩ := h
 refine GL.cut (α := Bool) 5 J46 (fun b45 => [(44, .bool b45), (0, sv x2), (3, .int .i64 x38)]) ?_ ?_
 rcases h.em with ⟨u48, h⟩ | ⟨u48, h⟩
 refine Zk u48 (Zk u48 (Zk u48 (Zk u48 (Zt u48 ?_))))
 exact Yj I3 true h
 refine Zu u48 Ym (Zu u48 Ym ?_)
 obtain ⟨c49, ha50, hb51, h⟩ := h
 refine Zu u48 (OV.indexStr rfl rfl rfl ha50 hb51) (Zu u48 (OV.ibin (v := .bool (decide (((c49.toNat : Int) : Int) > 57))) rfl rfl rfl) (Zn u48 ?_))
 exact Yj I3 (decide (((c49.toNat : Int) : Int) > 57)) h
 intro b45 H52 h
 replace h := hR47 b45 H52 h
 refine GL.nil (Yd h (fun u53 h => ?_) fun u53 h => ?_)
 refine Zo (Za (GL.nil ?_))
 exact Y1 I3 ⟨false, rfl, h⟩
 refine GC.skip_to (fun _ _ h => h) (GC.region (Zm (Zi (.int .i64 (w .i64 (x38 + 1))) (Za ?_))))
 exact Yj I3 (w .i64 (x38 + 1)) h
 refine GC.exit_to (fun _ _ h => h) (Zo (Za (GL.nil ?_)))
 exact Y1 I3 ⟨true, rfl, h⟩
def QfT (C : Ctx) (p_s : Str) (K : Bool → Heap → Prop) (H : Heap) : Prop :=
 ift ((p_s == ([116, 114, 117, 101] : Str)) || (p_s == ([102, 97, 108, 115, 101] : Str)))
 (K false H)
 (lp (α := Int) 0 H (fun x3 J4 H5 =>
 ift (decide ((x3 : Int) < (List.length p_s : Int)))
 (ixs p_s x3 fun c7 =>
 ift (((c7.toNat : Int) : Int) == 46)
 (slS p_s 0 x3 fun t11 =>
 Qcy C t11 (fun r17 H18 =>
 jn (α := Bool) (fun b19 H31 =>
 K b19 H31)
 (fun J20 => ift r17
 (slS p_s (w .i64 (x3 + 1)) (List.length p_s : Int) fun t23 =>
 Qcy C t23 (fun r29 H30 =>
 J20 r29 H30) H18)
 (J20 false H18))) H5)
 (J4 (w .i64 (x3 + 1)) H5))
 (Qcy C p_s (fun r32 H33 =>
 K r32 H33) H5)))
theorem Qjd (C p_s K H) (h : QfT C p_s K H) : Qee C p_s K H := by
 refine Ye Tryz.func159 rfl Tryz.ntmps159 [(0, sv p_s)] (Zo (Za (GL.nil (GC.seq (Zo (Zm (Zv (OV.sbin (a := p_s) (b := ([116, 114, 117, 101] : Str)) (v := .bool (p_s == ([116, 114, 117, 101] : Str))) rfl rfl rfl) (Zm (GL.cut0 3 [(9, .bool ((p_s == ([116, 114, 117, 101] : Str)) || (p_s == ([102, 97, 108, 115, 101] : Str)))), (0, sv p_s)] ?_ ?_)))))))))
 rcases Zb (p_s == ([116, 114, 117, 101] : Str)) with u1 | u1
 refine Zk u1 (Zk u1 (Zt u1 ?_))
 exact GL.jump0 (fun _ _ h => h) () rfl ⟨(by rw [u1]; rfl), rfl, trivial⟩
 refine Zu u1 Ym (Zu u1 (OV.sbin (a := p_s) (b := ([102, 97, 108, 115, 101] : Str)) (v := .bool (p_s == ([102, 97, 108, 115, 101] : Str))) rfl rfl rfl) (Zn u1 ?_))
 exact GL.jump0 (fun _ _ h => h) () rfl ⟨(by rw [u1]; rfl), rfl, trivial⟩
 refine GL.nil (Yd h (fun u2 h => ?_) fun u2 h => ?_)
 refine Zo (Za (GL.nil ?_))
 exact Y1 I3 ⟨false, rfl, h⟩
 refine GC.skip (GC.seq (Zo (Za (GL.nil (GC.block (Yp h (fun x3 => [(3, .int .i64 x3), (0, sv p_s)]) ?_))))))
 intro x3 H5 J4 h
 refine GC.seq (Zo (Zm (Zm (Zr (Zi (.bool (decide ((x3 : Int) < (List.length p_s : Int)))) (GL.nil (Yd h (fun u6 h => ?_) fun u6 h => ?_)))))))
 refine GC.skip (GC.seq (GC.block (Zo (Zm (Zm (Ys h fun c7 h => ?_))))))
 refine Zi (.bool (((c7.toNat : Int) : Int) == 46)) (GL.nil (Yd h (fun u10 h => ?_) fun u10 h => ?_))
 refine Zo (Zm (Zm ?_))
 obtain ⟨h12, h13, h14, t11, h15, h⟩ := h
 refine Zv (OV.sliceStr (s := p_s) h12 h13 h14 h15 rfl rfl rfl rfl rfl rfl) (Zc h Qer ?_)
 rintro _ H18 ⟨r17, rfl, h⟩
 refine Zm ?_
 obtain ⟨J20, h, hR21⟩ := h
 refine GL.cut (α := Bool) 6 J20 (fun b19 => [(30, .bool b19)]) ?_ ?_
 rcases h.em with ⟨u22, h⟩ | ⟨u22, h⟩
 refine Zu u22 Ym (Zu u22 Ym (Zu u22 (OV.ibin (v := .int .i64 (w .i64 (x3 + 1))) rfl rfl rfl) ?_))
 obtain ⟨h24, h25, h26, t23, h27, h⟩ := h
 refine Zu u22 (OV.sliceStr (s := p_s) h24 h25 h26 h27 rfl rfl rfl rfl rfl rfl) (GL.call h (Yt u22) rfl Qer (vs := [sv t23]) rfl ?_)
 rintro _ H30 ⟨r29, rfl, h⟩
 refine Zt u22 ?_
 exact Yj I3 r29 h
 refine Zk u22 (Zk u22 (Zk u22 (Zk u22 (Zk u22 (Zn u22 ?_)))))
 exact Yj I3 false h
 intro b19 H31 h
 replace h := hR21 b19 H31 h
 refine Za (GL.nil ?_)
 exact Y1 I3 ⟨b19, rfl, h⟩
 refine GC.skip_to (fun _ _ h => h) (GC.region (Zm (Zi (.int .i64 (w .i64 (x3 + 1))) (Za ?_))))
 exact Yj I3 (w .i64 (x3 + 1)) h
 refine GC.exit_to (fun _ _ h => h) (Zo (Zm (Zc h Qer ?_)))
 rintro _ H33 ⟨r32, rfl, h⟩
 refine Za (GL.nil ?_)
 exact Y1 I3 ⟨r32, rfl, h⟩
def Qfg (C : Ctx) (p_s : Str) (K : Int → Heap → Prop) (H : Heap) : Prop :=
 ixs p_s 0 fun c1 =>
 ift (((c1.toNat : Int) : Int) == 45)
 (K (w .i64 ((List.length p_s : Int) - 1)) H)
 (K (List.length p_s : Int) H)
theorem Qil (C p_s K H) (h : Qfg C p_s K H) : QdM C p_s K H := by
 refine Ye Tryz.func160 rfl Tryz.ntmps160 [(0, sv p_s)] (Zo (Za (GL.nil (GC.seq (Zo (Zm (Ys h fun c1 h => ?_)))))))
 refine Zi (.bool (((c1.toNat : Int) : Int) == 45)) (GL.nil (Yd h (fun u4 h => ?_) fun u4 h => ?_))
 refine Zo (Zm (Zr (Zi (.int .i64 (w .i64 ((List.length p_s : Int) - 1))) (Za (GL.nil ?_)))))
 exact Y1 I3 ⟨(w .i64 ((List.length p_s : Int) - 1)), rfl, h⟩
 refine GC.skip (Zo (Zm (Zr (Za (GL.nil ?_)))))
 exact Y1 I3 ⟨(List.length p_s : Int), rfl, h⟩
def QeJ (C : Ctx) (p_x : Int) (K : Bool → Heap → Prop) (H : Heap) : Prop :=
 K ((p_x : Int) != p_x) H
theorem Qh0 (C p_x K H) (h : QeJ C p_x K H) : Qb6 C p_x K H := by
 refine Ye Tryz.func166 rfl Tryz.ntmps166 [(0, .int .i64 p_x)] (Zo (Za (GL.nil (Zo (Zm (Zm (Zi (.bool ((p_x : Int) != p_x)) (Za (GL.nil ?_)))))))))
 exact Y1 I3 ⟨((p_x : Int) != p_x), rfl, h⟩
def Qg6 (C : Ctx) (p_s : Str) (K : Bool → Heap → Prop) (H : Heap) : Prop :=
 jn (α := Bool) (fun b2 H11 =>
 ift b2
 (K false H11)
 (lp (α := Int) 0 H11 (fun x13 J14 H15 =>
 ift (decide ((x13 : Int) < (List.length p_s : Int)))
 (ixs p_s x13 fun c17 =>
 Qcq C (c17.toNat : Int) (fun r20 H21 =>
 ift ((((!r20) && (!((decide (((c17.toNat : Int) : Int) ≥ 65)) && (decide (((c17.toNat : Int) : Int) ≤ 90))))) && (!((decide (((c17.toNat : Int) : Int) ≥ 48)) && (decide (((c17.toNat : Int) : Int) ≤ 57))))) && (((c17.toNat : Int) : Int) != 95))
 (K false H21)
 (J14 (w .i64 (x13 + 1)) H21)) H15)
 (K true H15))))
 (fun J3 => ift ((p_s == ([] : Str)) || (decide (((List.length p_s : Int) : Int) > 32)))
 (J3 true H)
 (ixs p_s 0 fun c6 =>
 Qcq C (c6.toNat : Int) (fun r9 H10 =>
 J3 (!r9) H10) H))
theorem Qj5 (C p_s K H) (h : Qg6 C p_s K H) : Qcy C p_s K H := by
 refine Ye Tryz.func169 rfl Tryz.ntmps169 [(0, sv p_s)] (Zo (Za (GL.nil (GC.seq (Zo (Zm (Zv (OV.sbin (a := p_s) (b := ([] : Str)) (v := .bool (p_s == ([] : Str))) rfl rfl rfl) (Zm (GL.cut0 4 [(11, .bool ((p_s == ([] : Str)) || (decide (((List.length p_s : Int) : Int) > 32)))), (0, sv p_s)] ?_ ?_)))))))))
 rcases Zb (p_s == ([] : Str)) with hc1 | hc1
 refine Zk hc1 (Zk hc1 (Zk hc1 (Zt hc1 ?_)))
 exact GL.jump0 (fun _ _ h => h) () rfl ⟨(by rw [hc1]; rfl), rfl, trivial⟩
 refine Zu hc1 Ym (Zu hc1 (OV.lenStr rfl rfl) (Zu hc1 (OV.ibin (v := .bool (decide (((List.length p_s : Int) : Int) > 32))) rfl rfl rfl) (Zn hc1 ?_)))
 exact GL.jump0 (fun _ _ h => h) () rfl ⟨(by rw [hc1]; rfl), rfl, trivial⟩
 refine Zm ?_
 obtain ⟨J3, h, hR4⟩ := h
 refine GL.cut (α := Bool) 5 J3 (fun b2 => [(17, .bool b2), (0, sv p_s)]) ?_ ?_
 rcases h.em with ⟨hc5, h⟩ | ⟨hc5, h⟩
 refine Zk hc5 (Zk hc5 (Zk hc5 (Zk hc5 (Zt hc5 ?_))))
 exact Yj I3 true h
 refine Zu hc5 Ym ?_
 obtain ⟨c6, ha7, hb8, h⟩ := h
 refine Zu hc5 (OV.indexStr rfl rfl rfl ha7 hb8) (GL.call h (Yt hc5) rfl Qe9 (vs := [.int .u8 (c6.toNat : Int)]) rfl ?_)
 rintro _ H10 ⟨r9, rfl, h⟩
 refine Zu hc5 (OV.not rfl) (Zn hc5 ?_)
 exact Yj I3 (!r9) h
 intro b2 H11 h
 replace h := hR4 b2 H11 h
 refine GL.nil (Yd h (fun hc12 h => ?_) fun hc12 h => ?_)
 refine Zo (Za (GL.nil ?_))
 exact Y1 I3 ⟨false, rfl, h⟩
 refine GC.skip (GC.seq (Zo (Za (GL.nil (GC.block (Yp h (fun x13 => [(3, .int .i64 x13), (0, sv p_s)]) ?_))))))
 intro x13 H15 J14 h
 refine GC.seq (Zo (Zm (Zm (Zr (Zi (.bool (decide ((x13 : Int) < (List.length p_s : Int)))) (GL.nil (Yd h (fun hc16 h => ?_) fun hc16 h => ?_)))))))
 refine GC.skip (GC.seq (GC.block (Zo (Zm (Zm (Ys h fun c17 h => ?_))))))
 refine Za (GL.nil (Zo (Zm (Zc h Qe9 ?_))))
 rintro _ H21 ⟨r20, rfl, h⟩
 refine Zv (OV.not rfl) (Zm (GL.cut0 8 [(38, .bool ((!r20) && (!((decide (((c17.toNat : Int) : Int) ≥ 65)) && (decide (((c17.toNat : Int) : Int) ≤ 90)))))), (0, sv p_s), (3, .int .i64 x13), (4, .int .u8 (c17.toNat : Int))] ?_ ?_))
 rcases Zb (!r20) with hc22 | hc22
 refine Zu hc22 Ym (Zu hc22 (OV.ibin (v := .bool (decide (((c17.toNat : Int) : Int) ≥ 65))) rfl rfl rfl) (Zu hc22 Ym (GL.cut0 3 [(36, .bool ((decide (((c17.toNat : Int) : Int) ≥ 65)) && (decide (((c17.toNat : Int) : Int) ≤ 90)))), (0, sv p_s), (3, .int .i64 x13), (4, .int .u8 (c17.toNat : Int)), (30, .bool (!r20))] ?_ ?_)))
 rcases Zb (decide (((c17.toNat : Int) : Int) ≥ 65)) with hc23 | hc23
 refine Zu hc23 Ym (Zu hc23 (OV.ibin (v := .bool (decide (((c17.toNat : Int) : Int) ≤ 90))) rfl rfl rfl) (Zu hc22 (OV.pickT rfl hc23 rfl) ?_))
 exact GL.jump0 (fun _ _ h => h) () rfl ⟨(by rw [hc23]; rfl), rfl, rfl, rfl, rfl, trivial⟩
 refine Zk hc23 (Zk hc23 (Zu hc22 (OV.pickF rfl hc23 rfl) ?_))
 exact GL.jump0 (fun _ _ h => h) () rfl ⟨(by rw [hc23]; rfl), rfl, rfl, rfl, rfl, trivial⟩
 refine Zu hc22 (OV.not rfl) (Zt hc22 ?_)
 exact GL.jump0 (fun _ _ h => h) () rfl ⟨(by rw [hc22]; rfl), rfl, rfl, rfl, trivial⟩
 refine Zk hc22 (Zk hc22 (Zk hc22 (GL.skip ⟨_, rfl, .inr rfl⟩ rfl (GL.skip ⟨_, rfl, .inr rfl⟩ rfl (Zk hc22 (Zk hc22 (Zn hc22 ?_)))))))
 exact GL.jump0 (fun _ _ h => h) () rfl ⟨(by rw [hc22]; rfl), rfl, rfl, rfl, trivial⟩
 refine Zm (GL.cut0 8 [(47, .bool (((!r20) && (!((decide (((c17.toNat : Int) : Int) ≥ 65)) && (decide (((c17.toNat : Int) : Int) ≤ 90))))) && (!((decide (((c17.toNat : Int) : Int) ≥ 48)) && (decide (((c17.toNat : Int) : Int) ≤ 57)))))), (0, sv p_s), (3, .int .i64 x13), (4, .int .u8 (c17.toNat : Int))] ?_ ?_)
 rcases Zb ((!r20) && (!((decide (((c17.toNat : Int) : Int) ≥ 65)) && (decide (((c17.toNat : Int) : Int) ≤ 90))))) with hc24 | hc24
 refine Zu hc24 Ym (Zu hc24 (OV.ibin (v := .bool (decide (((c17.toNat : Int) : Int) ≥ 48))) rfl rfl rfl) (Zu hc24 Ym (GL.cut0 3 [(45, .bool ((decide (((c17.toNat : Int) : Int) ≥ 48)) && (decide (((c17.toNat : Int) : Int) ≤ 57)))), (0, sv p_s), (3, .int .i64 x13), (4, .int .u8 (c17.toNat : Int)), (39, .bool ((!r20) && (!((decide (((c17.toNat : Int) : Int) ≥ 65)) && (decide (((c17.toNat : Int) : Int) ≤ 90))))))] ?_ ?_)))
 rcases Zb (decide (((c17.toNat : Int) : Int) ≥ 48)) with hc25 | hc25
 refine Zu hc25 Ym (Zu hc25 (OV.ibin (v := .bool (decide (((c17.toNat : Int) : Int) ≤ 57))) rfl rfl rfl) (Zu hc24 (OV.pickT rfl hc25 rfl) ?_))
 exact GL.jump0 (fun _ _ h => h) () rfl ⟨(by rw [hc25]; rfl), rfl, rfl, rfl, rfl, trivial⟩
 refine Zk hc25 (Zk hc25 (Zu hc24 (OV.pickF rfl hc25 rfl) ?_))
 exact GL.jump0 (fun _ _ h => h) () rfl ⟨(by rw [hc25]; rfl), rfl, rfl, rfl, rfl, trivial⟩
 refine Zu hc24 (OV.not rfl) (Zt hc24 ?_)
 exact GL.jump0 (fun _ _ h => h) () rfl ⟨(by rw [hc24]; rfl), rfl, rfl, rfl, trivial⟩
 refine Zk hc24 (Zk hc24 (Zk hc24 (GL.skip ⟨_, rfl, .inr rfl⟩ rfl (GL.skip ⟨_, rfl, .inr rfl⟩ rfl (Zk hc24 (Zk hc24 (Zn hc24 ?_)))))))
 exact GL.jump0 (fun _ _ h => h) () rfl ⟨(by rw [hc24]; rfl), rfl, rfl, rfl, trivial⟩
 refine Zm (GL.cut0 3 [(51, .bool ((((!r20) && (!((decide (((c17.toNat : Int) : Int) ≥ 65)) && (decide (((c17.toNat : Int) : Int) ≤ 90))))) && (!((decide (((c17.toNat : Int) : Int) ≥ 48)) && (decide (((c17.toNat : Int) : Int) ≤ 57))))) && (((c17.toNat : Int) : Int) != 95))), (0, sv p_s), (3, .int .i64 x13)] ?_ ?_)
 rcases Zb (((!r20) && (!((decide (((c17.toNat : Int) : Int) ≥ 65)) && (decide (((c17.toNat : Int) : Int) ≤ 90))))) && (!((decide (((c17.toNat : Int) : Int) ≥ 48)) && (decide (((c17.toNat : Int) : Int) ≤ 57))))) with hc26 | hc26
 refine Zu hc26 Ym (Zu hc26 (OV.ibin (v := .bool (((c17.toNat : Int) : Int) != 95)) rfl rfl rfl) (Zt hc26 ?_))
 exact GL.jump0 (fun _ _ h => h) () rfl ⟨(by rw [hc26]; rfl), rfl, rfl, trivial⟩
 refine Zk hc26 (Zk hc26 (Zn hc26 ?_))
 exact GL.jump0 (fun _ _ h => h) () rfl ⟨(by rw [hc26]; rfl), rfl, rfl, trivial⟩
 refine GL.nil (Yd h (fun hc27 h => ?_) fun hc27 h => ?_)
 refine Zo (Za (GL.nil ?_))
 exact Y1 I3 ⟨false, rfl, h⟩
 refine GC.skip_to (fun _ _ h => h) (GC.region (Zm (Zi (.int .i64 (w .i64 (x13 + 1))) (Za ?_))))
 exact Yj I3 (w .i64 (x13 + 1)) h
 refine GC.exit_to (fun _ _ h => h) (Zo (Za (GL.nil ?_)))
 exact Y1 I3 ⟨true, rfl, h⟩
def Qfi (C : Ctx) (p_c : Int) (K : Bool → Heap → Prop) (H : Heap) : Prop :=
 K ((decide ((p_c : Int) ≥ 97)) && (decide ((p_c : Int) ≤ 122))) H
theorem Qin (C p_c K H) (h : Qfi C p_c K H) : Qcq C p_c K H := by
 refine Ye Tryz.func172 rfl Tryz.ntmps172 [(0, .int .u8 p_c)] (Zo (Za (GL.nil (Zo (Zm (Zi (.bool (decide ((p_c : Int) ≥ 97))) (Zm (GL.cut0 3 [(8, .bool ((decide ((p_c : Int) ≥ 97)) && (decide ((p_c : Int) ≤ 122))))] ?_ ?_))))))))
 rcases Zb (decide ((p_c : Int) ≥ 97)) with hc1 | hc1
 refine Zu hc1 Ym (Zu hc1 (OV.ibin (v := .bool (decide ((p_c : Int) ≤ 122))) rfl rfl rfl) (Zt hc1 ?_))
 exact GL.jump0 (fun _ _ h => h) () rfl ⟨(by rw [hc1]; rfl), trivial⟩
 refine Zk hc1 (Zk hc1 (Zn hc1 ?_))
 exact GL.jump0 (fun _ _ h => h) () rfl ⟨(by rw [hc1]; rfl), trivial⟩
 refine Za (GL.nil ?_)
 exact Y1 I3 ⟨((decide ((p_c : Int) ≥ 97)) && (decide ((p_c : Int) ≤ 122))), rfl, h⟩
end
end Sx
end
noncomputable section
set_option linter.unusedVariables false
namespace Go.Proofs
open Go.Shelf
def Tryz.lays173_ren : Go.Shelf.Ren := ⟨fun | 173 => 92 | 246 => 109 | 283 => 129 | 284 => 130 | 285 => 131 | 286 => 132 | 129 => 154 | 317 => 153 | 318 => 155 | 319 => 156 | 320 => 157 | 337 => 167 | 338 => 168 | n => n, fun | 2 => 2 | 3 => 3 | 9 => 9 | 4 => 4 | 171 => 162 | 0 => 0 | 53 => 163 | 37 => 126 | 5 => 5 | 173 => 166 | 212 => 178 | 51 => 179 | 20 => 20 | 213 => 180 | 46 => 146 | 232 => 192 | 233 => 193 | n => n, fun | 17 => 1 | 18 => 4 | 19 => 5 | n => n⟩
theorem Tryz.lays173 : Go.Proofs.LaysM.n173 Tryz.prog Tryz.lays173_ren := {
 mixed := by kernel_rfl
 f129 := Tryz.func154.trans (congrArg some (by kernel_rfl))
 f173 := Tryz.func92.trans (congrArg some (by kernel_rfl))
 f246 := Tryz.func109.trans (congrArg some (by kernel_rfl))
 f283 := Tryz.func129.trans (congrArg some (by kernel_rfl))
 f284 := Tryz.func130.trans (congrArg some (by kernel_rfl))
 f285 := Tryz.func131.trans (congrArg some (by kernel_rfl))
 f286 := Tryz.func132.trans (congrArg some (by kernel_rfl))
 f317 := Tryz.func153.trans (congrArg some (by kernel_rfl))
 f318 := Tryz.func155.trans (congrArg some (by kernel_rfl))
 f319 := Tryz.func156.trans (congrArg some (by kernel_rfl))
 f320 := Tryz.func157.trans (congrArg some (by kernel_rfl))
 f337 := Tryz.func167.trans (congrArg some (by kernel_rfl))
 f338 := Tryz.func168.trans (congrArg some (by kernel_rfl))
 t0 := Tryz.underlying0
 a0 := Tryz.isAgg0
 z0 := Tryz.sizeOf0
 v0 := Tryz.zeroValue0
 t2 := Tryz.underlying2
 a2 := Tryz.isAgg2
 z2 := Tryz.sizeOf2
 v2 := Tryz.zeroValue2
 t3 := Tryz.underlying3
 a3 := Tryz.isAgg3
 z3 := Tryz.sizeOf3
 v3 := Tryz.zeroValue3
 t4 := Tryz.underlying4
 a4 := Tryz.isAgg4
 z4 := Tryz.sizeOf4
 v4 := Tryz.zeroValue4
 t5 := Tryz.underlying5
 a5 := Tryz.isAgg5
 z5 := Tryz.sizeOf5
 v5 := Tryz.zeroValue5
 t9 := Tryz.underlying9
 a9 := Tryz.isAgg9
 z9 := Tryz.sizeOf9
 v9 := Tryz.zeroValue9
 t20 := Tryz.underlying20
 a20 := Tryz.isAgg20
 z20 := Tryz.sizeOf20
 v20 := Tryz.zeroValue20
 t37 := Tryz.underlying126
 a37 := Tryz.isAgg126
 z37 := Tryz.sizeOf126
 v37 := Tryz.zeroValue126
 t46 := Tryz.underlying146
 a46 := Tryz.isAgg146
 z46 := Tryz.sizeOf146
 v46 := Tryz.zeroValue146
 t51 := Tryz.underlying179
 a51 := Tryz.isAgg179
 z51 := Tryz.sizeOf179
 v51 := Tryz.zeroValue179
 t53 := Tryz.underlying163
 a53 := Tryz.isAgg163
 z53 := Tryz.sizeOf163
 v53 := Tryz.zeroValue163
 t171 := Tryz.underlying162
 a171 := Tryz.isAgg162
 z171 := Tryz.sizeOf162
 v171 := Tryz.zeroValue162
 t173 := Tryz.underlying166
 a173 := Tryz.isAgg166
 z173 := Tryz.sizeOf166
 v173 := Tryz.zeroValue166
 t212 := Tryz.underlying178
 a212 := Tryz.isAgg178
 z212 := Tryz.sizeOf178
 v212 := Tryz.zeroValue178
 t213 := Tryz.underlying180
 a213 := Tryz.isAgg180
 z213 := Tryz.sizeOf180
 t232 := Tryz.underlying192
 a232 := Tryz.isAgg192
 z232 := Tryz.sizeOf192
 v232 := Tryz.zeroValue192
 t233 := Tryz.underlying193
 a233 := Tryz.isAgg193
 z233 := Tryz.sizeOf193
 v233 := Tryz.zeroValue193
 g17 := by kernel_rfl
 g18 := by kernel_rfl
 g19 := by kernel_rfl
 i0 := by kernel_rfl
 i2 := by kernel_rfl
 i3 := by kernel_rfl
 i4 := by kernel_rfl
 i5 := by kernel_rfl
 i9 := by kernel_rfl
 i20 := by kernel_rfl
 i37 := by kernel_rfl
 i46 := by kernel_rfl
 i51 := by kernel_rfl
 i53 := by kernel_rfl
 i171 := by kernel_rfl
 i173 := by kernel_rfl
 i212 := by kernel_rfl
 i232 := by kernel_rfl
 i233 := by kernel_rfl
 m17 := by kernel_rfl
 m18 := by kernel_rfl
 m19 := by kernel_rfl }
end Go.Proofs
namespace Sx
open Go Go.Proofs Go.Stop Go.RowKit
/-- the table of powers, as it was laid -/
def PowT (C : Ctx) : Prop := ∃ t fr, C.old[(Tryz.lays173_ren.g 17)]? = some (.cells (Lib.pow10Tab.map fun z => Value.int .u64 z).toArray t fr)
/-- what writes numbers -/
structure FmtC (C : Ctx) : Prop where
 ok : ∀ {n : Int} {H : Heap} {K : Str → Heap → Prop}, -9223372036854775808 ≤ n → n ≤ 9223372036854775807 → K (Lib.itoa n) H → Qc5 C n 10 K H
theorem St.more {C : Ctx} {w : World} {H : Heap} (h : St C w H) (o : Obj) : St C { w with heap := w.heap.push o } H := by
 by_cases hc : ∃ c t fr, o = .cells c t fr
 ·obtain ⟨c, t, fr, rfl⟩ := hc
  exact (h.push (o := .cells c t fr) (m := false) (g := .row c.toList) ⟨by simp, fun h => by cases h⟩).weaken (Heap.le_put h.fresh)
 ·exact (h.push (o := o) (m := false) (g := .obj o) ⟨rfl, fun c t fr e => hc ⟨c, t, fr, e⟩⟩).weaken (Heap.le_put h.fresh)
theorem St.growL {C : Ctx} {H : Heap} : ∀ (os : List Obj) {w : World}, St C w H → St C { w with heap := w.heap ++ os.toArray } H
 | [], w, h => by
  have e : w.heap ++ ([] : List Obj).toArray = w.heap := by simp
  rw [e]; exact h
 | o :: os, w, h => by
  have e : w.heap ++ (o :: os).toArray = w.heap.push o ++ os.toArray := by apply Array.ext'; simp
  have := St.growL os (h.more o)
  rw [e]; exact this
theorem St.drewN {C : Ctx} {H : Heap} {w : World} (h : St C w H) : ∀ k, St C (w.drewN k) H
 | 0 => h
 | k + 1 => (St.drewN h k).drew
theorem Qqe {C : Ctx} (hT : PowT C) : FmtC C := ⟨fun {n H K} h0 h1 k => by
 intro w hw
 obtain ⟨t, fr, hg⟩ := hT
 have hlt := (Array.getElem?_eq_some_iff.1 hg).1
 refine (Any.strconv_FormatInt_10 Tryz.lays173 n h0 h1 w ?_).mono ?_
 ·unfold Lib.TabIs World.var?
  rw [Tryz.lays173.m17]
  simp only [Option.bind_some]
  rw [hw.old _ hlt, hg]
 ·rintro e w' ⟨rfl, k', os, rfl⟩
  have h2 := St.growL os.toList (hw.drewN k')
  rw [Array.toArray_toList] at h2
  exact ⟨_, H, rfl, h2, ⟨_, rfl, k⟩⟩⟩
theorem Qmz {W : World} {name : String} (hg : Tryz.prog.globalNamed name = some (Tryz.lays173_ren.g 17)) : ∀ (i : Nat) {l : List (String × DataW Unit)} {ps : List MemPlace}, DataW.LaidVars Tryz.prog W l ps → l[i]? = some (name, Lib.tabData .u64 Lib.pow10Tab) → PowT (ctxOf W)
 | _, [], ps, _, hi => by simp at hi
 | 0, (n, d) :: r, ps, ⟨g, t, cs, fuel, p, q, h1, h2, h3, h4, h5, h6⟩, hi => by
  simp only [List.getElem?_cons_zero, Option.some.injEq, Prod.mk.injEq] at hi
  obtain ⟨rfl, rfl⟩ := hi
  obtain rfl := Option.some.inj (hg.symm.trans h1)
  have hT : (Tryz.prog.globals[(Tryz.lays173_ren.g 17)]?).map (·.type) = some 178 := by kernel_rfl
  obtain rfl := Option.some.inj (hT.symm.trans h2)
  have hc := Lib.cells_of_tab Tryz.underlying178 Tryz.underlying163 (by kernel_rfl) (by kernel_rfl) h4
  unfold World.var? at h3
  rw [h1] at h3
  simp only [Option.bind_some] at h3
  cases hb : W.heap[(Tryz.lays173_ren.g 17)]? with
  | none => rw [hb] at h3; cases h3
  | some o =>
   rw [hb] at h3
   cases o <;> simp only [reduceCtorEq, Option.some.injEq] at h3
   rename_i c ty fr
   subst h3
   refine ⟨ty, fr, ?_⟩
   show W.heap[(Tryz.lays173_ren.g 17)]? = _
   rw [hb, ← hc]
 | i + 1, (n, d) :: r, ps, ⟨g, t, cs, fuel, p, q, h1, h2, h3, h4, h5, h6⟩, hi => Qmz hg i h5 (by simpa using hi)
theorem QpP {W : World} {name : String} {l : List (String × DataW Unit)} (h : laidMet Tryz.prog l W) (i : Nat) (hi : l[i]? = some (name, Lib.tabData .u64 Lib.pow10Tab)) (hg : Tryz.prog.globalNamed name = some (Tryz.lays173_ren.g 17)) : PowT (ctxOf W) := by
 obtain ⟨ps, h1, _⟩ := h
 exact Qmz hg i h1 hi
end Sx
end

noncomputable section
set_option linter.unusedVariables false
set_option linter.unusedSimpArgs false
namespace Sx
open Go
inductive V where
 | mk (k n : Int) (s : Str) (l : List V)
namespace V
def k : V → Int | .mk k _ _ _ => k
def n : V → Int | .mk _ n _ _ => n
def s : V → Str | .mk _ _ s _ => s
def l : V → List V | .mk _ _ _ l => l
end V
mutual
def vsize : V → Nat
 | .mk _ _ _ l => vsizes l + 1
def vsizes : List V → Nat
 | [] => 0
 | v :: l => vsize v + vsizes l
end
theorem QcG : ∀ {l : List V} {v : V}, v ∈ l → vsize v ≤ vsizes l
 | w :: l, v, h => by
  simp only [vsizes]
  rcases List.mem_cons.1 h with rfl | h
  ·omega
  ·have := QcG h; omega
theorem QkW {v w : V} (h : w ∈ v.l) : vsize w < vsize v := by
 obtain ⟨k, n, s, l⟩ := v
 have := QcG (show w ∈ l from h)
 simp only [vsize]; omega
/-- by how great a value is -/
theorem V.rec_ {P : V → Prop} (h : ∀ v, (∀ w ∈ v.l, P w) → P v) (v : V) : P v := by
 have : ∀ n v, vsize v ≤ n → P v := by
  intro n
  induction n with
  | zero => intro v hv; obtain ⟨k, n, s, l⟩ := v; simp [vsize] at hv
  | succ n ih => intro v hv; exact h v fun w hw => ih w (by have := QkW hw; omega)
 exact this _ v (Nat.le_refl _)
mutual
def dep : V → Nat
 | .mk _ _ _ l => deps l + 1
def deps : List V → Nat
 | [] => 0
 | v :: l => max (dep v) (deps l)
end
theorem Qo0 (v : V) : dep v = deps v.l + 1 := by obtain ⟨k, n, s, l⟩ := v; rfl
theorem Qge : ∀ (a b : List V), deps (a ++ b) = max (deps a) (deps b)
 | [], b => by simp [deps]
 | v :: a, b => by simp only [List.cons_append, deps, Qge a b]; omega
theorem Qlf {l : List V} {i : Nat} (h : i < l.length) : deps (l.take (i + 1)) = max (deps (l.take i)) (dep l[i]) := by
 rw [List.take_add_one, List.getElem?_eq_getElem h, Option.toList_some, Qge]; simp [deps]
theorem QlS : ∀ {l : List V} {v : V}, v ∈ l → dep v ≤ deps l
 | w :: l, v, h => by
  simp only [deps]
  rcases List.mem_cons.1 h with rfl | h
  ·omega
  ·have := QlS h; omega
theorem QlR (v : V) : dep v ≤ vsize v := by
 have h : ∀ (l : List V), (∀ w ∈ l, dep w ≤ vsize w) → deps l ≤ vsizes l := by
  intro l
  induction l with
  | nil => intro _; simp [deps]
  | cons v l ih =>
   intro h
   have h1 := h v (List.mem_cons_self ..)
   have h2 := ih fun w hw => h w (List.mem_cons_of_mem _ hw)
   simp only [deps, vsizes]; omega
 refine V.rec_ (P := fun v => dep v ≤ vsize v) (fun v ih => ?_) v
 obtain ⟨k, n, s, l⟩ := v
 have := h l ih
 simp only [dep, vsize]; omega
def lowC (c : UInt8) : Bool := decide (97 ≤ c.toNat) && decide (c.toNat ≤ 122)
def nameC (c : UInt8) : Bool := lowC c || (decide (65 ≤ c.toNat) && decide (c.toNat ≤ 90)) || (decide (48 ≤ c.toNat) && decide (c.toNat ≤ 57)) || decide (c.toNat = 95)
def nameS (s : Str) : Bool := !s.isEmpty && decide (s.length ≤ 32) && lowC (s.headD 0) && s.all nameC
def digC (c : UInt8) : Bool := decide (48 ≤ c.toNat) && decide (c.toNat ≤ 57)
def cutD : Str → Option (Str × Str)
 | [] => none
 | c :: t => if c = 46 then some ([], t) else (cutD t).map fun p => (c :: p.1, p.2)
theorem Qiz : ∀ (a b : Str), (46 : UInt8) ∉ a → cutD (a ++ 46 :: b) = some (a, b)
 | [], b, _ => by simp [cutD]
 | c :: a, b, h => by
  have h1 : c ≠ 46 := fun e => h (by rw [e]; exact List.mem_cons_self ..)
  simp only [List.cons_append, cutD, if_neg h1, Qiz a b fun hh => h (List.mem_cons_of_mem _ hh)]; rfl
theorem QiA : ∀ (a : Str), (46 : UInt8) ∉ a → cutD a = none
 | [], _ => rfl
 | c :: a, h => by
  have h1 : c ≠ 46 := fun e => h (by rw [e]; exact List.mem_cons_self ..)
  simp only [cutD, if_neg h1, QiA a fun hh => h (List.mem_cons_of_mem _ hh)]; rfl
theorem Qkr : ∀ (s : Str), (46 : UInt8) ∈ s → ∃ a b, s = a ++ 46 :: b ∧ 46 ∉ a
 | c :: s, h => by
  by_cases hc : c = 46
  ·exact ⟨[], s, by rw [hc]; rfl, by simp⟩
  ·obtain ⟨a, b, h1, h2⟩ := Qkr s (by simpa [Ne.symm hc] using h)
   exact ⟨c :: a, b, by rw [h1]; rfl, by simp [h2, Ne.symm hc]⟩
def trueS : Str := [116, 114, 117, 101]
def falseS : Str := [102, 97, 108, 115, 101]
def namesS (s : Str) : Bool := if s = trueS ∨ s = falseS then false else match cutD s with
 | some (a, b) => nameS a && nameS b
 | none => nameS s
def unmin (s : Str) : Str := if s.head? = some 45 then s.tail else s
def numS (s : Str) : Bool := !(unmin s).isEmpty && (unmin s).all digC && !(decide ((unmin s).head? = some 48) && decide (s ≠ [48]))
def digits (s : Str) : Nat := (unmin s).length
def okN (k n : Int) (s : Str) (m : Nat) : Bool :=
 if k = 1 then (n == 0 || n == 1) && s.isEmpty && decide (m = 0)
 else if k = 2 then s.isEmpty && decide (m = 0)
 else if k = 3 then numS s && n == 0 && decide (m = 0)
 else if k = 4 then n == 0 && decide (m = 0)
 else if k = 5 then n == 0 && s.isEmpty && decide (m ≠ 1)
 else if k = 6 then n == 0 && namesS s
 else false
def fitN (k : Int) (s : Str) (m : Nat) : Bool :=
 if k = 3 then decide (digits s ≤ 200)
 else if k = 4 then decide (s.length ≤ 4096)
 else if k = 5 then decide (m ≤ 16)
 else if k = 6 then decide (m ≤ 8)
 else true
mutual
def formV : V → Bool
 | .mk k n s l => okN k n s l.length && formVs l
def formVs : List V → Bool
 | [] => true
 | v :: l => formV v && formVs l
end
mutual
def fitsV : V → Bool
 | .mk k n s l => fitN k s l.length && fitsVs l
def fitsVs : List V → Bool
 | [] => true
 | v :: l => fitsV v && fitsVs l
end
theorem QcV (v : V) : formV v = (okN v.k v.n v.s v.l.length && formVs v.l) := by obtain ⟨k, n, s, l⟩ := v; rfl
theorem QgA (v : V) : fitsV v = (fitN v.k v.s v.l.length && fitsVs v.l) := by obtain ⟨k, n, s, l⟩ := v; rfl
theorem QgE : ∀ (a b : List V), formVs (a ++ b) = (formVs a && formVs b)
 | [], b => by simp [formVs]
 | v :: a, b => by simp only [List.cons_append, formVs, QgE a b, Bool.and_assoc]
theorem Qem : ∀ (a b : List V), fitsVs (a ++ b) = (fitsVs a && fitsVs b)
 | [], b => by simp [fitsVs]
 | v :: a, b => by simp only [List.cons_append, fitsVs, Qem a b, Bool.and_assoc]
theorem QiB {l : List V} {i : Nat} (h : i < l.length) : formVs (l.take (i + 1)) = (formVs (l.take i) && formV l[i]) := by
 rw [List.take_add_one, List.getElem?_eq_getElem h, Option.toList_some, QgE]; simp [formVs]
theorem Qgg {l : List V} {i : Nat} (h : i < l.length) : fitsVs (l.take (i + 1)) = (fitsVs (l.take i) && fitsV l[i]) := by
 rw [List.take_add_one, List.getElem?_eq_getElem h, Option.toList_some, Qem]; simp [fitsVs]
theorem Qe4 : ∀ {l : List V} {v : V}, v ∈ l → formV v = false → formVs l = false
 | w :: l, v, h, hv => by
  simp only [formVs]
  rcases List.mem_cons.1 h with rfl | h
  ·rw [hv]; rfl
  ·rw [Qe4 h hv, Bool.and_false]
theorem Qc1 : ∀ {l : List V} {v : V}, v ∈ l → formVs l = true → formV v = true := fun h hl => by
 cases hv : formV _ with
 | true => rfl
 | false => rw [Qe4 h hv] at hl; cases hl
def checkV (v : V) : Int := if dep v > 64 then 65 else if formV v = false then 4 else if fitsV v = false then 40 else 0
def mayV (v : V) : Bool := decide (checkV v = 0)
theorem Qmv (v : V) : mayV v = true ↔ dep v ≤ 64 ∧ formV v = true ∧ fitsV v = true := by
 unfold mayV checkV
 rw [decide_eq_true_eq]
 by_cases h1 : dep v > 64
 ·simp [h1]; omega
 ·rw [if_neg h1]
  cases hf : formV v <;> cases hg : fitsV v <;> simp <;> omega
def sgn (a b : Int) : Int := if a < b then -1 else if b < a then 1 else 0
def vcmpS : Str → Str → Int
 | [], [] => 0
 | [], _ :: _ => -1
 | _ :: _, [] => 1
 | a :: s, b :: t => if a = b then vcmpS s t else sgn a.toNat b.toNat
/-- of whole numbers without their signs -/
def cmpD (a b : Str) : Int := if a.length = b.length then vcmpS a b else sgn a.length b.length
def isMin (s : Str) : Bool := decide (s.head? = some 45)
def cmpB (a b : Str) : Int := if isMin a then (if isMin b then cmpD b.tail a.tail else -1) else if isMin b then 1 else cmpD a b
mutual
def cmpV : V → V → Int
 | .mk k n s l, .mk k' n' s' l' =>
  if k ≠ k' then sgn k k'
  else if k = 3 then cmpB s s'
  else if k = 4 then vcmpS s s'
  else if k = 5 then cmpVs l l'
  else if k = 6 then (if vcmpS s s' ≠ 0 then vcmpS s s' else cmpVs l l')
  else sgn n n'
def cmpVs : List V → List V → Int
 | [], [] => 0
 | [], _ :: _ => -1
 | _ :: _, [] => 1
 | v :: l, w :: m => if cmpV v w ≠ 0 then cmpV v w else cmpVs l m
end
def lastB (a b : Bool) : Int := if a = b then 0 else if a then -1 else 1
def mayR (l : List V) : Bool := l.all mayV
def cmpR (l m : List V) : Int := if mayR l = true ∧ mayR m = true then cmpVs l m else lastB (mayR l) (mayR m)
mutual
def sameV : V → V → Bool
 | .mk k n s l, .mk k' n' s' l' => k == k' && n == n' && decide (s = s') && sameVs l l'
def sameVs : List V → List V → Bool
 | [], [] => true
 | v :: l, w :: m => sameV v w && sameVs l m
 | _, _ => false
end
theorem Qly (h : ∀ v w : V, sameV v w = true → v = w) : ∀ {l m : List V}, sameVs l m = true → l = m
 | [], [], _ => rfl
 | [], _ :: _, h' => by simp [sameVs] at h'
 | _ :: _, [], h' => by simp [sameVs] at h'
 | v :: l, w :: m, h' => by
  simp only [sameVs, Bool.and_eq_true] at h'
  rw [h v w h'.1, Qly h h'.2]
theorem QmG {v w : V} (h : sameV v w = true) : v = w := by
 have key : ∀ v : V, ∀ w, sameV v w = true → v = w := by
  refine V.rec_ (P := fun v => ∀ w, sameV v w = true → v = w) fun v ih w h => ?_
  obtain ⟨k, n, s, l⟩ := v
  obtain ⟨k', n', s', l'⟩ := w
  simp only [sameV, Bool.and_eq_true, beq_iff_eq, decide_eq_true_eq] at h
  obtain ⟨⟨⟨rfl, rfl⟩, rfl⟩, h⟩ := h
  have : ∀ (l m : List V), (∀ v ∈ l, ∀ w, sameV v w = true → v = w) → sameVs l m = true → l = m := by
   intro l
   induction l with
   | nil => intro m _ h; cases m with
    | nil => rfl
    | cons _ _ => simp [sameVs] at h
   | cons v l ihl =>
    intro m hh h
    cases m with
    | nil => simp [sameVs] at h
    | cons w m =>
     simp only [sameVs, Bool.and_eq_true] at h
     rw [hh v (List.mem_cons_self ..) w h.1, ihl m (fun v hv => hh v (List.mem_cons_of_mem _ hv)) h.2]
  rw [this l l' ih h]
 exact key v w h
mutual
theorem QjQ : ∀ v : V, sameV v v = true
 | .mk k n s l => by simp [sameV, Qgl l]
theorem Qgl : ∀ l : List V, sameVs l l = true
 | [] => rfl
 | v :: l => by simp [sameVs, QjQ v, Qgl l]
end
theorem QnZ {v w : V} : sameV v w = true ↔ v = w := ⟨QmG, fun h => h ▸ QjQ v⟩
theorem Qby {l m : List V} : sameVs l m = true ↔ l = m := ⟨Qly fun _ _ => QmG, fun h => h ▸ Qgl l⟩
end Sx
end

noncomputable section
set_option linter.unusedVariables false
set_option linter.unusedSimpArgs false
set_option maxRecDepth 10000
namespace Sx
section
open Go Go.Proofs
theorem QgB {α β : Type} (f : α → List β) (z : Nat) (hz : ∀ x, (f x).length = z) : ∀ (l : List α) (i : Nat) (x : α), l[i]? = some x → ∀ (j : Nat) (v : β), (f x)[j]? = some v → (l.flatMap f)[i * z + j]? = some v
 | [], i, x, h, j, v, hv => by simp at h
 | y :: l, 0, x, h, j, v, hv => by
  simp at h; subst h
  rw [List.flatMap_cons, Nat.zero_mul, Nat.zero_add, List.getElem?_append_left (List.getElem?_eq_some_iff.1 hv).1]; exact hv
 | y :: l, i + 1, x, h, j, v, hv => by
  have := QgB f z hz l i x (by simpa using h) j v hv
  rw [List.flatMap_cons, List.getElem?_append_right (by rw [hz, Nat.add_mul]; omega), hz]
  rw [show (i + 1) * z + j - z = i * z + j by rw [Nat.add_mul]; omega]; exact this
abbrev TV := Qb
theorem TV.c_len (x : TV) : (Qb.c x).length = 4 := rfl
mutual
def VIs (H : Heap) : V → TV → Prop
 | .mk k n s l, x => x.Kind = k ∧ x.N = n ∧ x.S = s ∧ ∃ xs : List TV, rdsl H x.L (xs.flatMap Qb.c) ∧ x.L.len = xs.length ∧ VsAre H l xs
def VsAre (H : Heap) : List V → List TV → Prop
 | [], [] => True
 | v :: l, x :: xs => VIs H v x ∧ VsAre H l xs
 | [], _ :: _ => False
 | _ :: _, [] => False
end
/-- a row of values -/
def VRow (H : Heap) (t : Sl) (l : List V) : Prop := ∃ xs : List TV, rdsl H t (xs.flatMap Qb.c) ∧ t.len = xs.length ∧ VsAre H l xs
theorem QcH {H : Heap} {v : V} {x : TV} : VIs H v x ↔ x.Kind = v.k ∧ x.N = v.n ∧ x.S = v.s ∧ VRow H x.L v.l := by obtain ⟨k, n, s, l⟩ := v; rfl
theorem VsAre.len {H : Heap} : ∀ {l : List V} {xs : List TV}, VsAre H l xs → l.length = xs.length
 | [], [], _ => rfl
 | v :: l, x :: xs, h => by have := VsAre.len h.2; simp [this]
theorem VsAre.get {H : Heap} : ∀ {l : List V} {xs : List TV}, VsAre H l xs → ∀ (i : Nat) (v : V) (x : TV), l[i]? = some v → xs[i]? = some x → VIs H v x
 | [], [], _, i, v, x, h, _ => by simp at h
 | v :: l, x :: xs, h, 0, v', x', h1, h2 => by simp at h1 h2; subst h1; subst h2; exact h.1
 | v :: l, x :: xs, h, i + 1, v', x', h1, h2 => VsAre.get h.2 i v' x' (by simpa using h1) (by simpa using h2)
theorem VsAre.of {H : Heap} : ∀ {l : List V} {xs : List TV}, l.length = xs.length → (∀ (i : Nat) (v : V) (x : TV), l[i]? = some v → xs[i]? = some x → VIs H v x) → VsAre H l xs
 | [], [], _, _ => trivial
 | v :: l, x :: xs, h, hg => ⟨hg 0 v x rfl rfl, VsAre.of (by simpa using h) fun i v' x' h1 h2 => hg (i + 1) v' x' (by simpa using h1) (by simpa using h2)⟩
mutual
theorem VIs.le {A B : Heap} (h : A.le B) : ∀ {v : V} {x : TV}, VIs A v x → VIs B v x
 | .mk k n s l, x, ⟨h1, h2, h3, xs, h4, h5, h6⟩ => ⟨h1, h2, h3, xs, QbR h h4, h5, VsAre.le h h6⟩
theorem VsAre.le {A B : Heap} (h : A.le B) : ∀ {l : List V} {xs : List TV}, VsAre A l xs → VsAre B l xs
 | [], [], _ => trivial
 | v :: l, x :: xs, ⟨h1, h2⟩ => ⟨VIs.le h h1, VsAre.le h h2⟩
end
theorem VRow.le {A B : Heap} {t : Sl} {l : List V} (h : VRow A t l) (hle : A.le B) : VRow B t l := by
 obtain ⟨xs, h1, h2, h3⟩ := h
 exact ⟨xs, QbR hle h1, h2, h3.le hle⟩
theorem VRow.len {H : Heap} {t : Sl} {l : List V} (h : VRow H t l) : t.len = l.length := by
 obtain ⟨xs, h1, h2, h3⟩ := h
 rw [h2, h3.len]
theorem VIs.kind {H : Heap} {v : V} {x : TV} (h : VIs H v x) : x.Kind = v.k := (QcH.1 h).1
theorem VIs.num {H : Heap} {v : V} {x : TV} (h : VIs H v x) : x.N = v.n := (QcH.1 h).2.1
theorem VIs.txt {H : Heap} {v : V} {x : TV} (h : VIs H v x) : x.S = v.s := (QcH.1 h).2.2.1
theorem VIs.row {H : Heap} {v : V} {x : TV} (h : VIs H v x) : VRow H x.L v.l := (QcH.1 h).2.2.2
/-- one of a row's values -/
theorem VRow.ld {A H : Heap} {t : Sl} {l : List V} (h : VRow A t l) (hle : A.le H) {i : Nat} {x : Int} {K : TV → Prop} (hx : x = i) (hi : i < l.length) (k : ∀ y, VIs A l[i] y → K y) : ixa t x fun p => ldT H Qb.c (p.1, p.2 + x.toNat * 4) K := by
 have hl := h.len
 obtain ⟨xs, h1, h2, h3⟩ := h
 have hi2 : i < xs.length := by omega
 have hg := List.getElem?_eq_getElem hi2
 subst hx
 refine Qo3 (QbR hle h1) (by omega) (by omega) (fun e => ?_) fun p _ hp => ⟨xs[i], ?_, k _ (h3.get i _ _ (List.getElem?_eq_getElem hi) hg)⟩
 ·have := QgB Qb.c 4 TV.c_len xs i _ hg 0 _ rfl
  rw [e] at this; simp at this
 ·refine QgW fun j v hj => ?_
  have := QhE hp _ _ (QgB Qb.c 4 TV.c_len xs i _ hg j v hj)
  rw [show p.2 + (i : Int).toNat * 4 + j = p.2 + (i * 4 + j) by omega]; exact this
mutual
def VB : V → Prop
 | .mk k n s l => (0 ≤ k ∧ k ≤ 255) ∧ (-9223372036854775808 ≤ n ∧ n ≤ 9223372036854775807) ∧ s.length ≤ 140737488355328 ∧ l.length ≤ 140737488355328 ∧ VBs l
def VBs : List V → Prop
 | [] => True
 | v :: l => VB v ∧ VBs l
end
theorem VBs.mem : ∀ {l : List V}, VBs l → ∀ {v}, v ∈ l → VB v
 | w :: l, h, v, hv => by
  rcases List.mem_cons.1 hv with rfl | hv
  ·exact h.1
  ·exact VBs.mem h.2 hv
theorem VB.k {v : V} (h : VB v) : 0 ≤ v.k ∧ v.k ≤ 255 := by obtain ⟨k, n, s, l⟩ := v; exact h.1
theorem VB.n {v : V} (h : VB v) : -9223372036854775808 ≤ v.n ∧ v.n ≤ 9223372036854775807 := by obtain ⟨k, n, s, l⟩ := v; exact h.2.1
theorem VB.s {v : V} (h : VB v) : v.s.length ≤ 140737488355328 := by obtain ⟨k, n, s, l⟩ := v; exact h.2.2.1
theorem VB.l {v : V} (h : VB v) : v.l.length ≤ 140737488355328 := by obtain ⟨k, n, s, l⟩ := v; exact h.2.2.2.1
theorem VB.ls {v : V} (h : VB v) : VBs v.l := by obtain ⟨k, n, s, l⟩ := v; exact h.2.2.2.2
theorem VB.at {v : V} (h : VB v) {i : Nat} (hi : i < v.l.length) : VB v.l[i] := h.ls.mem (List.getElem_mem hi)
section
variable {B : Heap} {b : Nat} {m : Bool} {x : TV}
theorem QmC (h : B b = some (m, .row (Qb.c x))) : rd B (b, 0) = some (.int .u8 x.Kind) ∧ rd B (b, 1) = some (.int .i64 x.N) ∧ rd B (b, 2) = some (sv x.S) ∧ rd B (b, 3) = some (slv x.L) :=
 ⟨by rw [QeG h]; rfl, by rw [QeG h]; rfl, by rw [QeG h]; rfl, by rw [QeG h]; rfl⟩
theorem bxK {K : Int → Prop} (h : B b = some (m, .row (Qb.c x))) (k : K x.Kind) : ldI B .u8 ((b, 0).1, (b, 0).2 + 0) K := ⟨_, (QmC h).1, k⟩
theorem bxN {K : Int → Prop} (h : B b = some (m, .row (Qb.c x))) (k : K x.N) : ldI B .i64 ((b, 0).1, (b, 0).2 + 1) K := ⟨_, (QmC h).2.1, k⟩
theorem bxS {K : Str → Prop} (h : B b = some (m, .row (Qb.c x))) (k : K x.S) : ldS B ((b, 0).1, (b, 0).2 + 2) K := ⟨_, (QmC h).2.2.1, k⟩
theorem bxL {K : Sl → Prop} (h : B b = some (m, .row (Qb.c x))) (k : K x.L) : ldL B ((b, 0).1, (b, 0).2 + 3) K := ⟨_, (QmC h).2.2.2, k⟩
theorem bxV {K : TV → Prop} (h : B b = some (m, .row (Qb.c x))) (k : K x) : ldT B Qb.c (b, 0) K := ⟨x, Qaf h fun j v hj => by simpa using hj, k⟩
end
section
variable {C : Ctx} {H : Heap}
theorem QjD {v : V} {x : TV} {H : Heap} {K : Int → Heap → Prop} (hv : VIs H v x) (hB : VB v) (hs : vsize v ≤ 4611686018427387904) (k : K (dep v) H) : Qaj C x K H := by
 refine V.rec_ (P := fun v => ∀ {x H} {K : Int → Heap → Prop}, VIs H v x → VB v → vsize v ≤ 4611686018427387904 → K (dep v) H → Qaj C x K H) (fun v ih => ?_) v hv hB hs k
 clear hv hB hs k
 intro x H K hv hB hs k
 apply Qaj.gh
 apply Qjc
 unfold QfS
 intro b1 n1
 have hr := hv.row
 have hl := hr.len
 have hbl := hB.l
 have hds := QlR v
 have hde := Qo0 v
 refine ⟨fun y H' => ∃ i : Nat, y = ((deps (v.l.take i) : Int), (i : Int)) ∧ i ≤ v.l.length ∧ (H.put b1 (.row (Qb.c x))).le H', fun y _ => v.l.length - y.2.toNat, ⟨0, by simp [deps], Nat.zero_le _, Heap.le.refl _⟩, ?_⟩
 rintro _ H' ⟨i, rfl, hi, hle⟩
 have hb := hle _ _ (Heap.put_same ..)
 have hle0 := (Heap.le_put n1).trans hle
 refine bxL hb ?_
 rw [hl]
 refine ift.of (fun h => ?_) (fun h => ?_)
 ·have hlt : i < v.l.length := by have := of_decide_eq_true h; dsimp only at this; omega
  have hmem := List.getElem_mem hlt
  have hsz := QkW hmem
  have hdl := QlS hmem
  refine bxL hb ?_
  refine hr.ld hle0 rfl hlt fun y hy => ?_
  refine ih _ hmem (hy.le hle0) (hB.at hlt) (by omega) ?_
  have hdt := Qlf hlt
  dsimp only
  rw [Qq (by omega) (by omega)]
  refine ⟨⟨i + 1, ?_, by omega, hle⟩, by first | omega | (dsimp only; omega)⟩
  rw [hdt]
  refine Prod.ext ?_ rfl
  dsimp only
  split <;> omega
 ·have hie : i = v.l.length := by have := of_decide_eq_false h; dsimp only at this; omega
  subst hie
  dsimp only
  rw [List.take_length, Qq (by omega) (by omega)]
  refine ⟨H, Gh.le hle0, ?_⟩
  rw [hde] at k; exact k
theorem QjF {v : V} {x : TV} {H : Heap} {m : Nat} {K : Int → Heap → Prop} (hv : VIs H v x) (hB : VB v) (hm : m ≤ 1000) (k : ∀ r : Nat, r ≤ m + 1 → r ≤ dep v → (r = dep v ∨ m + 1 ≤ r) → K r H) : Qal C x m K H := by
 refine V.rec_ (P := fun v => ∀ {x H} {m : Nat} {K : Int → Heap → Prop}, VIs H v x → VB v → m ≤ 1000 → (∀ r : Nat, r ≤ m + 1 → r ≤ dep v → (r = dep v ∨ m + 1 ≤ r) → K r H) → Qal C x m K H) (fun v ih => ?_) v hv hB hm k
 clear hv hB hm k m
 intro x H m K hv hB hm k
 apply Qal.gh
 apply Qjk
 unfold Qf0
 intro b1 n1
 have hr := hv.row
 have hl := hr.len
 have hbl := hB.l
 have hde := Qo0 v
 have hb1 : (H.put b1 (.row (Qb.c x))) b1 = some (true, .row (Qb.c x)) := Heap.put_same ..
 refine ⟨fun y H' => H.le H' ∧ ∃ r : Nat, y = (r : Int) ∧ r ≤ m ∧ r ≤ deps v.l ∧ (r = deps v.l ∨ m ≤ r), ?_, ?_⟩
 rotate_left
 ·rintro y H' ⟨hle, r, rfl, h0, h1, h2⟩
  rw [Qq (by omega) (by omega)]
  have := k (r + 1) (by omega) (by omega) (by omega)
  exact ⟨H, Gh.le hle, by simpa using this⟩
 refine bxL hb1 ?_
 refine ⟨fun y H' => ∃ i r : Nat, y = ((r : Int), (i : Int)) ∧ i ≤ v.l.length ∧ H.le H' ∧ r ≤ m ∧ r ≤ deps (v.l.take i) ∧ (r = deps (v.l.take i) ∨ m ≤ r), fun y _ => v.l.length - y.2.toNat, ⟨0, 0, rfl, Nat.zero_le _, Heap.le_put n1, Nat.zero_le _, Nat.zero_le _, .inl (by simp [deps])⟩, ?_⟩
 rintro _ H' ⟨i, r, rfl, hi, hle, hr0, hr1, hr2⟩
 have hdti : deps (v.l.take i) ≤ deps v.l := by
  have h1 := Qge (v.l.take i) (v.l.drop i)
  rw [List.take_append_drop] at h1; omega
 dsimp only
 rw [hl]
 refine ift.of (fun h => ?_) (fun h => ?_)
 ·have hlt : i < v.l.length := by have := of_decide_eq_true h; omega
  have hmem := List.getElem_mem hlt
  have hdl := QlS hmem
  refine hr.ld hle rfl hlt fun y hy => ?_
  intro b20 n20
  refine ⟨_, Heap.put_same .., by simp [Qb.c], ?_⟩
  rw [Heap.put_put]
  have esp : splice (Qb.c Qb.zero) (b20, 0).2 (Qb.c y) = Qb.c y := rfl
  rw [esp]
  have hle2 := hle.trans (Heap.le_put n20 (g := .row (Qb.c y)) (m := true))
  refine ift.of (fun h => ?_) (fun h => ?_)
  ·have hge : m ≤ r := by have := of_decide_eq_true h; omega
   exact ⟨hle2, r, rfl, by omega, by omega, .inr hge⟩
  ·have hltm : r < m := by have := of_decide_eq_false h; omega
   refine bxV (Heap.put_same ..) ?_
   have em : w .i64 ((m : Int) - 1) = ((m - 1 : Nat) : Int) := by rw [Qq (by omega) (by omega)]; omega
   rw [em]
   refine ih _ hmem (hy.le hle2) (hB.at hlt) (by omega) fun q hq0 hq1 hq2 => ?_
   have hdt := Qlf hlt
   rw [Qq (by omega) (by omega)]
   refine ⟨⟨i + 1, max q r, ?_, by omega, hle2, by omega, by omega, ?_⟩, by first | omega | (dsimp only; omega)⟩
   ·refine Prod.ext ?_ rfl
    dsimp only
    split <;> omega
   ·rw [hdt]; omega
 ·have hie : i = v.l.length := by have := of_decide_eq_false h; omega
  subst hie
  rw [List.take_length] at hr1 hr2
  exact ⟨hle, r, rfl, hr0, hr1, hr2⟩
end
end
section
open Go Go.Proofs
theorem u8eq (c : UInt8) (n : Nat) (hn : n < 256) : ((c.toNat : Int) == (n : Int)) = decide (c = UInt8.ofNat n) := by
 rw [Bool.eq_iff_iff]; simp only [decide_eq_true_eq, beq_iff_eq]
 constructor
 ·intro h; exact UInt8.toNat_inj.1 (by rw [UInt8.toNat_ofNat']; omega)
 ·rintro rfl; rw [UInt8.toNat_ofNat']; omega
theorem e48 (c : UInt8) : ((c.toNat : Int) == 48) = decide (c = 48) := u8eq c 48 (by omega)
theorem e45 (c : UInt8) : ((c.toNat : Int) == 45) = decide (c = 45) := u8eq c 45 (by omega)
theorem e46 (c : UInt8) : ((c.toNat : Int) == 46) = decide (c = 46) := u8eq c 46 (by omega)
theorem Qh8 {α : Type} {p : α → Bool} {s : List α} {i : Nat} (h : i < s.length) : (s.take (i + 1)).all p = ((s.take i).all p && p s[i]) := by
 rw [List.take_add_one, List.getElem?_eq_getElem h, Option.toList_some, List.all_append]; simp
theorem Qm8 {α : Type} {p : α → Bool} {s : List α} {x : α} (h : x ∈ s) (hp : p x = false) : s.all p = false := by
 rw [List.all_eq_false]; exact ⟨x, h, by simp [hp]⟩
theorem getE {s : Str} {i : Nat} (h : i < s.length) : s[((i : Nat) : Int).toNat]? = some s[i] := by simp [h]
theorem getL {s : Str} (h : 0 < s.length) {x : Int} (hx : x = (s.length : Int) - 1) : s[x.toNat]? = some (s.getLast (List.ne_nil_of_length_pos h)) := by
 subst hx
 have : ((s.length : Int) - 1).toNat = s.length - 1 := by omega
 rw [this, List.getElem?_eq_getElem (by omega), List.getLast_eq_getElem]
section
variable {C : Ctx} {H : Heap}
theorem Qlj {c : UInt8} {K : Bool → Heap → Prop} (k : K (lowC c) H) : Qcq C (c.toNat : Int) K H := by
 apply Qin
 unfold Qfi
 have : (decide ((c.toNat : Int) ≥ 97) && decide ((c.toNat : Int) ≤ 122)) = lowC c := by
  unfold lowC
  rw [Bool.eq_iff_iff]; simp only [Bool.and_eq_true, decide_eq_true_eq]; omega
 rw [this]; exact k
theorem Qex {s : Str} {K : Bool → Heap → Prop} (hs : s.length ≤ 140737488355328) (k : K (nameS s) H) : Qcy C s K H := by
 apply Qj5
 unfold Qg6
 refine ⟨fun b H' => H = H' ∧ b = (s.isEmpty || decide (s.length > 32) || !lowC (s.headD 0)), ?_, ?_⟩
 ·refine ift.of (fun h => ⟨rfl, ?_⟩) (fun h => ?_)
  ·simp only [Bool.or_eq_true, decide_eq_true_eq, beq_iff_eq] at h
   rcases h with rfl | h
   ·rfl
   ·have : decide (s.length > 32) = true := by rw [decide_eq_true_eq]; omega
    rw [this]; simp
  ·cases s with
   | nil => simp at h
   | cons c t =>
    refine ⟨c, by omega, rfl, ?_⟩
    refine Qlj ⟨rfl, ?_⟩
    simp only [Bool.or_eq_false_iff, decide_eq_false_iff_not] at h
    have : decide ((c :: t).length > 32) = false := by rw [decide_eq_false_iff_not]; omega
    rw [this]; rfl
 rintro b _ ⟨rfl, rfl⟩
 refine ift.of (fun h => ?_) (fun h => ?_)
 ·have : nameS s = false := by
   unfold nameS
   simp only [Bool.or_eq_true, decide_eq_true_eq, Bool.not_eq_true'] at h
   rcases h with (h | h) | h
   ·rw [h]; rfl
   ·have : decide (s.length ≤ 32) = false := by rw [decide_eq_false_iff_not]; omega
    rw [this]; simp
   ·rw [h]; simp
  rw [this] at k; exact k
 have hn : nameS s = s.all nameC := by
  unfold nameS
  simp only [Bool.or_eq_false_iff, decide_eq_false_iff_not, Bool.not_eq_false'] at h
  have : decide (s.length ≤ 32) = true := by rw [decide_eq_true_eq]; omega
  rw [h.1.1, this, h.2]; simp
 refine ⟨fun x H' => ∃ i : Nat, x = (i : Int) ∧ i ≤ s.length ∧ H = H' ∧ (s.take i).all nameC = true, fun x _ => s.length - x.toNat, ⟨0, rfl, Nat.zero_le _, rfl, rfl⟩, ?_⟩
 rintro x _ ⟨i, rfl, hi, rfl, ha⟩
 refine ift.of (fun h => ?_) (fun h => ?_)
 ·have hlt : i < s.length := by have := of_decide_eq_true h; omega
  refine ⟨s[i], by omega, getE hlt, ?_⟩
  dsimp only
  have hm := List.getElem_mem hlt
  have hat := Qh8 (p := nameC) hlt
  generalize s[i] = c at *
  refine Qlj ?_
  have e : ((((!lowC c) && (!((decide ((c.toNat : Int) ≥ 65)) && (decide ((c.toNat : Int) ≤ 90))))) && (!((decide ((c.toNat : Int) ≥ 48)) && (decide ((c.toNat : Int) ≤ 57))))) && ((c.toNat : Int) != 95)) = !nameC c := by
   unfold nameC
   have h1 : decide ((c.toNat : Int) ≥ 65) = decide (65 ≤ c.toNat) := by rw [decide_eq_decide]; omega
   have h2 : decide ((c.toNat : Int) ≤ 90) = decide (c.toNat ≤ 90) := by rw [decide_eq_decide]; omega
   have h3 : decide ((c.toNat : Int) ≥ 48) = decide (48 ≤ c.toNat) := by rw [decide_eq_decide]; omega
   have h4 : decide ((c.toNat : Int) ≤ 57) = decide (c.toNat ≤ 57) := by rw [decide_eq_decide]; omega
   have h5 : ((c.toNat : Int) != 95) = !decide (c.toNat = 95) := by
    rw [Bool.eq_iff_iff]; simp only [bne_iff_ne, ne_eq, Bool.not_eq_true', decide_eq_false_iff_not]; omega
   rw [h1, h2, h3, h4, h5]; simp only [Bool.not_or]
  rw [e]
  refine ift.of (fun h => ?_) (fun h => ?_)
  ·rw [hn, Qm8 hm (by simpa using h)] at k; exact k
  ·rw [Qq (by omega) (by omega)]
   refine ⟨⟨i + 1, by omega, by omega, rfl, ?_⟩, by first | omega | (dsimp only; omega)⟩
   rw [hat, ha]; simpa using h
 ·have hie : i = s.length := by have := of_decide_eq_false h; omega
  rw [hie, List.take_length] at ha
  rw [hn, ha] at k; exact k
theorem Qhp {s : Str} {K : Bool → Heap → Prop} (hs : s.length ≤ 140737488355328) (k : K (nameS s) H) : QbW C s K H := by
 apply Qkk
 unfold Qhl
 refine ⟨fun b H' => H = H' ∧ b = (s.isEmpty || decide (s.length > 32) || decide ((s.headD 0).toNat < 97)), ?_, ?_⟩
 ·refine ift.of (fun h => ⟨rfl, ?_⟩) (fun h => ?_)
  ·simp only [Bool.or_eq_true, decide_eq_true_eq, beq_iff_eq] at h
   rcases h with rfl | h
   ·rfl
   ·have : decide (s.length > 32) = true := by rw [decide_eq_true_eq]; omega
    rw [this]; simp
  ·cases s with
   | nil => simp at h
   | cons c t =>
    refine ⟨c, by omega, rfl, rfl, ?_⟩
    simp only [Bool.or_eq_false_iff, decide_eq_false_iff_not] at h
    have : decide ((c :: t).length > 32) = false := by rw [decide_eq_false_iff_not]; omega
    rw [this]
    simp only [List.isEmpty_cons, Bool.false_or, List.headD_cons]
    exact (decide_eq_decide.2 (by omega) : decide ((c.toNat : Int) < 97) = decide (c.toNat < 97))
 rintro b _ ⟨rfl, rfl⟩
 refine ⟨fun b H' => H = H' ∧ b = (s.isEmpty || decide (s.length > 32) || !lowC (s.headD 0)), ?_, ?_⟩
 ·refine ift.of (fun h => ⟨rfl, ?_⟩) (fun h => ?_)
  ·simp only [Bool.or_eq_true, decide_eq_true_eq] at h
   rcases h with (h | h) | h
   ·rw [h]; rfl
   ·have : decide (s.length > 32) = true := by rw [decide_eq_true_eq]; omega
    rw [this]; simp
   ·have : lowC (s.headD 0) = false := by unfold lowC; rw [decide_eq_false (by omega)]; rfl
    rw [this]; simp
  ·simp only [Bool.or_eq_false_iff, decide_eq_false_iff_not] at h
   cases s with
   | nil => simp at h
   | cons c t =>
    refine ⟨c, by omega, rfl, rfl, ?_⟩
    have : decide ((c :: t).length > 32) = false := by rw [decide_eq_false_iff_not]; omega
    rw [this]
    simp only [List.isEmpty_cons, Bool.false_or, List.headD_cons] at h ⊢
    unfold lowC
    rw [decide_eq_true (by omega : 97 ≤ c.toNat), Bool.true_and, ← decide_not, decide_eq_decide]; omega
 rintro b _ ⟨rfl, rfl⟩
 refine ift.of (fun h => ?_) (fun h => ?_)
 ·have : nameS s = false := by
   unfold nameS
   simp only [Bool.or_eq_true, decide_eq_true_eq, Bool.not_eq_true'] at h
   rcases h with (h | h) | h
   ·rw [h]; rfl
   ·have : decide (s.length ≤ 32) = false := by rw [decide_eq_false_iff_not]; omega
    rw [this]; simp
   ·rw [h]; simp
  rw [this] at k; exact k
 have hn : nameS s = s.all nameC := by
  unfold nameS
  simp only [Bool.or_eq_false_iff, decide_eq_false_iff_not, Bool.not_eq_false'] at h
  have : decide (s.length ≤ 32) = true := by rw [decide_eq_true_eq]; omega
  rw [h.1.1, this, h.2]; simp
 refine ⟨fun x H' => ∃ i : Nat, x = (i : Int) ∧ i ≤ s.length ∧ H = H' ∧ (s.take i).all nameC = true, fun x _ => s.length - x.toNat, ⟨0, rfl, Nat.zero_le _, rfl, rfl⟩, ?_⟩
 rintro x _ ⟨i, rfl, hi, rfl, ha⟩
 refine ift.of (fun h => ?_) (fun h => ?_)
 ·have hlt : i < s.length := by have := of_decide_eq_true h; omega
  refine ⟨s[i], by omega, getE hlt, ?_⟩
  dsimp only
  have hm := List.getElem_mem hlt
  have hat := Qh8 (p := nameC) hlt
  generalize s[i] = c at *
  have e : (!(((((decide ((c.toNat : Int) ≥ 97)) && (decide ((c.toNat : Int) ≤ 122))) || ((decide ((c.toNat : Int) ≥ 65)) && (decide ((c.toNat : Int) ≤ 90)))) || ((decide ((c.toNat : Int) ≥ 48)) && (decide ((c.toNat : Int) ≤ 57)))) || ((c.toNat : Int) == 95))) = !nameC c := by
   unfold nameC lowC
   have h0 : decide ((c.toNat : Int) ≥ 97) = decide (97 ≤ c.toNat) := by rw [decide_eq_decide]; omega
   have h01 : decide ((c.toNat : Int) ≤ 122) = decide (c.toNat ≤ 122) := by rw [decide_eq_decide]; omega
   have h1 : decide ((c.toNat : Int) ≥ 65) = decide (65 ≤ c.toNat) := by rw [decide_eq_decide]; omega
   have h2 : decide ((c.toNat : Int) ≤ 90) = decide (c.toNat ≤ 90) := by rw [decide_eq_decide]; omega
   have h3 : decide ((c.toNat : Int) ≥ 48) = decide (48 ≤ c.toNat) := by rw [decide_eq_decide]; omega
   have h4 : decide ((c.toNat : Int) ≤ 57) = decide (c.toNat ≤ 57) := by rw [decide_eq_decide]; omega
   have h5 : ((c.toNat : Int) == 95) = decide (c.toNat = 95) := by
    rw [Bool.eq_iff_iff]; simp only [beq_iff_eq, decide_eq_true_eq]; omega
   rw [h0, h01, h1, h2, h3, h4, h5]
  rw [e]
  refine ift.of (fun h => ?_) (fun h => ?_)
  ·rw [hn, Qm8 hm (by simpa using h)] at k; exact k
  ·rw [Qq (by omega) (by omega)]
   refine ⟨⟨i + 1, by omega, by omega, rfl, ?_⟩, by first | omega | (dsimp only; omega)⟩
   rw [hat, ha]; simpa using h
 ·have hie : i = s.length := by have := of_decide_eq_false h; omega
  rw [hie, List.take_length] at ha
  rw [hn, ha] at k; exact k
theorem QpY {s : Str} {i : Nat} (h : i < s.length) (h1 : (46 : UInt8) ∉ s.take i) (h2 : s[i] ≠ 46) : (46 : UInt8) ∉ s.take (i + 1) := by
 rw [List.take_add_one, List.getElem?_eq_getElem h, Option.toList_some, List.mem_append]
 rintro (hh | hh)
 ·exact h1 hh
 ·exact h2 (List.mem_singleton.1 hh).symm
theorem QoQ {s : Str} {i : Nat} (h : i < s.length) : s = s.take i ++ s[i] :: s.drop (i + 1) := by
 rw [← List.drop_eq_getElem_cons h, List.take_append_drop]
theorem QjE {s : Str} {K : Bool → Heap → Prop} (hs : s.length ≤ 140737488355328) (k : K (namesS s) H) : Qee C s K H := by
 apply Qjd
 unfold QfT
 unfold namesS at k
 refine ift.of (fun h => ?_) (fun h => ?_)
 ·simp only [Bool.or_eq_true, beq_iff_eq] at h
  rw [if_pos (show s = trueS ∨ s = falseS from h)] at k; exact k
 simp only [Bool.or_eq_false_iff, beq_eq_false_iff_ne, ne_eq] at h
 rw [if_neg (show ¬ (s = trueS ∨ s = falseS) from fun hh => hh.elim h.1 h.2)] at k
 refine ⟨fun x H' => ∃ i : Nat, x = (i : Int) ∧ i ≤ s.length ∧ H = H' ∧ (46 : UInt8) ∉ s.take i, fun x _ => s.length - x.toNat, ⟨0, rfl, Nat.zero_le _, rfl, by simp⟩, ?_⟩
 rintro x _ ⟨i, rfl, hi, rfl, hno⟩
 refine ift.of (fun h => ?_) (fun h => ?_)
 ·have hlt : i < s.length := by have := of_decide_eq_true h; omega
  refine ⟨s[i], by omega, getE hlt, ?_⟩
  dsimp only
  rw [e46]
  refine ift.of (fun h => ?_) (fun h => ?_)
  ·have hc : s[i] = 46 := of_decide_eq_true h
   have hsp := QoQ hlt
   rw [hc] at hsp
   have hcut := Qiz (s.take i) (s.drop (i + 1)) hno
   rw [← hsp] at hcut
   rw [hcut] at k
   dsimp only at k
   refine ⟨by omega, by omega, by omega, _, rfl, ?_⟩
   have e1 : (s.take ((i : Int)).toNat).drop (0 : Int).toNat = s.take i := by simp
   rw [e1]
   refine Qex (by simp; omega) ?_
   refine ⟨fun b H' => H = H' ∧ b = (nameS (s.take i) && nameS (s.drop (i + 1))), ?_, ?_⟩
   ·refine ift.of (fun h => ?_) (fun h => ⟨rfl, by rw [h]; rfl⟩)
    rw [Qq (by omega) (by omega)]
    refine ⟨by omega, by omega, by omega, _, rfl, ?_⟩
    have e2 : (s.take ((s.length : Int)).toNat).drop ((i : Int) + 1).toNat = s.drop (i + 1) := by
     have : ((i : Int) + 1).toNat = i + 1 := by omega
     rw [this]; simp
    rw [e2]
    exact Qex (by simp; omega) ⟨rfl, by rw [h]; rfl⟩
   ·rintro b _ ⟨rfl, rfl⟩
    exact k
  ·have hc : s[i] ≠ 46 := of_decide_eq_false h
   rw [Qq (by omega) (by omega)]
   exact ⟨⟨i + 1, by omega, by omega, rfl, QpY hlt hno hc⟩, by first | omega | (dsimp only; omega)⟩
 ·have hie : i = s.length := by have := of_decide_eq_false h; omega
  rw [hie, List.take_length] at hno
  rw [QiA s hno] at k
  exact Qex hs k
def numT (t : Str) : Bool := !t.isEmpty && !(decide (t.length > 1) && decide (t.head? = some 48)) && t.all digC
theorem Qmw {c : UInt8} {t : Str} : numS (45 :: c :: t) = if c = 48 then false else numT (c :: t) := by
 unfold numS numT unmin
 by_cases h : c = 48
 ·subst h; simp
 ·simp [h]
theorem QpG {s : Str} (h : ¬ (s.length > 1 ∧ s.head? = some 45)) : numS s = numT s := by
 unfold numS numT unmin
 cases s with
 | nil => rfl
 | cons c t =>
  by_cases hc : c = 45
  ·subst hc
   have : t = [] := by cases t with
    | nil => rfl
    | cons d u => exact absurd ⟨by simp, rfl⟩ h
   subst this; decide
  ·simp only [List.head?_cons, Option.some.injEq, hc, if_false]
   by_cases h8 : c = 48
   ·subst h8
    cases t with
    | nil => decide
    | cons d u => simp
   ·simp [h8]
theorem QiU {s : Str} {K : Bool → Heap → Prop} (hs : s.length ≤ 140737488355328) (k : K (numS s) H) : QdN C s K H := by
 apply Qim
 unfold Qfh
 refine ⟨fun x H' => H = H' ∧ x.length ≤ s.length ∧ numT x = numS s, ?_, ?_⟩
 ·refine ⟨fun b H' => H = H' ∧ b = decide (s.length > 1 ∧ s.head? = some 45), ?_, ?_⟩
  ·refine ift.of (fun h => ?_) (fun h => ⟨rfl, ?_⟩)
   ·have h1 : s.length > 1 := by have := of_decide_eq_true h; omega
    cases s with
    | nil => simp at h1
    | cons c t =>
     refine ⟨c, by omega, rfl, rfl, ?_⟩
     rw [e45, decide_eq_decide]
     simp at h1 ⊢
     exact fun _ => h1
   ·have h1 := of_decide_eq_false h
    rw [eq_comm, decide_eq_false_iff_not]; omega
  rintro b _ ⟨rfl, rfl⟩
  refine ift.of (fun h => ?_) (fun h => ?_)
  ·obtain ⟨h1, h2⟩ := of_decide_eq_true h
   cases s with
   | nil => simp at h1
   | cons c0 t0 =>
   obtain rfl : c0 = 45 := by simpa using h2
   cases t0 with
   | nil => simp at h1
   | cons c t =>
   refine ⟨by omega, by simp; omega, by omega, c :: t, ?_, ?_⟩
   ·rw [List.take_of_length_le (by omega)]; rfl
   ·refine ⟨c, by omega, rfl, ?_⟩
    dsimp only
    rw [e48]
    rw [Qmw] at k
    refine ift.of (fun h => ?_) (fun h => ?_)
    ·rw [if_pos (of_decide_eq_true h)] at k; exact k
    ·refine ⟨rfl, by simp, ?_⟩
     rw [Qmw, if_neg (of_decide_eq_false h)]
  ·exact ⟨rfl, Nat.le_refl _, (QpG (of_decide_eq_false h)).symm⟩
 rintro x _ ⟨rfl, hxl, hx⟩
 rw [← hx] at k
 clear hx
 refine ⟨fun b H' => H = H' ∧ b = (x.isEmpty || (decide (x.length > 1) && decide (x.head? = some 48))), ?_, ?_⟩
 ·refine ift.of (fun h => ⟨rfl, ?_⟩) (fun h => ?_)
  ·have : x = [] := by simpa using h
   subst this; rfl
  ·refine ⟨fun b H' => H = H' ∧ b = (decide (x.length > 1) && decide (x.head? = some 48)), ?_, ?_⟩
   ·refine ift.of (fun h => ?_) (fun h => ⟨rfl, ?_⟩)
    ·have h1 : x.length > 1 := by have := of_decide_eq_true h; omega
     rw [decide_eq_true h1]
     cases x with
     | nil => simp at h1
     | cons c t => exact ⟨c, by omega, rfl, rfl, by rw [e48]; simp⟩
    ·have h1 := of_decide_eq_false h
     rw [decide_eq_false (by omega)]; rfl
   ·rintro b _ ⟨rfl, rfl⟩
    have : x.isEmpty = false := by cases x with
     | nil => simp at h
     | cons c t => rfl
    rw [this]; exact ⟨rfl, rfl⟩
 rintro b _ ⟨rfl, rfl⟩
 have hnt : numT x = (!(x.isEmpty || (decide (x.length > 1) && decide (x.head? = some 48))) && x.all digC) := by unfold numT; simp [Bool.not_or]
 refine ift.of (fun h => ?_) (fun h => ?_)
 ·rw [hnt, h] at k; exact k
 rw [hnt, h, Bool.not_false, Bool.true_and] at k
 refine ⟨fun y H' => ∃ i : Nat, y = (i : Int) ∧ i ≤ x.length ∧ H = H' ∧ (x.take i).all digC = true, fun y _ => x.length - y.toNat, ⟨0, rfl, Nat.zero_le _, rfl, rfl⟩, ?_⟩
 rintro y _ ⟨i, rfl, hi, rfl, ha⟩
 refine ift.of (fun h => ?_) (fun h => ?_)
 ·have hlt : i < x.length := by have := of_decide_eq_true h; omega
  have hm := List.getElem_mem hlt
  have hat := Qh8 (p := digC) hlt
  have hge := getE hlt
  generalize x[i] = c at *
  refine ⟨c, by omega, hge, ?_⟩
  refine ⟨fun b H' => H = H' ∧ b = !digC c, ?_, ?_⟩
  ·refine ift.of (fun h => ⟨rfl, ?_⟩) (fun h => ?_)
   ·have h1 := of_decide_eq_true h
    unfold digC; rw [decide_eq_false (by omega)]; rfl
   ·have h1 := of_decide_eq_false h
    refine ⟨c, by omega, hge, rfl, ?_⟩
    unfold digC; rw [decide_eq_true (by omega : 48 ≤ c.toNat), Bool.true_and, ← decide_not, decide_eq_decide]; omega
  rintro b _ ⟨rfl, rfl⟩
  refine ift.of (fun h => ?_) (fun h => ?_)
  ·rw [Qm8 hm (by simpa using h)] at k; exact k
  ·rw [Qq (by omega) (by omega)]
   refine ⟨⟨i + 1, by omega, by omega, rfl, ?_⟩, by first | omega | (dsimp only; omega)⟩
   rw [hat, ha]; simpa using h
 ·have hie : i = x.length := by have := of_decide_eq_false h; omega
  rw [hie, List.take_length] at ha
  rw [ha] at k; exact k
theorem QiT {s : Str} {K : Int → Heap → Prop} (hs : s.length ≤ 140737488355328) (hn : numS s = true) (k : K (digits s) H) : QdM C s K H := by
 apply Qil
 unfold Qfg
 cases s with
 | nil => simp [numS, unmin] at hn
 | cons c t =>
  refine ⟨c, by omega, rfl, ?_⟩
  dsimp only
  rw [e45]
  unfold digits unmin at k
  refine ift.of (fun h => ?_) (fun h => ?_)
  ·have hc : c = 45 := of_decide_eq_true h
   rw [if_pos (by rw [hc]; rfl)] at k
   simp at hs
   rw [Qq (by simp only [List.length_cons]; omega) (by simp only [List.length_cons]; omega)]
   simpa using k
  ·rw [if_neg (by simpa using of_decide_eq_false h)] at k; exact k
end
end
section
open Go Go.Proofs
theorem QjJ (c : UInt8) : ∀ s : Str, (Lib.indexByte s c = -1 ∧ c ∉ s) ∨ ∃ k : Nat, Lib.indexByte s c = (k : Int) ∧ ∃ a b, s = a ++ c :: b ∧ a.length = k ∧ c ∉ a
 | [] => .inl ⟨rfl, by simp⟩
 | b :: s => by
  unfold Lib.indexByte
  by_cases h : b = c
  ·subst h
   exact .inr ⟨0, by simp, [], s, rfl, rfl, by simp⟩
  ·have hb : (b == c) = false := by simpa using h
   rw [hb]
   rcases QjJ c s with ⟨h1, h2⟩ | ⟨k, h1, a, d, h2, h3, h4⟩
   ·left
    rw [h1]
    refine ⟨by simp, by simp [h2, Ne.symm h]⟩
   ·right
    refine ⟨k + 1, ?_, b :: a, d, by rw [h2]; rfl, by simp [h3], by simp [h4, Ne.symm h]⟩
    rw [h1]
    have : ((k : Int) == -1) = false := by rw [beq_eq_false_iff_ne]; omega
    simp [this]
def setD (cs : List Value) (l : Str) : List Value := l.foldl (fun cs c => cs.set c.toNat (.bool true)) cs
def setD0 : List Value := List.replicate 256 (.bool false)
def digS : Str := [48, 49, 50, 51, 52, 53, 54, 55, 56, 57]
theorem QmI (l : Str) : ∀ cs, (setD cs l).length = cs.length := by
 induction l with
 | nil => intro cs; rfl
 | cons c l ih => intro cs; simp only [setD, List.foldl_cons] at ih ⊢; rw [ih]; simp
theorem Qn2 (l : Str) (c : UInt8) (cs : List Value) : setD cs (l ++ [c]) = (setD cs l).set c.toNat (.bool true) := by simp [setD]
theorem Qpf (l : Str) : ∀ cs : List Value, cs.all Value.oneCell' = true → (setD cs l).all Value.oneCell' = true := by
 induction l with
 | nil => intro cs h; exact h
 | cons c l ih =>
  intro cs h
  simp only [setD, List.foldl_cons] at ih ⊢
  refine ih _ ?_
  rw [List.all_eq_true] at h ⊢
  intro x hx
  rcases List.mem_or_eq_of_mem_set hx with hx | rfl
  ·exact h x hx
  ·rfl
theorem QoN : ∀ n : Nat, n < 256 → (match (setD setD0 digS)[n]? with | some (.bool b) => b == (decide (48 ≤ n) && decide (n ≤ 57)) | _ => false) = true := by decide +kernel
theorem QoM (c : UInt8) : (setD setD0 digS)[c.toNat]? = some (.bool (digC c)) := by
 have h := QoN c.toNat c.toBitVec.isLt
 unfold digC
 generalize (setD setD0 digS)[c.toNat]? = o at *
 cases o with
 | none => simp at h
 | some v => cases v <;> simp at h ⊢; exact h
section
variable {C : Ctx} {H : Heap}
theorem QhJ {s p : Str} {K : Bool → Heap → Prop} (k : K (p.isPrefixOf s) H) : QH C s p K H := by
 apply Qb3
 unfold QaF
 refine ⟨fun b H' => H = H' ∧ b = p.isPrefixOf s, ?_, ?_⟩
 ·refine ift.of (fun h => ?_) (fun h => ⟨rfl, ?_⟩)
  ·have hl : p.length ≤ s.length := by have := of_decide_eq_true h; omega
   refine ⟨by omega, by omega, by omega, s.take p.length, by simp, rfl, ?_⟩
   rw [Bool.eq_iff_iff, List.isPrefixOf_iff_prefix, beq_iff_eq, List.prefix_iff_eq_take]
   exact ⟨fun h => h.symm, fun h => h.symm⟩
  ·have hl := of_decide_eq_false h
   cases hh : p.isPrefixOf s with
   | false => rfl
   | true =>
    have := (List.isPrefixOf_iff_prefix.1 hh).length_le
    omega
 ·rintro b _ ⟨rfl, rfl⟩
  exact k
theorem QkV {s p : Str} {K : Str → Heap → Prop} (k : K (if p.isPrefixOf s then s.drop p.length else s) H) : QbC C s p K H := by
 apply QeV
 unfold QcF
 apply QbY
 unfold Qav
 refine QhJ ?_
 refine ift.of (fun h => ?_) (fun h => ?_)
 ·rw [if_pos h] at k
  have := (List.isPrefixOf_iff_prefix.1 h).length_le
  exact ⟨by omega, by omega, by omega, _, by simp, k⟩
 ·rw [if_neg (by rw [h]; decide)] at k; exact k
theorem Qni {s : Str} {K : Str → Str → Bool → Heap → Prop} (hs : s.length ≤ 140737488355328) (k : match cutD s with | some (a, b) => K a b true H | none => K s [] false H) : Qef C s [46] K H := by
 apply Qji
 unfold QfY
 apply Qc2
 unfold Qbp
 have key : ∀ {K : Int → Heap → Prop}, K (Lib.indexByte s 46) H → Qai C s [46] K H := by
  intro K k
  apply QcI
  unfold Qa3
  refine ift.of (fun h => ?_) (fun h => ?_)
  ·have hs : [46] = s := by simpa using h
   subst hs
   exact k
  ·refine QA rfl ⟨46, by omega, rfl, ?_⟩
   apply Qb4
   unfold QaG
   exact k
 refine key ?_
 rcases QjJ 46 s with ⟨h1, h2⟩ | ⟨i, h1, a, b, h2, h3, h4⟩
 ·rw [h1]
  rw [QiA s h2] at k
  exact Qt rfl k
 ·rw [h1]
  subst h2
  rw [Qiz a b h4] at k
  subst h3
  simp only [List.length_append, List.length_cons] at hs
  refine QA (by rw [decide_eq_true_eq]; omega) ?_
  refine ⟨by omega, by omega, by simp; omega, a, by simp, ?_⟩
  have e1 : (([46] : Str).length : Int) = 1 := rfl
  rw [e1, Qq (by omega) (by omega)]
  refine ⟨by omega, by simp; omega, by omega, b, ?_, k⟩
  have e2 : ((a.length : Int) + 1).toNat = a.length + 1 := by omega
  rw [List.take_of_length_le (by omega), e2, List.drop_append]
  simp
/-- the set of digits -/
def DSet (H : Heap) (b : Nat) : Prop := H b = some (true, .row (setD setD0 digS))
theorem Qiy {b : Nat} {c : UInt8} {K : Bool → Heap → Prop} (h : DSet H b) (k : K (digC c) H) : QY C (some (b, 0)) (c.toNat : Int) K H := by
 apply QcT
 unfold Qbh
 refine ⟨(b, 0), rfl, by omega, by have := c.toBitVec.isLt; have : c.toNat < 256 := this; omega, digC c, ?_, k⟩
 rw [QeG h]
 have := QoM c
 simpa using this
theorem QoV {b : Nat} {s : Str} {K : Str → Heap → Prop} (hs : s.length ≤ 140737488355328) (h : DSet H b) (k : ∀ t, t.length ≤ s.length → t.all digC = s.all digC → K t H) : QaJ C s (some (b, 0)) K H := by
 apply QdK
 unfold QbJ
 refine ⟨fun t H' => H = H' ∧ t.length ≤ s.length ∧ t.all digC = s.all digC, ?_, ?_⟩
 rotate_left
 ·rintro t _ ⟨rfl, h1, h2⟩
  exact k t h1 h2
 refine ⟨fun t H' => H = H' ∧ t.length ≤ s.length ∧ t.all digC = s.all digC, fun t _ => t.length, ⟨rfl, Nat.le_refl _, rfl⟩, ?_⟩
 rintro t _ ⟨rfl, h1, h2⟩
 refine ift.of (fun hh => ?_) (fun hh => ⟨rfl, h1, h2⟩)
 have hl : 0 < t.length := by have := of_decide_eq_true hh; omega
 have hne := List.ne_nil_of_length_pos hl
 have hd : t.dropLast ++ [t.getLast hne] = t := List.dropLast_concat_getLast hne
 rw [Qq (by omega) (by omega)]
 refine ⟨t.getLast hne, by omega, getL hl rfl, ?_⟩
 refine Qiy h ?_
 refine ift.of (fun hc => ⟨rfl, h1, h2⟩) (fun hc => ?_)
 have e1 : (t.take ((t.length : Int) - 1).toNat).drop (0 : Int).toNat = t.dropLast := by
  have : ((t.length : Int) - 1).toNat = t.length - 1 := by omega
  rw [this, List.dropLast_eq_take]; simp
 refine ⟨by omega, by omega, by omega, _, e1.symm, ?_⟩
 have hdl := List.length_dropLast (xs := t)
 refine ⟨⟨rfl, by omega, ?_⟩, by dsimp only; omega⟩
 rw [← h2]
 conv => rhs; rw [← hd]
 rw [List.all_append]
 simp at hc
 simp [hc]
theorem QoU {b : Nat} {s : Str} {K : Str → Heap → Prop} (hs : s.length ≤ 140737488355328) (h : DSet H b) (k : ∀ t, t.all digC = s.all digC → (t = [] ∨ t.all digC = false) → K t H) : QaW C s (some (b, 0)) K H := by
 apply Qd1
 unfold QbX
 refine ⟨fun t H' => H = H' ∧ t.all digC = s.all digC ∧ (t = [] ∨ t.all digC = false), ?_, ?_⟩
 rotate_left
 ·rintro t _ ⟨rfl, h1, h2⟩
  exact k t h1 h2
 refine ⟨fun t H' => H = H' ∧ t.length ≤ s.length ∧ t.all digC = s.all digC, fun t _ => t.length, ⟨rfl, Nat.le_refl _, rfl⟩, ?_⟩
 rintro t _ ⟨rfl, h1, h2⟩
 cases t with
 | nil => exact Qt rfl ⟨rfl, h2, .inl rfl⟩
 | cons c t =>
  refine QA (by rw [decide_eq_true_eq]; simp only [List.length_cons]; omega) ?_
  refine ⟨c, by omega, rfl, ?_⟩
  refine Qiy h ?_
  refine ift.of (fun hc => ⟨rfl, h2, .inr ?_⟩) (fun hc => ?_)
  ·simp at hc; simp [hc]
  ·refine ⟨by omega, by simp only [List.length_cons]; omega, by omega, t, ?_, ⟨rfl, by simp only [List.length_cons] at h1; omega, ?_⟩, by simp⟩
   ·rw [List.take_of_length_le (by omega)]; rfl
   ·rw [← h2]; simp at hc; simp [hc]
theorem Qkz {K : List Value → Bool → Heap → Prop} (k : K (setD setD0 digS) true H) : QE C digS K H := by
 apply QE.gh
 apply Qeb
 unfold Qcl
 intro b n
 refine ⟨fun x H' => ∃ i : Nat, x = (i : Int) ∧ i ≤ 10 ∧ H' = H.put b (.row (setD setD0 (digS.take i))), fun x _ => 10 - x.toNat, ⟨0, rfl, by omega, rfl⟩, ?_⟩
 rintro x _ ⟨i, rfl, hi, rfl⟩
 have hlen : (setD setD0 (digS.take i)).length = 256 := by rw [QmI]; simp [setD0]
 refine ift.of (fun h => ?_) (fun h => ?_)
 ·have hlt : i < digS.length := by have := of_decide_eq_true h; omega
  have hlt' : i < 10 := hlt
  refine ⟨digS[i], by omega, getE hlt, ?_⟩
  have hm : ∀ c ∈ digS, c.toNat < 128 := by decide
  have h128 := hm _ (List.getElem_mem hlt)
  have htk : digS.take (i + 1) = digS.take i ++ [digS[i]] := by rw [List.take_add_one, List.getElem?_eq_getElem hlt]; rfl
  generalize digS[i] = c at *
  refine Qt (by rw [decide_eq_false_iff_not]; omega) ?_
  refine ⟨by omega, by omega, _, Heap.put_same .., by rw [hlen]; simp; omega, ?_⟩
  rw [Qq (by omega) (by omega), Heap.put_put]
  refine ⟨⟨i + 1, by omega, by omega, ?_⟩, by first | omega | (dsimp only; omega)⟩
  rw [htk, Qn2]
  have : (b, 0).2 + (c.toNat : Int).toNat * 1 = c.toNat := by simp
  rw [this]
 ·have hi10 : i = 10 := by have := of_decide_eq_false h; have : digS.length = 10 := rfl; omega
  subst hi10
  have e : digS.take 10 = digS := rfl
  rw [e] at hlen ⊢
  have hr : ∀ {B : Heap}, B b = some (true, .row (setD setD0 digS)) → rds B (b, 0) (setD setD0 digS) := fun h => Qaf h fun j v hj => by simpa using hj
  refine ⟨_, hlen, hr (Heap.put_same ..), hlen, Qpf _ _ (by decide +kernel), _, Heap.put_same .., by simp, ?_⟩
  have esp : splice (setD setD0 digS) (b, 0).2 (setD setD0 digS) = setD setD0 digS := by
   unfold splice; simp
  rw [esp, Heap.put_put]
  exact ⟨_, hlen, hr (Heap.put_same ..), H, Gh.le (Heap.le_put n), k⟩
theorem Qm3 {s : Str} {K : Str → Heap → Prop} (hs : s.length ≤ 140737488355328) (k : ∀ t, (t = [] ↔ s.all digC = true) → K t H) : QaH C s digS K H := by
 apply QaH.gh
 apply Qio
 unfold Qfj
 refine ift.of (fun h => ?_) (fun h => ?_)
 ·have : s = [] := by simpa [digS] using h
  subst this
  exact ⟨H, Gh.refl _, k [] (by simp)⟩
 refine ⟨fun b H' => H = H' ∧ b = false, Qt rfl ⟨rfl, rfl⟩, ?_⟩
 rintro _ _ ⟨rfl, rfl⟩
 refine Qt rfl ?_
 refine Qkz ?_
 intro b n
 have hlen : (setD setD0 digS).length = 256 := by rw [QmI]; simp [setD0]
 refine ⟨hlen, Qpf _ _ (by decide +kernel), _, Heap.put_same .., by rw [hlen]; simp, ?_⟩
 have esp : splice (List.replicate 256 (.bool false : Value)) (b, 0).2 (setD setD0 digS) = setD setD0 digS := by
  unfold splice; simp [hlen]
 rw [esp, Heap.put_put]
 refine QA rfl ?_
 refine QoV hs (Heap.put_same ..) fun t ht1 ht2 => ?_
 refine QoU (by omega) (Heap.put_same ..) fun u hu1 hu2 => ?_
 refine ⟨H, Gh.le (Heap.le_put n), k u ?_⟩
 rw [← ht2, ← hu1]
 constructor
 ·rintro rfl; rfl
 ·intro h
  rcases hu2 with h2 | h2
  ·exact h2
  ·rw [h] at h2; cases h2
theorem Qi1 {s : Str} {K : Int → Bool → Heap → Prop} (hs : s.length ≤ 140737488355328) (k : K (if numS s then (digits s : Int) else 0) (numS s) H) : QdQ C s K H := by
 apply Qir
 unfold Qfm
 refine QkV ?_
 have e : (if ([45] : Str).isPrefixOf s then s.drop ([45] : Str).length else s) = unmin s := by
  unfold unmin
  cases s with
  | nil => rfl
  | cons c t =>
   by_cases hc : c = 45
   ·subst hc; simp [List.isPrefixOf]
   ·simp [List.isPrefixOf, hc, Ne.symm hc]
 rw [e]
 have hul : (unmin s).length ≤ s.length := by unfold unmin; split <;> simp
 have hdg : digits s = (unmin s).length := rfl
 have hnu : numS s = (!(unmin s).isEmpty && (unmin s).all digC && !(decide ((unmin s).head? = some 48) && decide (s ≠ [48]))) := rfl
 rw [hdg, hnu] at k
 clear hdg hnu e
 generalize unmin s = d at *
 refine ⟨fun b H' => H = H' ∧ b = !(!d.isEmpty && d.all digC), ?_, ?_⟩
 ·refine ift.of (fun h => ⟨rfl, ?_⟩) (fun h => ?_)
  ·have : d = [] := by simpa using h
   subst this; rfl
  ·have hne : d ≠ [] := by simpa using h
   refine Qm3 (by omega) fun t ht => ⟨rfl, ?_⟩
   have he : d.isEmpty = false := by cases d with
    | nil => exact absurd rfl hne
    | cons _ _ => rfl
   rw [he]
   cases hd : d.all digC with
   | true => rw [ht.2 hd]; rfl
   | false =>
    have : t ≠ [] := fun e => by rw [ht.1 e] at hd; cases hd
    simpa using this
 rintro b _ ⟨rfl, rfl⟩
 refine ⟨fun b H' => H = H' ∧ b = !(!d.isEmpty && d.all digC && !(decide (d.head? = some 48) && decide (s ≠ [48]))), ?_, ?_⟩
 ·refine ift.of (fun h => ⟨rfl, ?_⟩) (fun h => ?_)
  ·simp only [Bool.not_eq_true'] at h
   rw [h]; rfl
  ·simp only [Bool.not_eq_false'] at h
   rw [h]
   cases d with
   | nil => simp at h
   | cons c t =>
    refine ⟨c, by omega, rfl, rfl, ?_⟩
    rw [e48]
    simp only [List.head?_cons, Option.some.injEq, Bool.true_and, Bool.not_not]
    congr 1
    rw [decide_not]; congr 1
    rw [Bool.eq_iff_iff]; simp
 rintro b _ ⟨rfl, rfl⟩
 refine ift.of (fun h => ?_) (fun h => ?_)
 ·simp only [Bool.not_eq_true'] at h
  rw [h] at k; exact k
 ·simp only [Bool.not_eq_false'] at h
  rw [h] at k; exact k
end
end
section
open Go Go.Proofs
section
variable {C : Ctx} {H : Heap}
theorem sEmpty {s : Str} : (s == ([] : Str)) = s.isEmpty := by cases s <;> rfl
theorem lenZ {l : List V} {n : Nat} (h : n = l.length) (m : Nat) : ((n : Int) == (m : Int)) = decide (l.length = m) := by
 rw [Bool.eq_iff_iff]; simp only [beq_iff_eq, decide_eq_true_eq]; omega
theorem QkP {v : V} {x : TV} {H : Heap} {K : Bool → Heap → Prop} (hv : VIs H v x) (hB : VB v) (k : K (formV v) H) : QaB C x K H := by
 refine V.rec_ (P := fun v => ∀ {x H} {K : Bool → Heap → Prop}, VIs H v x → VB v → K (formV v) H → QaB C x K H) (fun v ih => ?_) v hv hB k
 clear hv hB k
 intro x H K hv hB k
 apply QaB.gh
 apply Qj8
 unfold Qg9
 intro b1 n1
 have hr := hv.row
 have hl := hr.len
 have hbl := hB.l
 have hbs := hB.s
 have hk := hv.kind
 have hn := hv.num
 have ht := hv.txt
 have hb1 : (H.put b1 (.row (Qb.c x))) b1 = some (true, .row (Qb.c x)) := Heap.put_same ..
 have hle1 := Heap.le_put n1 (g := .row (Qb.c x)) (m := true)
 generalize H.put b1 (.row (Qb.c x)) = H1 at *
 refine ⟨fun b H' => H1 = H' ∧ b = okN v.k v.n v.s v.l.length, ?_, ?_⟩
 rotate_left
 ·rintro b _ ⟨rfl, rfl⟩
  refine ⟨fun y H' => ∃ i : Nat, y.2 = (i : Int) ∧ i ≤ v.l.length ∧ H1 = H' ∧ (y.1 = true → okN v.k v.n v.s v.l.length = true ∧ formVs (v.l.take i) = true) ∧ (y.1 = false → formV v = false), fun y _ => v.l.length - y.2.toNat, ⟨0, rfl, Nat.zero_le _, rfl, fun h => ⟨h, rfl⟩, fun h => by dsimp only at h; rw [QcV, h]; rfl⟩, ?_⟩
  rintro ⟨f, y⟩ _ ⟨i, hy, hi, rfl, h1, h2⟩
  dsimp only at hy h1 h2
  subst hy
  refine bxL hb1 ?_
  rw [hl]
  refine ift.of (fun h => ?_) (fun h => ?_)
  ·simp only [Bool.and_eq_true, decide_eq_true_eq] at h
   have hlt : i < v.l.length := by omega
   obtain ⟨h3, h4⟩ := h1 h.2
   have hmem := List.getElem_mem hlt
   refine bxL hb1 ?_
   refine hr.ld hle1 rfl hlt fun z hz => ?_
   refine ih _ hmem (hz.le hle1) (hB.at hlt) ?_
   dsimp only
   rw [Qq (by omega) (by omega)]
   refine ⟨⟨i + 1, by omega, by omega, rfl, fun hf => ⟨h3, ?_⟩, fun hf => ?_⟩, by first | omega | (dsimp only; omega)⟩
   ·rw [QiB hlt, h4]; exact hf
   ·rw [QcV, Qe4 hmem hf, Bool.and_false]
  ·dsimp only
   refine ⟨H, Gh.le hle1, ?_⟩
   cases hf : f with
   | false => rw [h2 hf] at k; exact k
   | true =>
    rw [hf] at h
    simp only [Bool.and_true, decide_eq_false_iff_not] at h
    have hie : i = v.l.length := by omega
    subst hie
    obtain ⟨h3, h4⟩ := h1 hf
    rw [List.take_length] at h4
    rw [QcV, h3, h4] at k; exact k
 refine bxK hb1 ?_
 rw [hk]
 unfold okN
 refine ift.of (fun h => ?_) (fun h => ?_)
 ·have h : v.k = 1 := by simpa using h
  rw [if_pos h]
  refine bxN hb1 ?_
  refine ⟨fun b H' => H1 = H' ∧ b = (v.n == 0 || v.n == 1), ?_, ?_⟩
  ·rw [hn]
   refine ift.of (fun h => ⟨rfl, by rw [h]; rfl⟩) (fun h => ?_)
   refine bxN hb1 ⟨rfl, ?_⟩
   rw [h, hn]; rfl
  rintro _ _ ⟨rfl, rfl⟩
  refine ⟨fun b H' => H1 = H' ∧ b = ((v.n == 0 || v.n == 1) && v.s.isEmpty), ?_, ?_⟩
  ·refine ift.of (fun h => ?_) (fun h => ⟨rfl, by rw [h]; rfl⟩)
   refine bxS hb1 ⟨rfl, ?_⟩
   rw [h, ht, sEmpty]; rfl
  rintro _ _ ⟨rfl, rfl⟩
  refine ⟨fun b H' => H1 = H' ∧ b = ((v.n == 0 || v.n == 1) && v.s.isEmpty && decide (v.l.length = 0)), ?_, ?_⟩
  ·refine ift.of (fun h => ?_) (fun h => ⟨rfl, by rw [h]; rfl⟩)
   refine bxL hb1 ⟨rfl, ?_⟩
   rw [h]; exact lenZ hl 0
  rintro _ _ ⟨rfl, rfl⟩
  exact ⟨rfl, rfl⟩
 rw [if_neg (by simpa using h)]
 refine ift.of (fun h => ?_) (fun h => ?_)
 ·have h : v.k = 2 := by simpa using h
  rw [if_pos h]
  refine bxS hb1 ?_
  refine ⟨fun b H' => H1 = H' ∧ b = (v.s.isEmpty && decide (v.l.length = 0)), ?_, ?_⟩
  ·rw [ht, sEmpty]
   refine ift.of (fun h => ?_) (fun h => ⟨rfl, by rw [h]; rfl⟩)
   refine bxL hb1 ⟨rfl, ?_⟩
   rw [h]; exact lenZ hl 0
  rintro _ _ ⟨rfl, rfl⟩
  exact ⟨rfl, rfl⟩
 rw [if_neg (by simpa using h)]
 refine ift.of (fun h => ?_) (fun h => ?_)
 ·have h : v.k = 3 := by simpa using h
  rw [if_pos h]
  refine bxN hb1 ?_
  refine ⟨fun b H' => H1 = H' ∧ b = (v.n == 0 && decide (v.l.length = 0)), ?_, ?_⟩
  ·rw [hn]
   refine ift.of (fun h => ?_) (fun h => ⟨rfl, by rw [h]; rfl⟩)
   refine bxL hb1 ⟨rfl, ?_⟩
   rw [h]; exact lenZ hl 0
  rintro _ _ ⟨rfl, rfl⟩
  refine ⟨fun b H' => H1 = H' ∧ b = (numS v.s && v.n == 0 && decide (v.l.length = 0)), ?_, ?_⟩
  ·refine ift.of (fun h => ?_) (fun h => ⟨rfl, ?_⟩)
   ·refine bxS hb1 ?_
    rw [ht]
    refine QiU hbs ⟨rfl, ?_⟩
    rw [Bool.and_assoc, h, Bool.and_true]
   ·rw [Bool.and_assoc, h, Bool.and_false]
  rintro _ _ ⟨rfl, rfl⟩
  exact ⟨rfl, rfl⟩
 rw [if_neg (by simpa using h)]
 refine ift.of (fun h => ?_) (fun h => ?_)
 ·have h : v.k = 4 := by simpa using h
  rw [if_pos h]
  refine bxN hb1 ?_
  refine ⟨fun b H' => H1 = H' ∧ b = (v.n == 0 && decide (v.l.length = 0)), ?_, ?_⟩
  ·rw [hn]
   refine ift.of (fun h => ?_) (fun h => ⟨rfl, by rw [h]; rfl⟩)
   refine bxL hb1 ⟨rfl, ?_⟩
   rw [h]; exact lenZ hl 0
  rintro _ _ ⟨rfl, rfl⟩
  exact ⟨rfl, rfl⟩
 rw [if_neg (by simpa using h)]
 refine ift.of (fun h => ?_) (fun h => ?_)
 ·have h : v.k = 5 := by simpa using h
  rw [if_pos h]
  refine bxN hb1 ?_
  refine ⟨fun b H' => H1 = H' ∧ b = (v.n == 0 && v.s.isEmpty), ?_, ?_⟩
  ·rw [hn]
   refine ift.of (fun h => ?_) (fun h => ⟨rfl, by rw [h]; rfl⟩)
   refine bxS hb1 ⟨rfl, ?_⟩
   rw [h, ht, sEmpty]; rfl
  rintro _ _ ⟨rfl, rfl⟩
  refine ⟨fun b H' => H1 = H' ∧ b = (v.n == 0 && v.s.isEmpty && decide (v.l.length ≠ 1)), ?_, ?_⟩
  ·refine ift.of (fun h => ?_) (fun h => ⟨rfl, by rw [h]; rfl⟩)
   refine bxL hb1 ⟨rfl, ?_⟩
   rw [h, bne, show ((x.L.len : Int) == 1) = decide (v.l.length = 1) from lenZ hl 1, decide_not]; rfl
  rintro _ _ ⟨rfl, rfl⟩
  exact ⟨rfl, rfl⟩
 rw [if_neg (by simpa using h)]
 refine ift.of (fun h => ?_) (fun h => ?_)
 ·have h : v.k = 6 := by simpa using h
  rw [if_pos h]
  refine bxN hb1 ?_
  refine ⟨fun b H' => H1 = H' ∧ b = (v.n == 0 && namesS v.s), ?_, ?_⟩
  ·rw [hn]
   refine ift.of (fun h => ?_) (fun h => ⟨rfl, by rw [h]; rfl⟩)
   refine bxS hb1 ?_
   rw [ht]
   refine QjE hbs ⟨rfl, ?_⟩
   rw [h]; rfl
  rintro _ _ ⟨rfl, rfl⟩
  exact ⟨rfl, rfl⟩
 rw [if_neg (by simpa using h)]
 exact ⟨rfl, rfl⟩
theorem QiE {k n : Int} {s : Str} {m : Nat} (h : okN k n s m = true) (hk : k = 3) : numS s = true := by
 unfold okN at h
 rw [if_neg (by omega), if_neg (by omega), if_pos hk] at h
 simp only [Bool.and_eq_true] at h
 exact h.1.1
theorem QkO {v : V} {x : TV} {H : Heap} {K : Bool → Heap → Prop} (hv : VIs H v x) (hB : VB v) (hF : formV v = true) (k : K (fitsV v) H) : QaA C x K H := by
 refine V.rec_ (P := fun v => ∀ {x H} {K : Bool → Heap → Prop}, VIs H v x → VB v → formV v = true → K (fitsV v) H → QaA C x K H) (fun v ih => ?_) v hv hB hF k
 clear hv hB hF k
 intro x H K hv hB hF k
 apply QaA.gh
 apply Qj7
 unfold Qg8
 intro b1 n1
 have hr := hv.row
 have hl := hr.len
 have hbl := hB.l
 have hbs := hB.s
 have hk := hv.kind
 have hn := hv.num
 have ht := hv.txt
 rw [QcV, Bool.and_eq_true] at hF
 have hb1 : (H.put b1 (.row (Qb.c x))) b1 = some (true, .row (Qb.c x)) := Heap.put_same ..
 have hle1 := Heap.le_put n1 (g := .row (Qb.c x)) (m := true)
 generalize H.put b1 (.row (Qb.c x)) = H1 at *
 refine ⟨fun b H' => H1 = H' ∧ b = fitN v.k v.s v.l.length, ?_, ?_⟩
 rotate_left
 ·rintro b _ ⟨rfl, rfl⟩
  refine ⟨fun y H' => ∃ i : Nat, y.2 = (i : Int) ∧ i ≤ v.l.length ∧ H1 = H' ∧ (y.1 = true → fitN v.k v.s v.l.length = true ∧ fitsVs (v.l.take i) = true) ∧ (y.1 = false → fitsV v = false), fun y _ => v.l.length - y.2.toNat, ⟨0, rfl, Nat.zero_le _, rfl, fun h => ⟨h, rfl⟩, fun h => by dsimp only at h; rw [QgA, h]; rfl⟩, ?_⟩
  rintro ⟨f, y⟩ _ ⟨i, hy, hi, rfl, h1, h2⟩
  dsimp only at hy h1 h2
  subst hy
  refine bxL hb1 ?_
  rw [hl]
  refine ift.of (fun h => ?_) (fun h => ?_)
  ·simp only [Bool.and_eq_true, decide_eq_true_eq] at h
   have hlt : i < v.l.length := by omega
   obtain ⟨h3, h4⟩ := h1 h.2
   have hmem := List.getElem_mem hlt
   refine bxL hb1 ?_
   refine hr.ld hle1 rfl hlt fun z hz => ?_
   refine ih _ hmem (hz.le hle1) (hB.at hlt) (Qc1 hmem hF.2) ?_
   dsimp only
   rw [Qq (by omega) (by omega)]
   refine ⟨⟨i + 1, by omega, by omega, rfl, fun hf => ⟨h3, ?_⟩, fun hf => ?_⟩, by first | omega | (dsimp only; omega)⟩
   ·rw [Qgg hlt, h4]; exact hf
   ·have h5 : fitsVs (v.l.take (i + 1)) = false := by rw [Qgg hlt]; rw [hf, Bool.and_false]
    have h6 := Qem (v.l.take (i + 1)) (v.l.drop (i + 1))
    rw [List.take_append_drop, h5] at h6
    rw [QgA, h6]; simp
  ·dsimp only
   refine ⟨H, Gh.le hle1, ?_⟩
   cases hf : f with
   | false => rw [h2 hf] at k; exact k
   | true =>
    rw [hf] at h
    simp only [Bool.and_true, decide_eq_false_iff_not] at h
    have hie : i = v.l.length := by omega
    subst hie
    obtain ⟨h3, h4⟩ := h1 hf
    rw [List.take_length] at h4
    rw [QgA, h3, h4] at k; exact k
 refine bxK hb1 ?_
 rw [hk]
 unfold fitN
 refine ift.of (fun h => ?_) (fun h => ?_)
 ·have h : v.k = 3 := by simpa using h
  rw [if_pos h]
  refine bxS hb1 ?_
  rw [ht]
  refine QiT hbs (QiE hF.1 h) ⟨rfl, ?_⟩
  rw [decide_eq_decide]; omega
 rw [if_neg (by simpa using h)]
 refine ift.of (fun h => ?_) (fun h => ?_)
 ·have h : v.k = 4 := by simpa using h
  rw [if_pos h]
  refine bxS hb1 ⟨rfl, ?_⟩
  rw [ht, decide_eq_decide]; omega
 rw [if_neg (by simpa using h)]
 refine ift.of (fun h => ?_) (fun h => ?_)
 ·have h : v.k = 5 := by simpa using h
  rw [if_pos h]
  refine bxL hb1 ⟨rfl, ?_⟩
  rw [decide_eq_decide]; omega
 rw [if_neg (by simpa using h)]
 refine ift.of (fun h => ?_) (fun h => ?_)
 ·have h : v.k = 6 := by simpa using h
  rw [if_pos h]
  refine bxL hb1 ⟨rfl, ?_⟩
  rw [decide_eq_decide]; omega
 rw [if_neg (by simpa using h)]
 exact ⟨rfl, rfl⟩
theorem QjC {v : V} {x : TV} {H : Heap} {K : Int → Heap → Prop} (hv : VIs H v x) (hB : VB v) (hs : vsize v ≤ 4611686018427387904) (k : K (checkV v) H) : QaR C x K H := by
 apply QaR.gh
 apply Qjb
 unfold QfR
 intro b1 n1
 have hb1 : (H.put b1 (.row (Qb.c x))) b1 = some (true, .row (Qb.c x)) := Heap.put_same ..
 have hle1 := Heap.le_put n1 (g := .row (Qb.c x)) (m := true)
 generalize H.put b1 (.row (Qb.c x)) = H1 at *
 unfold checkV at k
 refine bxV hb1 (QjD (hv.le hle1) hB hs ?_)
 refine ift.of (fun h => ?_) (fun h => ?_)
 ·have h := of_decide_eq_true h
  rw [if_pos (by omega)] at k
  exact ⟨H, Gh.le hle1, k⟩
 have h := of_decide_eq_false h
 rw [if_neg (by omega)] at k
 refine bxV hb1 (QkP (hv.le hle1) hB ?_)
 refine ift.of (fun h => ?_) (fun h => ?_)
 ·have h : formV v = false := by simpa using h
  rw [if_pos h] at k
  exact ⟨H, Gh.le hle1, k⟩
 have hf : formV v = true := by simpa using h
 rw [if_neg (by rw [hf]; decide)] at k
 refine bxV hb1 (QkO (hv.le hle1) hB hf ?_)
 refine ift.of (fun h => ?_) (fun h => ?_)
 ·have h : fitsV v = false := by simpa using h
  rw [if_pos h] at k
  exact ⟨H, Gh.le hle1, k⟩
 have hf : fitsV v = true := by simpa using h
 rw [if_neg (by rw [hf]; decide)] at k
 exact ⟨H, Gh.le hle1, k⟩
end
end
end Sx
end
