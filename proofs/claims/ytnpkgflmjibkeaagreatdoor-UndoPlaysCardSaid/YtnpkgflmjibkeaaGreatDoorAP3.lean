/-
  Texts of this family, one behind the other: Sh2.
-/
import Derived.Test.YtnpkgflmjibkeaaGreatDoorAP2
noncomputable section
set_option linter.unusedVariables false
set_option linter.unusedSimpArgs false
set_option maxRecDepth 10000
namespace Sx
section
set_option maxRecDepth 100000
open Go Go.Proofs
def Qed (C : Ctx) (p_l : Option (Nat × Nat)) (K : Int → Heap → Prop) (H : Heap) : Prop :=
 ift (Option.isNone p_l)
 (K 0 H)
 (nck p_l fun p2 =>
 ldL H (p2.1, p2.2 + 1) fun x4 =>
 K (Sl.len x4 : Int) H)
theorem Qg2 (C p_l K H) (h : Qed C p_l K H) : QS C p_l K H := by
 refine Ye Tryz.func12 rfl Tryz.ntmps12 [(0, pv p_l)] (Zo (Za (GL.nil (GC.seq (Zo (Zm (Zv (OV.eqlNil (p := p_l) rfl rfl rfl) (GL.nil (Yd h (fun u1 h => ?_) fun u1 h => ?_)))))))))
 refine Zo (Za (GL.nil ?_))
 exact Y1 I3 ⟨0, rfl, h⟩
 refine GC.skip (Zo (Zm ?_))
 obtain ⟨p2, hp3, h⟩ := h
 refine Zv (OV.nilCheck (q := p_l) rfl hp3) (Zf (Yl h fun x4 h => ?_))
 refine Zq (Za (GL.nil ?_))
 exact Y1 I3 ⟨(Sl.len x4 : Int), rfl, h⟩
def Qdx (C : Ctx) (p_l : Option (Nat × Nat)) (p_mark : Int) (K : Sl → Int → Heap → Prop) (H : Heap) : Prop :=
 Qbk C p_l p_mark (fun r1 H2 =>
 ift ((r1 : Int) != 0)
 (K Sl.nil r1 H2)
 (mkM (fun b4 H5 =>
 nck p_l fun p6 =>
 ldL H5 (p6.1, p6.2 + 1) fun x8 =>
 slL x8 p_mark (Sl.len x8 : Int) (Sl.cap x8 : Int) 4 fun t10 =>
 lp (α := Int) 0 H5 (fun x16 J17 H18 =>
 ift (decide ((x16 : Int) < (Sl.len t10 : Int)))
 (jn (α := Unit) (fun x21 H22 =>
 J17 (w .i64 (x16 + 1)) H22)
 (fun J20 => ixa t10 x16 fun p24 =>
 ldT H18 Qd.c (p24.1, p24.2 + (x16 : Int).toNat * 4) fun x29 =>
 nw (Qd.c Qd.zero) (fun b31 H32 =>
 (List.all (Qd.c x29) Value.oneCell' = true) ∧
 stT (b31, 0) (Qd.c x29) (fun H33 =>
 ldS H33 ((b31, 0).1, (b31, 0).2 + 0) fun x35 =>
 ldS H33 ((b31, 0).1, (b31, 0).2 + 1) fun x37 =>
 nw (Qg.c Qg.zero) (fun b39 H40 =>
 stT (b39, 0) (Qg.c (⟨x35, x37⟩ : Qg)) (fun H41 =>
 ldT H41 Qg.c (b39, 0) fun x42 =>
 lkM kp (fun x : Sl => (slv x : Value)) Sl.nil (some b4) (x42.rel_, x42.key_) (fun x44 is45 =>
 ift is45
 (ldT H41 Qg.c (b39, 0) fun x48 =>
 delS kp (fun x : Sl => (slv x : Value)) (some b4) (x48.rel_, x48.key_) (fun H50 =>
 J20 () H50) H41)
 (ldT H41 Qg.c (b39, 0) fun x51 =>
 ldL H41 ((b31, 0).1, (b31, 0).2 + 2) fun x53 =>
 upS kp (fun x : Sl => (slv x : Value)) (some b4) (x51.rel_, x51.key_) x53 (fun H55 =>
 J20 () H55) H41)) H41) H40) H33) H32) H18))
 (rgM kp (fun x : Sl => (slv x : Value)) (some b4) (fun b56 H57 =>
 lp (α := Sl) Sl.nil H57 (fun x58 J59 H60 =>
 nxB kp (fun x : Sl => (slv x : Value)) b56 (fun b61 H62 =>
 ift b61
 (enM kp (fun x : Sl => (slv x : Value)) b56 (fun k64 x65 =>
 nw (Qg.c Qg.zero) (fun b67 H68 =>
 stT (b67, 0) (Qg.c (⟨k64.1, k64.2⟩ : Qg)) (fun H69 =>
 jn (α := Nat × Nat) (fun x71 H72 =>
 jn (α := Unit) (fun x93 H94 =>
 ldT H94 Qc.c x71 fun x112 =>
 apd (Qc.c Qc.zero) 48 x58 ((Qc.c x112) ++ []) 1 (fun r114 H115 =>
 J59 r114 H115) H94)
 (fun J92 => nck p_l fun p96 =>
 ldM H72 (p96.1, p96.2 + 0) fun x98 =>
 ldS H72 ((b67, 0).1, (b67, 0).2 + 0) fun x100 =>
 lkM sv (fun x : Option Nat => (mv x : Value)) none x98 x100 (fun x102 is103 =>
 ldS H72 ((b67, 0).1, (b67, 0).2 + 1) fun x105 =>
 lkM sv (fun x : Sl => (slv x : Value)) Sl.nil x102 x105 (fun x107 is108 =>
 ift is108
 (st (x71.1, x71.2 + 2) (.int .i64 1) (fun H111 =>
 J92 () H111) H72)
 (J92 () H72)) H72) H72))
 (fun J70 => dr H69 fun Hs74 =>
 ldS Hs74 ((b67, 0).1, (b67, 0).2 + 0) fun x76 =>
 (QaD C x65 (fun r79 H80 =>
 Heap.le Hs74 H80 ∧
 nw (Qc.c Qc.zero) (fun b82 H83 =>
 Heap.le Hs74 H83 ∧
 stT (b82, 0) (Qc.c (⟨(⟨x76, r79⟩ : Qb), (-1)⟩ : Qc)) (fun H84 =>
 J70 (b82, 0) H84) H83) H80) H69) ∧
 (nw (Qc.c Qc.zero) (fun b86 H87 =>
 Heap.le Hs74 H87 ∧
 QaD C x65 (fun r89 H90 =>
 Heap.le Hs74 H90 ∧
 stT (b86, 0) (Qc.c (⟨(⟨x76, r89⟩ : Qb), (-1)⟩ : Qc)) (fun H91 =>
 J70 (b86, 0) H91) H90) H87) H69))) H68) H62) H62)
 (QR C x58 (.func (.func 34) (List.toArray []) (List.toArray []) : Value) (fun H116 =>
 K x58 0 H116) H62)) H60)) H18))) H2)) H
theorem Qgq (C p_l p_mark K H) (h : Qdx C p_l p_mark K H) : QW C p_l p_mark K H := by
 refine Ye Tryz.func13 rfl Tryz.ntmps13 [(0, pv p_l), (1, .int .i64 p_mark)] (Zo (Za (Za (GL.nil (GC.seq (Zo (Zm (Zm (Zc h Qdq ?_)))))))))
 rintro _ H2 ⟨r1, rfl, h⟩
 refine Za (GL.nil (Zo (Zm (Zi (.bool ((r1 : Int) != 0)) (GL.nil (Yd h (fun u3 h => ?_) fun u3 h => ?_))))))
 refine Zo (Zm (Za (Za (GL.nil ?_))))
 exact Y2 I3 ⟨Sl.nil, r1, rfl, h⟩
 refine GC.skip (Zo (GL.makeMap h trivial rfl ?_))
 intro b4 H5 h
 refine Za (GL.nil (GC.seq (Zo (Zm ?_))))
 obtain ⟨p6, hp7, h⟩ := h
 refine Zv (OV.nilCheck (q := p_l) rfl hp7) (Zf (Yl h fun x8 h => ?_))
 refine Zm ?_
 obtain ⟨h11, h12, h13, h14, t10, h15, h⟩ := h
 refine Zv (OV.sliceSl (s := x8) h11 h12 h13 h14 h15 rfl rfl rfl rfl rfl rfl rfl (fun h => by first | rfl | cases h) rfl rfl) (Zq (Zm (GL.nil (GC.block (Yp h (fun x16 => [(33, .int .i64 x16), (0, pv p_l), (7, mv (some b4)), (31, slv t10), (32, .int .i64 (Sl.len t10 : Int))]) ?_)))))
 intro x16 H18 J17 h
 refine Zo (Zi (.bool (decide ((x16 : Int) < (Sl.len t10 : Int)))) (GL.nil (GC.seq (Yd h (fun u19 h => ?_) fun u19 h => ?_))))
 refine GC.skip ?_
 obtain ⟨J20, h, hR23⟩ := h
 refine GC.join (α := Unit) J20 (fun _ => [(0, pv p_l), (7, mv (some b4)), (31, slv t10), (32, .int .i64 (Sl.len t10 : Int)), (33, .int .i64 x16)]) ?_ ?_
 refine GC.block (Zo (Yx h fun p24 h => ?_))
 obtain ⟨x29, v30, h⟩ := h
 refine Zv (OV.loadT rfl rfl rfl v30) (GL.alloc (cs := Qd.c Qd.zero) h trivial rfl rfl rfl ?_)
 intro b31 H32 h
 obtain ⟨h134, h⟩ := h
 refine GL.storeT (p := (b31, 0)) (vs := Qd.c x29) h trivial rfl rfl h134 rfl ?_
 intro H33 h
 refine GL.nil (Zo (Zf (Yl h fun x35 h => ?_)))
 refine Zf (Yl h fun x37 h => ?_)
 refine Zv (OV.build (vs := [(0, sv x35), (1, sv x37)]) (v := .agg (Qg.c (⟨x35, x37⟩ : Qg)).toArray) rfl (fun _ => by kernel_rfl)) (GL.alloc (cs := Qg.c Qg.zero) h trivial rfl rfl rfl ?_)
 intro b39 H40 h
 refine GL.storeT (p := (b39, 0)) (vs := Qg.c (⟨x35, x37⟩ : Qg)) h trivial rfl rfl rfl rfl ?_
 intro H41 h
 refine GL.nil (Zo (Zm ?_))
 obtain ⟨x42, v43, h⟩ := h
 refine Zv (OV.loadT rfl rfl rfl v43) ?_
 obtain ⟨x44, is45, v46, h⟩ := h
 refine Zv (OV.lookup2 (v := .tuple #[slv x44, .bool is45]) (ke := kp) (enc := (fun x : Sl => (slv x : Value))) (z := Sl.nil) (q := (some b4)) (k := (x42.rel_, x42.key_)) (x := x44) (b := is45) rfl v46 rfl rfl rfl kOk71 rfl) (Zm (Yv (slv x44) rfl rfl (Yv (.bool is45) rfl rfl (Za (Za (GL.nil (Zo (Zm (GL.nil (Yd h (fun u47 h => ?_) fun u47 h => ?_))))))))))
 refine GC.region (Zm ?_)
 obtain ⟨x48, v49, h⟩ := h
 refine Zv (OV.loadT rfl rfl rfl v49) (GL.deleteM (ke := kp) (enc := (fun x : Sl => (slv x : Value))) (q := (some b4)) (k := (x48.rel_, x48.key_)) h trivial rfl rfl rfl kOk71 ?_)
 intro H50 h
 exact Yj I3 () h
 refine GC.region (Zm ?_)
 obtain ⟨x51, v52, h⟩ := h
 refine Zv (OV.loadT rfl rfl rfl v52) (Zf (Yl h fun x53 h => ?_))
 refine GL.mapUpdateS (ke := kp) (enc := (fun x : Sl => (slv x : Value))) (q := (some b4)) (k := (x51.rel_, x51.key_)) (x := x53) h trivial rfl rfl rfl rfl kOk71 ?_
 intro H55 h
 exact Yj I3 () h
 intro x21 H22 h
 replace h := hR23 x21 H22 h
 refine GC.region (Zi (.int .i64 (w .i64 (x16 + 1))) (Zm ?_))
 exact Yj I3 (w .i64 (x16 + 1)) h
 refine GC.exit_to (fun _ _ h => h) (Zo (Za (GL.nil (GC.seq (Zo (Zm (GL.rangeQ (ke := kp) (enc := (fun x : Sl => (slv x : Value))) (q := (some b4)) h trivial rfl rfl rfl kOk71 ?_)))))))
 intro b56 H57 h
 refine GL.nil (GC.block (Yp h (fun x58 => [(13, slv x58), (0, pv p_l), (57, pv (some (b56, 0)))]) ?_))
 intro x58 H60 J59 h
 refine Zo (GL.nextB (ke := kp) (enc := (fun x : Sl => (slv x : Value))) (it := b56) h trivial rfl rfl rfl rfl rfl ?_)
 intro b61 H62 h
 refine GL.nil (GC.seq (Yd h (fun u63 h => ?_) fun u63 h => ?_))
 refine GC.skip (GC.block (Zo ?_))
 obtain ⟨k64, x65, v66, h⟩ := h
 refine Zv (OV.entryM (ke := kp) (enc := (fun x : Sl => (slv x : Value))) (it := b56) (k := k64) (x := x65) (v := .tuple #[kp k64, slv x65]) rfl v66 rfl) (Yv (.agg (Qg.c (⟨k64.1, k64.2⟩ : Qg)).toArray) rfl rfl (Yv (slv x65) rfl rfl (GL.alloc (cs := Qg.c Qg.zero) h trivial rfl rfl rfl ?_)))
 intro b67 H68 h
 refine GL.storeT (p := (b67, 0)) (vs := Qg.c (⟨k64.1, k64.2⟩ : Qg)) h trivial rfl rfl rfl rfl ?_
 intro H69 h
 refine Za (GL.nil (GC.seq ?_))
 obtain ⟨J70, h, hR73⟩ := h
 refine GC.meet (α := Nat × Nat) J70 (fun x71 => [(16, pv (some x71)), (0, pv p_l), (13, slv x58), (14, pv (some (b67, 0))), (57, pv (some (b56, 0)))]) ?_ ?_
 obtain ⟨Hs74, hle75, h⟩ := h
 refine GC.tail (Hs := Hs74) 7 (by kernel_rfl) hle75 (by kernel_rfl) (Zy 0 rfl Yf ?_)
 obtain ⟨x76, v77, h⟩ := h
 refine Zy 1 rfl (Yo v77) (Zy 2 rfl Ym (GT.effs [3, 6] (by kernel_rfl) (by simp) (List.forall_mem_cons.2 ⟨⟨_, rfl, rfl, ?_⟩, List.forall_mem_cons.2 ⟨⟨_, rfl, rfl, ?_⟩, fun _ h => by cases h⟩⟩)))
 replace h := h.1
 refine Zc h QcF ?_
 rintro _ H80 ⟨r79, rfl, h⟩
 obtain ⟨hle78, h⟩ := h
 refine GT.back hle78 (Zy 4 rfl (OV.build (vs := [(0, sv x76), (1, slv r79)]) (v := .agg (Qb.c (⟨x76, r79⟩ : Qb)).toArray) rfl (fun _ => by kernel_rfl)) (Zy 5 rfl (OV.build (vs := [(0, .agg (Qb.c (⟨x76, r79⟩ : Qb)).toArray), (1, .int .i64 (-1))]) (v := .agg (Qc.c (⟨(⟨x76, r79⟩ : Qb), (-1)⟩ : Qc)).toArray) rfl (fun _ => by kernel_rfl)) (GT.eff 6 rfl (by kernel_rfl) rfl (GL.alloc (cs := Qc.c Qc.zero) h trivial rfl rfl rfl ?_))))
 intro b82 H83 h
 obtain ⟨hle81, h⟩ := h
 refine GT.back hle81 (GT.done (by kernel_rfl) ?_)
 show GL _ _ _ _ _ [_] _ _
 refine GL.storeT (p := (b82, 0)) (vs := Qc.c (⟨(⟨x76, r79⟩ : Qb), (-1)⟩ : Qc)) h trivial rfl rfl rfl rfl ?_
 intro H84 h
 exact Yj I3 (b82, 0) h
 replace h := h.2
 refine GL.alloc (cs := Qc.c Qc.zero) h trivial rfl rfl rfl ?_
 intro b86 H87 h
 obtain ⟨hle85, h⟩ := h
 refine GT.back hle85 (GT.eff 3 rfl (by kernel_rfl) rfl (Zc h QcF ?_))
 rintro _ H90 ⟨r89, rfl, h⟩
 obtain ⟨hle88, h⟩ := h
 refine GT.back hle88 (Zy 4 rfl (OV.build (vs := [(0, sv x76), (1, slv r89)]) (v := .agg (Qb.c (⟨x76, r89⟩ : Qb)).toArray) rfl (fun _ => by kernel_rfl)) (Zy 5 rfl (OV.build (vs := [(0, .agg (Qb.c (⟨x76, r89⟩ : Qb)).toArray), (1, .int .i64 (-1))]) (v := .agg (Qc.c (⟨(⟨x76, r89⟩ : Qb), (-1)⟩ : Qc)).toArray) rfl (fun _ => by kernel_rfl)) (GT.done (by kernel_rfl) ?_)))
 show GL _ _ _ _ _ [_] _ _
 refine GL.storeT (p := (b86, 0)) (vs := Qc.c (⟨(⟨x76, r89⟩ : Qb), (-1)⟩ : Qc)) h trivial rfl rfl rfl rfl ?_
 intro H91 h
 exact Yj I3 (b86, 0) h
 intro x71 H72 h
 replace h := hR73 x71 H72 h
 refine GL.nil ?_
 obtain ⟨J92, h, hR95⟩ := h
 refine GC.join (α := Unit) J92 (fun _ => [(0, pv p_l), (13, slv x58), (16, pv (some x71)), (57, pv (some (b56, 0)))]) ?_ ?_
 refine GC.seq (GC.draw (by kernel_rfl) (by kernel_rfl) (GQ.val trivial rfl (OV.move (v := pv p_l) rfl) ?_))
 obtain ⟨p96, hp97, h⟩ := h
 refine GQ.val trivial rfl (OV.nilCheck (q := p_l) rfl hp97) (GQ.val trivial rfl (OV.fieldAddr (p := p96) rfl rfl) ?_)
 obtain ⟨x98, v99, h⟩ := h
 refine GQ.val trivial rfl (OV.load (p := (p96.1, p96.2 + 0)) rfl rfl v99) (GQ.val trivial rfl (OV.fieldAddr (p := (b67, 0)) rfl rfl) ?_)
 obtain ⟨x100, v101, h⟩ := h
 refine GQ.val trivial rfl (OV.load (p := ((b67, 0).1, (b67, 0).2 + 0)) rfl rfl v101) ?_
 obtain ⟨x102, is103, v104, h⟩ := h
 refine GQ.val trivial rfl (OV.lookup1 (v := mv x102) (ke := sv) (enc := (fun x : Option Nat => (mv x : Value))) (z := none) (q := x98) (k := x100) (x := x102) (b := is103) rfl v104 rfl rfl rfl (kText rfl) rfl) (GQ.val trivial rfl (OV.fieldAddr (p := (b67, 0)) rfl rfl) ?_)
 obtain ⟨x105, v106, h⟩ := h
 refine GQ.val trivial rfl (OV.load (p := ((b67, 0).1, (b67, 0).2 + 1)) rfl rfl v106) ?_
 obtain ⟨x107, is108, v109, h⟩ := h
 refine GQ.val trivial rfl (OV.lookup2 (v := .tuple #[slv x107, .bool is108]) (ke := sv) (enc := (fun x : Sl => (slv x : Value))) (z := Sl.nil) (q := x102) (k := x105) (x := x107) (b := is108) rfl v109 rfl rfl rfl (kText rfl) rfl) (GQ.val trivial rfl (OV.move (v := .tuple #[slv x107, .bool is108]) rfl) (GQ.val trivial rfl (OV.extract (v := slv x107) rfl rfl) (GQ.val trivial rfl (OV.extract (v := .bool is108) rfl rfl) (GQ.val trivial rfl (OV.assign (v := slv x107) rfl) (GQ.val trivial rfl (OV.assign (v := .bool is108) rfl) (GQ.nil (GL.nil (Zo (Zm (GL.nil (Yd h (fun u110 h => ?_) fun u110 h => ?_)))))))))))
 refine GC.region (Zf (GL.store (p := (x71.1, x71.2 + 2)) (v := .int .i64 1) h trivial rfl rfl rfl rfl ?_))
 intro H111 h
 exact Yj I3 () h
 exact Yk I3 () h
 intro x93 H94 h
 replace h := hR95 x93 H94 h
 refine GC.region (Zm ?_)
 obtain ⟨x112, v113, h⟩ := h
 refine Zv (OV.loadT rfl rfl rfl v113) (GL.appendLit (s := x58) (ys := (Qc.c x112) ++ []) (zc := Qc.c Qc.zero) (bytes := 48) h trivial rfl (fun _ => trivial) rfl (fun _ => rfl) (fun _ => rfl) (vs := [(0, .agg (Qc.c x112).toArray)]) rfl ⟨43, fun _ => by kernel_rfl⟩ ⟨⟨_, _, _, rfl, rfl, rfl, rfl, rfl, rfl⟩⟩ rfl rfl ?_)
 intro _ r114 H115 h
 refine Za ?_
 exact Yj I3 r114 h
 refine GC.exit_to (fun _ _ h => h) (Zo (Zm (Zc h QaQ ?_)))
 rintro _ H116 ⟨rfl, h⟩
 refine GL.nil (Zo (Zm (Za (Za (GL.nil ?_)))))
 exact Y2 I3 ⟨x58, 0, rfl, h⟩
def QeF (C : Ctx) (p_l : Option (Nat × Nat)) (p_r : Qb) (K : Bool → Int → Heap → Prop) (H : Heap) : Prop :=
 nw ([pv p_l]) (fun b1 H2 =>
 nw (Qb.c p_r) (fun b3 H4 =>
 ldP H4 (b1, 0) fun x5 =>
 ift (Option.isNone x5)
 (K false 2 H4)
 (ldL H4 ((b3, 0).1, (b3, 0).2 + 1) fun x8 =>
 Qdj C x8 (fun r10 r11 H12 =>
 nw ([sv []]) (fun b13 H14 =>
 st (b13, 0) (sv r10) (fun H15 =>
 ift (!r11)
 (K false 4 H15)
 (ldP H15 (b1, 0) fun x17 =>
 nck x17 fun p19 =>
 ldM H15 (p19.1, p19.2 + 0) fun x21 =>
 ldS H15 ((b3, 0).1, (b3, 0).2 + 0) fun x23 =>
 lkM sv (fun x : Option Nat => (mv x : Value)) none x21 x23 (fun x25 is26 =>
 ldS H15 (b13, 0) fun x28 =>
 lkM sv (fun x : Sl => (slv x : Value)) Sl.nil x25 x28 (fun x30 is31 =>
 ift is31
 (K false 0 H15)
 (ldL H15 ((b3, 0).1, (b3, 0).2 + 1) fun x34 =>
 QaD C x34 (fun r36 H37 =>
 ldP H37 (b1, 0) fun x38 =>
 ldS H37 ((b3, 0).1, (b3, 0).2 + 0) fun x40 =>
 ldS H37 (b13, 0) fun x42 =>
 Qco C x38 x40 x42 r36 (fun H44 =>
 dr H44 fun Hs45 =>
 ldP Hs45 (b1, 0) fun x47 =>
 ldP Hs45 (b1, 0) fun x49 =>
 nck x49 fun p51 =>
 ldL Hs45 (p51.1, p51.2 + 1) fun x53 =>
 ldS Hs45 ((b3, 0).1, (b3, 0).2 + 0) fun x55 =>
 ldS Hs45 (b13, 0) fun x57 =>
 nw ((Qd.c (⟨x55, x57, r36, (.func (.func 40) (List.toArray []) (List.toArray [pv (some (b1, 0)), pv (some (b3, 0)), pv (some (b13, 0))]) : Value)⟩ : Qd)) ++ []) (fun b60 H61 =>
 Heap.le Hs45 H61 ∧
 apS (Qd.c Qd.zero) 64 x53 (Sl.of (some (b60, 0)) 1 1) (fun r63 H64 =>
 Heap.le Hs45 H64 ∧
 nck x47 fun p65 =>
 st (p65.1, p65.2 + 1) (slv r63) (fun H67 =>
 K true 0 H67) H64) H61) H44) H37) H15)) H15) H15)) H14) H12) H4)) H2) H
theorem Qhn (C p_l p_r K H) (h : QeF C p_l p_r K H) : QE C p_l p_r K H := by
 refine Ye Tryz.func14 rfl Tryz.ntmps14 [(0, pv p_l), (1, .agg (Qb.c p_r).toArray)] (Zo (GL.box (v := pv p_l) (cs := [pv p_l]) h trivial rfl rfl rfl ?_))
 intro b1 H2 h
 refine GL.box (v := .agg (Qb.c p_r).toArray) (cs := Qb.c p_r) h trivial rfl rfl rfl ?_
 intro b3 H4 h
 refine Za (Za (GL.nil (GC.seq (Zo (Yl h fun x5 h => ?_)))))
 refine Zv (OV.eqlNil (p := x5) rfl rfl rfl) (GL.nil (Yd h (fun u7 h => ?_) fun u7 h => ?_))
 refine Zo (Za (Za (GL.nil ?_)))
 exact Y2 I3 ⟨false, 2, rfl, h⟩
 refine GC.skip (Zo (Zf (Yl h fun x8 h => ?_)))
 refine Zc h Qfv ?_
 rintro _ H12 ⟨r10, r11, rfl, h⟩
 refine Zm (Yv (sv r10) rfl rfl (Yv (.bool r11) rfl rfl (GL.alloc (cs := [sv []]) h trivial rfl rfl rfl ?_)))
 intro b13 H14 h
 refine GL.store (p := (b13, 0)) (v := sv r10) h trivial rfl rfl rfl rfl ?_
 intro H15 h
 refine Za (GL.nil (GC.seq (Zo (Zm (Zv (OV.not rfl) (GL.nil (Yd h (fun u16 h => ?_) fun u16 h => ?_)))))))
 refine Zo (Za (Za (GL.nil ?_)))
 exact Y2 I3 ⟨false, 4, rfl, h⟩
 refine GC.skip (GC.seq (GC.seq (GC.draw (by kernel_rfl) (by kernel_rfl) ?_)))
 obtain ⟨x17, v18, h⟩ := h
 refine GQ.val trivial rfl (OV.load (p := (b1, 0)) rfl rfl v18) ?_
 obtain ⟨p19, hp20, h⟩ := h
 refine GQ.val trivial rfl (OV.nilCheck (q := x17) rfl hp20) (GQ.val trivial rfl (OV.fieldAddr (p := p19) rfl rfl) ?_)
 obtain ⟨x21, v22, h⟩ := h
 refine GQ.val trivial rfl (OV.load (p := (p19.1, p19.2 + 0)) rfl rfl v22) (GQ.val trivial rfl (OV.fieldAddr (p := (b3, 0)) rfl rfl) ?_)
 obtain ⟨x23, v24, h⟩ := h
 refine GQ.val trivial rfl (OV.load (p := ((b3, 0).1, (b3, 0).2 + 0)) rfl rfl v24) ?_
 obtain ⟨x25, is26, v27, h⟩ := h
 refine GQ.val trivial rfl (OV.lookup1 (v := mv x25) (ke := sv) (enc := (fun x : Option Nat => (mv x : Value))) (z := none) (q := x21) (k := x23) (x := x25) (b := is26) rfl v27 rfl rfl rfl (kText rfl) rfl) ?_
 obtain ⟨x28, v29, h⟩ := h
 refine GQ.val trivial rfl (OV.load (p := (b13, 0)) rfl rfl v29) ?_
 obtain ⟨x30, is31, v32, h⟩ := h
 refine GQ.val trivial rfl (OV.lookup2 (v := .tuple #[slv x30, .bool is31]) (ke := sv) (enc := (fun x : Sl => (slv x : Value))) (z := Sl.nil) (q := x25) (k := x28) (x := x30) (b := is31) rfl v32 rfl rfl rfl (kText rfl) rfl) (GQ.val trivial rfl (OV.move (v := .tuple #[slv x30, .bool is31]) rfl) (GQ.val trivial rfl (OV.extract (v := slv x30) rfl rfl) (GQ.val trivial rfl (OV.extract (v := .bool is31) rfl rfl) (GQ.val trivial rfl (OV.assign (v := slv x30) rfl) (GQ.val trivial rfl (OV.assign (v := .bool is31) rfl) (GQ.nil (GL.nil (Zo (Zm (GL.nil (Yd h (fun u33 h => ?_) fun u33 h => ?_)))))))))))
 refine Zo (Za (Za (GL.nil ?_)))
 exact Y2 I3 ⟨false, 0, rfl, h⟩
 refine GC.skip (Zo (Zf (Yl h fun x34 h => ?_)))
 refine Zc h QcF ?_
 rintro _ H37 ⟨r36, rfl, h⟩
 refine Za (GL.nil (Zo (Yl h fun x38 h => ?_)))
 refine Zf (Yl h fun x40 h => ?_)
 refine Yl h fun x42 h => ?_
 refine Zm (Zc h Qe6 ?_)
 rintro _ H44 ⟨rfl, h⟩
 refine GL.nil (GC.seq ?_)
 obtain ⟨Hs45, hle46, h⟩ := h
 refine GC.tail (Hs := Hs45) 15 (by kernel_rfl) hle46 (by kernel_rfl) ?_
 obtain ⟨x47, v48, h⟩ := h
 refine Zy 0 rfl (Yo v48) ?_
 obtain ⟨x49, v50, h⟩ := h
 refine Zy 1 rfl (Yo v50) ?_
 obtain ⟨p51, hp52, h⟩ := h
 refine Zy 2 rfl (OV.nilCheck (q := x49) rfl hp52) (Zy 3 rfl Yf ?_)
 obtain ⟨x53, v54, h⟩ := h
 refine Zy 4 rfl (Yo v54) (Zy 5 rfl Yf ?_)
 obtain ⟨x55, v56, h⟩ := h
 refine Zy 6 rfl (Yo v56) ?_
 obtain ⟨x57, v58, h⟩ := h
 refine Zy 7 rfl (Yo v58) (Zy 8 rfl Ym (Zy 9 rfl (OV.makeFunc (vs := []) (us := [pv (some (b1, 0)), pv (some (b3, 0)), pv (some (b13, 0))]) rfl rfl) (Zy 10 rfl (OV.build (vs := [(0, sv x55), (1, sv x57), (2, slv r36), (3, .func (.func 40) (List.toArray []) (List.toArray [pv (some (b1, 0)), pv (some (b3, 0)), pv (some (b13, 0))]))]) (v := .agg (Qd.c (⟨x55, x57, r36, (.func (.func 40) (List.toArray []) (List.toArray [pv (some (b1, 0)), pv (some (b3, 0)), pv (some (b13, 0))]) : Value)⟩ : Qd)).toArray) rfl (fun _ => by kernel_rfl)) (GT.eff 11 rfl (by kernel_rfl) rfl (GL.buildSlice (cs := (Qd.c (⟨x55, x57, r36, (.func (.func 40) (List.toArray []) (List.toArray [pv (some (b1, 0)), pv (some (b3, 0)), pv (some (b13, 0))]) : Value)⟩ : Qd)) ++ []) h trivial rfl (vs := [(0, .agg (Qd.c (⟨x55, x57, r36, (.func (.func 40) (List.toArray []) (List.toArray [pv (some (b1, 0)), pv (some (b3, 0)), pv (some (b13, 0))]) : Value)⟩ : Qd)).toArray)]) rfl ⟨69, fun _ => by kernel_rfl⟩ ?_)))))
 intro b60 H61 h
 obtain ⟨hle59, h⟩ := h
 refine GT.back hle59 (GT.eff 12 rfl (by kernel_rfl) rfl (GL.appendS (s := x53) (s2 := (Sl.of (some (b60, 0)) 1 1)) (zc := Qd.c Qd.zero) (bytes := 64) h trivial rfl rfl rfl ⟨⟨_, _, _, rfl, rfl, rfl, rfl, rfl, rfl⟩⟩ rfl ?_))
 intro r63 H64 h
 obtain ⟨hle62, h⟩ := h
 refine GT.back hle62 ?_
 obtain ⟨p65, hp66, h⟩ := h
 refine Zy 13 rfl (OV.nilCheck (q := x47) rfl hp66) (Zy 14 rfl Yf (GT.done (by kernel_rfl) ?_))
 show GL _ _ _ _ _ [_] _ _
 refine GL.store (p := (p65.1, p65.2 + 1)) (v := slv r63) h trivial rfl rfl rfl rfl ?_
 intro H67 h
 refine GL.nil (Zo (Za (Za (GL.nil ?_))))
 exact Y2 I3 ⟨true, 0, rfl, h⟩
def QeD (C : Ctx) (p_l : Option (Nat × Nat)) (p_r : Qb) (K : Bool → Int → Heap → Prop) (H : Heap) : Prop :=
 nw ([pv p_l]) (fun b1 H2 =>
 nw (Qb.c p_r) (fun b3 H4 =>
 ldP H4 (b1, 0) fun x5 =>
 ift (Option.isNone x5)
 (K false 2 H4)
 (ldL H4 ((b3, 0).1, (b3, 0).2 + 1) fun x8 =>
 Qdj C x8 (fun r10 r11 H12 =>
 nw ([sv []]) (fun b13 H14 =>
 st (b13, 0) (sv r10) (fun H15 =>
 ift (!r11)
 (K false 4 H15)
 (dr H15 fun Hs17 =>
 ldP Hs17 (b1, 0) fun x19 =>
 nck x19 fun p21 =>
 ldM Hs17 (p21.1, p21.2 + 0) fun x23 =>
 ldS Hs17 ((b3, 0).1, (b3, 0).2 + 0) fun x25 =>
 lkM sv (fun x : Option Nat => (mv x : Value)) none x23 x25 (fun x27 is28 =>
 ldS Hs17 (b13, 0) fun x30 =>
 lkM sv (fun x : Sl => (slv x : Value)) Sl.nil x27 x30 (fun x32 is33 =>
 nw ([slv Sl.nil]) (fun b36 H37 =>
 Heap.le Hs17 H37 ∧
 st (b36, 0) (slv x32) (fun H39 =>
 Heap.le Hs17 H39 ∧
 ift (!is33)
 (K false 0 H39)
 (ldP H39 (b1, 0) fun x41 =>
 ldS H39 ((b3, 0).1, (b3, 0).2 + 0) fun x43 =>
 ldS H39 (b13, 0) fun x45 =>
 QbR C x41 x43 x45 (fun H47 =>
 dr H47 fun Hs48 =>
 ldP Hs48 (b1, 0) fun x50 =>
 ldP Hs48 (b1, 0) fun x52 =>
 nck x52 fun p54 =>
 ldL Hs48 (p54.1, p54.2 + 1) fun x56 =>
 ldS Hs48 ((b3, 0).1, (b3, 0).2 + 0) fun x58 =>
 ldS Hs48 (b13, 0) fun x60 =>
 ldL Hs48 (b36, 0) fun x62 =>
 nw ((Qd.c (⟨x58, x60, x62, (.func (.func 42) (List.toArray []) (List.toArray [pv (some (b1, 0)), pv (some (b3, 0)), pv (some (b13, 0)), pv (some (b36, 0))]) : Value)⟩ : Qd)) ++ []) (fun b65 H66 =>
 Heap.le Hs48 H66 ∧
 apS (Qd.c Qd.zero) 64 x56 (Sl.of (some (b65, 0)) 1 1) (fun r68 H69 =>
 Heap.le Hs48 H69 ∧
 nck x50 fun p70 =>
 st (p70.1, p70.2 + 1) (slv r68) (fun H72 =>
 K true 0 H72) H69) H66) H47) H39)) H37) H15) Hs17) Hs17)) H14) H12) H4)) H2) H
theorem Qhl (C p_l p_r K H) (h : QeD C p_l p_r K H) : QaC C p_l p_r K H := by
 refine Ye Tryz.func15 rfl Tryz.ntmps15 [(0, pv p_l), (1, .agg (Qb.c p_r).toArray)] (Zo (GL.box (v := pv p_l) (cs := [pv p_l]) h trivial rfl rfl rfl ?_))
 intro b1 H2 h
 refine GL.box (v := .agg (Qb.c p_r).toArray) (cs := Qb.c p_r) h trivial rfl rfl rfl ?_
 intro b3 H4 h
 refine Za (Za (GL.nil (GC.seq (Zo (Yl h fun x5 h => ?_)))))
 refine Zv (OV.eqlNil (p := x5) rfl rfl rfl) (GL.nil (Yd h (fun u7 h => ?_) fun u7 h => ?_))
 refine Zo (Za (Za (GL.nil ?_)))
 exact Y2 I3 ⟨false, 2, rfl, h⟩
 refine GC.skip (Zo (Zf (Yl h fun x8 h => ?_)))
 refine Zc h Qfv ?_
 rintro _ H12 ⟨r10, r11, rfl, h⟩
 refine Zm (Yv (sv r10) rfl rfl (Yv (.bool r11) rfl rfl (GL.alloc (cs := [sv []]) h trivial rfl rfl rfl ?_)))
 intro b13 H14 h
 refine GL.store (p := (b13, 0)) (v := sv r10) h trivial rfl rfl rfl rfl ?_
 intro H15 h
 refine Za (GL.nil (GC.seq (Zo (Zm (Zv (OV.not rfl) (GL.nil (Yd h (fun u16 h => ?_) fun u16 h => ?_)))))))
 refine Zo (Za (Za (GL.nil ?_)))
 exact Y2 I3 ⟨false, 4, rfl, h⟩
 refine GC.skip (GC.seq ?_)
 obtain ⟨Hs17, hle18, h⟩ := h
 refine GC.any (Hs := Hs17) (by kernel_rfl) hle18 ?_
 obtain ⟨x19, v20, h⟩ := h
 refine Zp 0 rfl (Yo v20) ?_
 obtain ⟨p21, hp22, h⟩ := h
 refine Zp 1 rfl (OV.nilCheck (q := x19) rfl hp22) (Zp 2 rfl Yf ?_)
 obtain ⟨x23, v24, h⟩ := h
 refine Zp 3 rfl (Yo v24) (Zp 4 rfl Yf ?_)
 obtain ⟨x25, v26, h⟩ := h
 refine Zp 5 rfl (Yo v26) ?_
 obtain ⟨x27, is28, v29, h⟩ := h
 refine Zp 6 rfl (OV.lookup1 (v := mv x27) (ke := sv) (enc := (fun x : Option Nat => (mv x : Value))) (z := none) (q := x23) (k := x25) (x := x27) (b := is28) rfl v29 rfl rfl rfl (kText rfl) rfl) ?_
 obtain ⟨x30, v31, h⟩ := h
 refine Zp 7 rfl (Yo v31) ?_
 obtain ⟨x32, is33, v34, h⟩ := h
 refine Zp 8 rfl (OV.lookup2 (v := .tuple #[slv x32, .bool is33]) (ke := sv) (enc := (fun x : Sl => (slv x : Value))) (z := Sl.nil) (q := x27) (k := x30) (x := x32) (b := is33) rfl v34 rfl rfl rfl (kText rfl) rfl) (Zp 9 rfl Ym (Zp 10 rfl (OV.extract (v := slv x32) rfl rfl) (Zp 11 rfl (OV.extract (v := .bool is33) rfl rfl) (GA.eff 12 rfl (by kernel_rfl) (GL.alloc (cs := [slv Sl.nil]) h trivial rfl rfl rfl ?_)))))
 intro b36 H37 h
 obtain ⟨hle35, h⟩ := h
 refine GA.back hle35 (GA.eff 13 rfl (by kernel_rfl) (GL.store (p := (b36, 0)) (v := slv x32) h trivial rfl rfl rfl rfl ?_))
 intro H39 h
 obtain ⟨hle38, h⟩ := h
 refine GA.back hle38 (Zp 14 rfl Ya (GA.done (by kernel_rfl) (GL.nil (GC.seq (Zo (Zm (Zv (OV.not rfl) (GL.nil (Yd h (fun u40 h => ?_) fun u40 h => ?_)))))))))
 refine Zo (Za (Za (GL.nil ?_)))
 exact Y2 I3 ⟨false, 0, rfl, h⟩
 refine GC.skip (Zo (Yl h fun x41 h => ?_))
 refine Zf (Yl h fun x43 h => ?_)
 refine Yl h fun x45 h => ?_
 refine Zc h Qeu ?_
 rintro _ H47 ⟨rfl, h⟩
 refine GL.nil (GC.seq ?_)
 obtain ⟨Hs48, hle49, h⟩ := h
 refine GC.tail (Hs := Hs48) 15 (by kernel_rfl) hle49 (by kernel_rfl) ?_
 obtain ⟨x50, v51, h⟩ := h
 refine Zy 0 rfl (Yo v51) ?_
 obtain ⟨x52, v53, h⟩ := h
 refine Zy 1 rfl (Yo v53) ?_
 obtain ⟨p54, hp55, h⟩ := h
 refine Zy 2 rfl (OV.nilCheck (q := x52) rfl hp55) (Zy 3 rfl Yf ?_)
 obtain ⟨x56, v57, h⟩ := h
 refine Zy 4 rfl (Yo v57) (Zy 5 rfl Yf ?_)
 obtain ⟨x58, v59, h⟩ := h
 refine Zy 6 rfl (Yo v59) ?_
 obtain ⟨x60, v61, h⟩ := h
 refine Zy 7 rfl (Yo v61) ?_
 obtain ⟨x62, v63, h⟩ := h
 refine Zy 8 rfl (Yo v63) (Zy 9 rfl (OV.makeFunc (vs := []) (us := [pv (some (b1, 0)), pv (some (b3, 0)), pv (some (b13, 0)), pv (some (b36, 0))]) rfl rfl) (Zy 10 rfl (OV.build (vs := [(0, sv x58), (1, sv x60), (2, slv x62), (3, .func (.func 42) (List.toArray []) (List.toArray [pv (some (b1, 0)), pv (some (b3, 0)), pv (some (b13, 0)), pv (some (b36, 0))]))]) (v := .agg (Qd.c (⟨x58, x60, x62, (.func (.func 42) (List.toArray []) (List.toArray [pv (some (b1, 0)), pv (some (b3, 0)), pv (some (b13, 0)), pv (some (b36, 0))]) : Value)⟩ : Qd)).toArray) rfl (fun _ => by kernel_rfl)) (GT.eff 11 rfl (by kernel_rfl) rfl (GL.buildSlice (cs := (Qd.c (⟨x58, x60, x62, (.func (.func 42) (List.toArray []) (List.toArray [pv (some (b1, 0)), pv (some (b3, 0)), pv (some (b13, 0)), pv (some (b36, 0))]) : Value)⟩ : Qd)) ++ []) h trivial rfl (vs := [(0, .agg (Qd.c (⟨x58, x60, x62, (.func (.func 42) (List.toArray []) (List.toArray [pv (some (b1, 0)), pv (some (b3, 0)), pv (some (b13, 0)), pv (some (b36, 0))]) : Value)⟩ : Qd)).toArray)]) rfl ⟨69, fun _ => by kernel_rfl⟩ ?_))))
 intro b65 H66 h
 obtain ⟨hle64, h⟩ := h
 refine GT.back hle64 (GT.eff 12 rfl (by kernel_rfl) rfl (GL.appendS (s := x56) (s2 := (Sl.of (some (b65, 0)) 1 1)) (zc := Qd.c Qd.zero) (bytes := 64) h trivial rfl rfl rfl ⟨⟨_, _, _, rfl, rfl, rfl, rfl, rfl, rfl⟩⟩ rfl ?_))
 intro r68 H69 h
 obtain ⟨hle67, h⟩ := h
 refine GT.back hle67 ?_
 obtain ⟨p70, hp71, h⟩ := h
 refine Zy 13 rfl (OV.nilCheck (q := x50) rfl hp71) (Zy 14 rfl Yf (GT.done (by kernel_rfl) ?_))
 show GL _ _ _ _ _ [_] _ _
 refine GL.store (p := (p70.1, p70.2 + 1)) (v := slv r68) h trivial rfl rfl rfl rfl ?_
 intro H72 h
 refine GL.nil (Zo (Za (Za (GL.nil ?_))))
 exact Y2 I3 ⟨true, 0, rfl, h⟩
def Qec (C : Ctx) (p_l : Option (Nat × Nat)) (p_mark : Int) (K : Int → Heap → Prop) (H : Heap) : Prop :=
 Qbk C p_l p_mark (fun r1 H2 =>
 ift ((r1 : Int) != 0)
 (K r1 H2)
 (nck p_l fun p4 =>
 ldL H2 (p4.1, p4.2 + 1) fun x6 =>
 slL x6 p_mark (Sl.len x6 : Int) (Sl.cap x6 : Int) 4 fun t8 =>
 Qn C t8 (fun r14 H15 =>
 Rf.rng Tryz.prog C r14 2 H15
 (fun yl19 r20 us K23 H24 => ∃ (u16 : Int) (u17 : Qd), us = [.int .i64 u16, .agg (Qd.c u17).toArray] ∧
 nw (Qd.c Qd.zero) (fun b42 H43 =>
 (List.all (Qd.c u17) Value.oneCell' = true) ∧
 stT (b42, 0) (Qd.c u17) (fun H44 =>
 H44 yl19 = some (true, Rf.lrec r20 .ready none) ∧
 ldV (Heap.put H44 yl19 (Rf.lrec r20 .busy none)) ((b42, 0).1, (b42, 0).2 + 3) fun x48 =>
 callU Tryz.prog C x48 [] (Heap.put H44 yl19 (Rf.lrec r20 .busy none)) (fun v H50 => v = .tuple #[] ∧
 H50 yl19 = some (true, Rf.lrec r20 .busy none) ∧ K23 true (Heap.put H50 yl19 (Rf.lrec r20 .ready none)))) H43) H24)
 (fun D18 H78 =>
 nck p_l fun p57 =>
 ldL H78 (p57.1, p57.2 + 1) fun x59 =>
 slL x59 0 p_mark p_mark 4 fun t61 =>
 nck p_l fun p67 =>
 st (p67.1, p67.2 + 1) (slv t61) (fun H69 =>
 Rf.mk1 H69 D18 (fun Hm70 =>
 K 0 Hm70)) H78)
 (fun D18 H79 =>
 Rf.mk1 H79 D18 (fun Hm74 =>
 K 0 Hm74))) H2)) H
theorem Qg1 (C p_l p_mark K H) (h : Qec C p_l p_mark K H) : QaU C p_l p_mark K H := by
 refine Rf.Spec.enterI Tryz.func17 rfl Tryz.ntmps17 rfl ?_
 refine Rf.GI.sub [(0, pv p_l), (1, .int .i64 p_mark)] ⟨rfl, rfl, trivial⟩ ?_
 refine Rf.GI.seq ?_
 refine Rf.GI.region (fun _ _ h => h) rfl ?_
 refine GL.val trivial rfl (OV.assign (v := .int .i64 0) rfl) ?_
 refine Rf.GI.nil ?_
 refine Rf.GI.seq ?_
 refine Rf.GI.seq ?_
 refine Rf.GI.region (fun _ _ h => h) rfl ?_
 refine GL.val trivial rfl (OV.move (v := pv p_l) rfl) ?_
 refine GL.val trivial rfl (OV.move (v := .int .i64 p_mark) rfl) ?_
 refine GL.call h trivial rfl Qdq (vs := [pv p_l, .int .i64 p_mark]) rfl ?_
 rintro _ H2 ⟨r1, rfl, h⟩
 refine GL.val trivial rfl (OV.assign (v := .int .i64 r1) rfl) ?_
 refine Rf.GI.nil ?_
 refine Rf.GI.seq ?_
 refine Rf.GI.region (fun _ _ h => h) rfl ?_
 refine GL.val trivial rfl (OV.move (v := .int .i64 r1) rfl) ?_
 refine GL.val trivial rfl (OV.ibin (v := .bool ((r1 : Int) != 0)) rfl rfl rfl) ?_
 refine Rf.GI.nil ?_
 refine Rf.GI.cond (b := (r1 : Int) != 0) rfl (fun hc3 => ?_) (fun hc3 => ?_)
 ·replace h := And.left h hc3
  refine Rf.GI.seq ?_
  refine Rf.GI.region (fun _ _ h => h) rfl ?_
  refine GL.val trivial rfl (OV.move (v := .int .i64 r1) rfl) ?_
  refine GL.val trivial rfl (OV.assign (v := .int .i64 r1) rfl) ?_
  refine Rf.GI.nil ?_
  exact Rf.GI.ret (fun _ _ hf hs => Qf4 rfl rfl hf hs ⟨r1, rfl, h⟩)
 ·replace h := And.right h hc3
  refine Rf.GI.skip ?_
  refine Rf.GI.seq ?_
  refine Rf.GI.seq ?_
  refine Rf.GI.region (fun _ _ h => h) rfl ?_
  refine GL.val trivial rfl (OV.move (v := pv p_l) rfl) ?_
  obtain ⟨p4, hp5, h⟩ := h
  refine GL.val trivial rfl (OV.nilCheck (q := p_l) rfl hp5) ?_
  refine GL.val trivial rfl (OV.fieldAddr (p := p4) rfl rfl) ?_
  obtain ⟨x6, hr7, h⟩ := h
  refine GL.val trivial rfl (OV.load (p := (p4.1, p4.2 + 1)) rfl rfl hr7) ?_
  refine GL.val trivial rfl (OV.move (v := .int .i64 p_mark) rfl) ?_
  obtain ⟨h9, h10, h11, h12, t8, h13, h⟩ := h
  refine GL.val trivial rfl (OV.sliceSl (s := x6) h9 h10 h11 h12 h13 rfl rfl rfl rfl rfl rfl rfl (fun h => by first | rfl | cases h) rfl rfl) ?_
  refine GL.call h trivial rfl QaP (vs := [slv t8]) rfl ?_
  rintro _ H15 ⟨r14, rfl, h⟩
  refine Rf.GI.nil ?_
  refine Rf.GI.block ?_
  obtain ⟨gf26, xb27, hv28, hok29, h⟩ := h
  refine Rf.GI.rangeFunc (gf := gf26) (xb := xb27) (congrArg some hv28) hok29 ?_
  intro D18 yl19 r20 hD30 hyl31 hne32 hr22 hra33 hrb34 hfr35
  obtain ⟨Y21, hY36, h⟩ := h D18 yl19 r20 hD30 hyl31 hne32
  have hyy40 : Rf.YldS Tryz.prog C yl19 Y21 := by
   refine Rf.YldS.rounds hfr35 (by rw [hr22]; rfl) ?_
   intro us37 K23 H24 hz41
   obtain ⟨q38, q39, h⟩ := hY36 us37 K23 H24 hz41
   refine ⟨q38, by rw [hr22]; exact q39, ?_⟩
   obtain ⟨u16, u17, rfl, h⟩ := h
   rw [hr22, hra33]
   refine Rf.GI.sub [(22, .agg (Qd.c u17).toArray)] ⟨rfl, trivial⟩ ?_
   refine Rf.GI.region (fun _ _ h => h) rfl ?_
   refine GL.alloc (cs := Qd.c Qd.zero) h trivial rfl rfl rfl ?_
   intro b42 H43 h
   obtain ⟨h145, h⟩ := h
   refine GL.storeT (p := (b42, 0)) (vs := Qd.c u17) h trivial rfl rfl h145 rfl ?_
   intro H44 h
   obtain ⟨q46, h⟩ := h
   refine Rf.RA.mk q46 ?_
   rw [hrb34]
   refine Rf.GI.block ?_
   refine Rf.GI.region (fun _ _ h => h) rfl ?_
   refine GL.val trivial rfl (OV.fieldAddr (p := (b42, 0)) rfl rfl) ?_
   obtain ⟨x48, hr49, h⟩ := h
   refine GL.val trivial rfl (OV.load (p := ((b42, 0).1, (b42, 0).2 + 3)) rfl rfl hr49) ?_
   refine GL.callU (xv := x48) (vs := []) h trivial rfl rfl rfl ?_
   rintro _ H50 ⟨rfl, h⟩
   exact GL.ends (fun _ _ hf hs => ⟨_, hs, h⟩)
  refine Spec.mono (h hyy40) fun u51 H52 h => ?_
  obtain ⟨st53, pend54, k55, k56, ⟨rfl, h⟩ | ⟨rfl, h⟩⟩ := h
  ·refine Rf.RK.nrm (P := Tryz.prog) k55 k56 ?_
   refine Rf.GI.nil_to (fun _ _ h => h) ?_
   refine Rf.GI.seq ?_
   refine Rf.GI.region (fun _ _ h => h) rfl ?_
   refine GL.val trivial rfl (OV.move (v := pv p_l) rfl) ?_
   refine GL.val trivial rfl (OV.move (v := pv p_l) rfl) ?_
   obtain ⟨p57, hp58, h⟩ := h
   refine GL.val trivial rfl (OV.nilCheck (q := p_l) rfl hp58) ?_
   refine GL.val trivial rfl (OV.fieldAddr (p := p57) rfl rfl) ?_
   obtain ⟨x59, hr60, h⟩ := h
   refine GL.val trivial rfl (OV.load (p := (p57.1, p57.2 + 1)) rfl rfl hr60) ?_
   refine GL.val trivial rfl (OV.move (v := .int .i64 p_mark) rfl) ?_
   refine GL.val trivial rfl (OV.move (v := .int .i64 p_mark) rfl) ?_
   obtain ⟨h62, h63, h64, h65, t61, h66, h⟩ := h
   refine GL.val trivial rfl (OV.sliceSl (s := x59) h62 h63 h64 h65 h66 rfl rfl rfl rfl rfl rfl rfl (fun h => by first | rfl | cases h) rfl rfl) ?_
   obtain ⟨p67, hp68, h⟩ := h
   refine GL.val trivial rfl (OV.nilCheck (q := p_l) rfl hp68) ?_
   refine GL.val trivial rfl (OV.fieldAddr (p := p67) rfl rfl) ?_
   refine GL.store (p := (p67.1, p67.2 + 1)) (v := slv t61) h trivial rfl rfl rfl rfl ?_
   intro H69 h
   refine Rf.GI.nil ?_
   refine Rf.GI.seq ?_
   refine Rf.GI.region (fun _ _ h => h) rfl ?_
   refine GL.val trivial rfl (OV.assign (v := .int .i64 0) rfl) ?_
   refine Rf.GI.nil ?_
   obtain ⟨Hm70, hle71, h72, hd73, h⟩ := h
   refine Rf.GI.ret (fun _ _ hf hs => ?_)
   refine Rf.QiD hf hs hle71 h72 hd73 ?_
   exact (fun _ _ hf hs => Qf4 rfl rfl hf hs ⟨0, rfl, h⟩)
  ·refine Rf.RK.ret k55 k56 ?_
   obtain ⟨Hm74, hle75, h76, hd77, h⟩ := h
   refine (fun _ _ hf hs => ?_)
   refine Rf.QiD hf hs hle75 h76 hd77 ?_
   exact (fun _ _ hf hs => Qf4 rfl rfl hf hs ⟨0, rfl, h⟩)
def QgQ (C : Ctx) (K : Option (Nat × Nat) → Heap → Prop) (H : Heap) : Prop :=
 nw ([slv Sl.nil]) (fun b1 H2 =>
 nw (QV.c (⟨(Sl.of (some (b1, 0)) 1 1)⟩ : QV)) (fun b3 H4 =>
 K (some (b3, 0)) H4) H2) H
theorem QjA (C : Ctx) (K : Option (Nat × Nat) → Heap → Prop) (H : Heap) (h : QgQ C  K H) : Qfp C  K H := by
 refine Spec.enter Tryz.func18 rfl Tryz.ntmps18 rfl (GC.sub [] trivial (Zo (Za (GL.nil (Zo (GL.buildSlice (cs := [slv Sl.nil]) h trivial rfl (vs := [(0, slv Sl.nil)]) rfl ⟨33, fun _ => by kernel_rfl⟩ ?_))))))
 intro b1 H2 h
 refine Zv (OV.build (vs := [(0, slv (Sl.of (some (b1, 0)) 1 1))]) (v := .agg (QV.c (⟨(Sl.of (some (b1, 0)) 1 1)⟩ : QV)).toArray) rfl (fun _ => by kernel_rfl)) (GL.box (v := .agg (QV.c (⟨(Sl.of (some (b1, 0)) 1 1)⟩ : QV)).toArray) (cs := QV.c (⟨(Sl.of (some (b1, 0)) 1 1)⟩ : QV)) h trivial rfl rfl rfl ?_)
 intro b3 H4 h
 refine Za (GL.nil ?_)
 exact Y1 I3 ⟨(some (b3, 0)), rfl, h⟩
def Qe9 (C : Ctx) (p_o : Qk) (p_l : Option (Nat × Nat)) (p_x : Option (Nat × Nat)) (K : Bool → Heap → Prop) (H : Heap) : Prop :=
 nw (Qk.c p_o) (fun b1 H2 =>
 jn (α := Nat × Nat) (fun x4 H5 =>
 jn (α := Bool) (fun x28 H29 =>
 jn (α := Bool) (fun b147 H157 =>
 ldL H157 (x4.1, x4.2 + 1) fun x158 =>
 QF C x158 (fun H160 =>
 dr H160 fun Hs161 =>
 ift b147
 (nck p_x fun p164 =>
 ldL Hs161 (p164.1, p164.2 + 0) fun x166 =>
 QS C p_l (fun r169 H170 =>
 Heap.le Hs161 H170 ∧
 ift ((r169 : Int) == (w .i64 ((Sl.len x166 : Int) - 1)))
 (Qbj C p_l (fun r173 H174 =>
 Heap.le Hs161 H174 ∧
 Qa4 C p_x (fun r176 H177 =>
 Heap.le Hs161 H177 ∧
 QbN C r173 r176 (fun r179 H180 =>
 Heap.le Hs161 H180 ∧
 K r179 H180) H177) H174) H170)
 (K false H170)) H160)
 (K false H160)) H157)
 (fun J148 => ift x28
 (ldL H29 (x4.1, x4.2 + 1) fun x151 =>
 ldL H29 (((b1, 0).1, (b1, 0).2 + 2).1, ((b1, 0).1, (b1, 0).2 + 2).2 + 1) fun x153 =>
 Q1 C x151 x153 (fun r155 H156 =>
 J148 r155 H156) H29)
 (J148 false H29)))
 (fun J27 => ldI H5 .u8 ((b1, 0).1, (b1, 0).2 + 0) fun x31 =>
 ift ((x31 : Int) == 0)
 (ldT H5 Qb.c x4 fun x34 =>
 QE C p_l x34 (fun r36 r37 H38 =>
 ldT H38 Qb.c ((b1, 0).1, (b1, 0).2 + 2) fun x39 =>
 QbH C p_x x39 (fun r41 r42 H43 =>
 J27 ((r36 == r41) && ((r37 : Int) == r42)) H43) H38) H5)
 (ift ((x31 : Int) == 1)
 (ldT H5 Qb.c x4 fun x46 =>
 QaC C p_l x46 (fun r48 r49 H50 =>
 ldT H50 Qb.c ((b1, 0).1, (b1, 0).2 + 2) fun x51 =>
 QbF C p_x x51 (fun r53 r54 H55 =>
 J27 ((r48 == r53) && ((r49 : Int) == r54)) H55) H50) H5)
 (ift ((x31 : Int) == 2)
 (dr H5 fun Hs58 =>
 ldI Hs58 .i64 ((b1, 0).1, (b1, 0).2 + 1) fun x60 =>
 ldI Hs58 .i64 ((b1, 0).1, (b1, 0).2 + 1) fun x62 =>
 QaU C p_l x60 (fun r65 H66 =>
 Heap.le Hs58 H66 ∧
 Qbi C p_x x62 (fun r68 H69 =>
 Heap.le Hs58 H69 ∧
 J27 ((r65 : Int) == r68) H69) H66) H5)
 (ift ((x31 : Int) == 3)
 (ldI H5 .i64 ((b1, 0).1, (b1, 0).2 + 1) fun x71 =>
 QW C p_l x71 (fun r73 r74 H75 =>
 ldI H75 .i64 ((b1, 0).1, (b1, 0).2 + 1) fun x76 =>
 Qa5 C p_x x76 (fun r78 r79 H80 =>
 jn (α := Bool) (fun b81 H87 =>
 lp (α := Int) 0 H87 (fun x88 J89 H90 =>
 ift (decide ((x88 : Int) < (Sl.len r73 : Int)))
 (ixa r73 x88 fun p92 =>
 ldL H90 (((p92.1, p92.2 + (x88 : Int).toNat * 3).1, (p92.1, p92.2 + (x88 : Int).toNat * 3).2 + 0).1, ((p92.1, p92.2 + (x88 : Int).toNat * 3).1, (p92.1, p92.2 + (x88 : Int).toNat * 3).2 + 0).2 + 1) fun x97 =>
 QF C x97 (fun H99 =>
 J89 (w .i64 (x88 + 1)) H99) H90)
 (J27 b81 H90)))
 (fun J82 => ift ((r74 : Int) == r79)
 (QO C r73 r78 (fun r85 H86 =>
 J82 r85 H86) H80)
 (J82 false H80))) H75) H5)
 (ift ((x31 : Int) == 4)
 (Qa6 C p_l (fun H101 =>
 QaH C p_x (fun H102 =>
 J27 true H102) H101) H5)
 (dr H5 fun Hs103 =>
 ldS Hs103 (x4.1, x4.2 + 0) fun x105 =>
 ldS Hs103 (((b1, 0).1, (b1, 0).2 + 2).1, ((b1, 0).1, (b1, 0).2 + 2).2 + 0) fun x107 =>
 Qak C p_l x105 (fun r110 H111 =>
 Heap.le Hs103 H111 ∧
 Qay C p_x x107 (fun r113 H114 =>
 Heap.le Hs103 H114 ∧
 jn (α := Bool) (fun x116 H117 =>
 lp (α := Int) 0 H117 (fun x135 J136 H137 =>
 ift (decide ((x135 : Int) < (Sl.len r110 : Int)))
 (ixa r110 x135 fun p139 =>
 ldL H137 (p139.1, p139.2 + (x135 : Int).toNat * 1) fun x144 =>
 QF C x144 (fun H146 =>
 J136 (w .i64 (x135 + 1)) H146) H137)
 (J27 x116 H137)))
 (fun J115 => dr H114 fun Hs119 =>
 ldT Hs119 Qb.c x4 fun x121 =>
 ldT Hs119 Qb.c ((b1, 0).1, (b1, 0).2 + 2) fun x123 =>
 Qah C p_l x121 (fun r126 H127 =>
 Heap.le Hs119 H127 ∧
 QbG C p_x x123 (fun r129 H130 =>
 Heap.le Hs119 H130 ∧
 ift (r126 == r129)
 (Qax C r110 r113 (fun r133 H134 =>
 Heap.le Hs119 H134 ∧
 J115 r133 H134) H130)
 (J115 false H130)) H127) H114)) H111) H5)))))))
 (fun J3 => dr H2 fun Hs7 =>
 ldS Hs7 (((b1, 0).1, (b1, 0).2 + 2).1, ((b1, 0).1, (b1, 0).2 + 2).2 + 0) fun x9 =>
 ldL Hs7 (((b1, 0).1, (b1, 0).2 + 2).1, ((b1, 0).1, (b1, 0).2 + 2).2 + 1) fun x11 =>
 (QaS C x11 (fun r14 H15 =>
 Heap.le Hs7 H15 ∧
 nw (Qb.c Qb.zero) (fun b17 H18 =>
 Heap.le Hs7 H18 ∧
 stT (b17, 0) (Qb.c (⟨x9, r14⟩ : Qb)) (fun H19 =>
 J3 (b17, 0) H19) H18) H15) H2) ∧
 (nw (Qb.c Qb.zero) (fun b21 H22 =>
 Heap.le Hs7 H22 ∧
 QaS C x11 (fun r24 H25 =>
 Heap.le Hs7 H25 ∧
 stT (b21, 0) (Qb.c (⟨x9, r24⟩ : Qb)) (fun H26 =>
 J3 (b21, 0) H26) H25) H22) H2))) H
theorem Qh9 (C p_o p_l p_x K H) (h : Qe9 C p_o p_l p_x K H) : QdD C p_o p_l p_x K H := by
 refine Ye Tryz.func19 rfl Tryz.ntmps19 [(0, .agg (Qk.c p_o).toArray), (1, pv p_l), (2, pv p_x)] (Zo (GL.box (v := .agg (Qk.c p_o).toArray) (cs := Qk.c p_o) h trivial rfl rfl rfl ?_))
 intro b1 H2 h
 refine Za (GL.nil (GC.seq ?_))
 obtain ⟨J3, h, hR6⟩ := h
 refine GC.meet (α := Nat × Nat) J3 (fun x4 => [(7, pv (some x4)), (1, pv p_l), (2, pv p_x), (3, pv (some (b1, 0)))]) ?_ ?_
 obtain ⟨Hs7, hle8, h⟩ := h
 refine GC.tail (Hs := Hs7) 9 (by kernel_rfl) hle8 (by kernel_rfl) (Zy 0 rfl Yf (Zy 1 rfl Yf ?_))
 obtain ⟨x9, v10, h⟩ := h
 refine Zy 2 rfl (Yo v10) (Zy 3 rfl Yf (Zy 4 rfl Yf ?_))
 obtain ⟨x11, v12, h⟩ := h
 refine Zy 5 rfl (Yo v12) (GT.effs [6, 8] (by kernel_rfl) (by simp) (List.forall_mem_cons.2 ⟨⟨_, rfl, rfl, ?_⟩, List.forall_mem_cons.2 ⟨⟨_, rfl, rfl, ?_⟩, fun _ h => by cases h⟩⟩))
 replace h := h.1
 refine Zc h QcQ ?_
 rintro _ H15 ⟨r14, rfl, h⟩
 obtain ⟨hle13, h⟩ := h
 refine GT.back hle13 (Zy 7 rfl (OV.build (vs := [(0, sv x9), (1, slv r14)]) (v := .agg (Qb.c (⟨x9, r14⟩ : Qb)).toArray) rfl (fun _ => by kernel_rfl)) (GT.eff 8 rfl (by kernel_rfl) rfl (GL.alloc (cs := Qb.c Qb.zero) h trivial rfl rfl rfl ?_)))
 intro b17 H18 h
 obtain ⟨hle16, h⟩ := h
 refine GT.back hle16 (GT.done (by kernel_rfl) ?_)
 show GL _ _ _ _ _ [_] _ _
 refine GL.storeT (p := (b17, 0)) (vs := Qb.c (⟨x9, r14⟩ : Qb)) h trivial rfl rfl rfl rfl ?_
 intro H19 h
 exact Yj I3 (b17, 0) h
 replace h := h.2
 refine GL.alloc (cs := Qb.c Qb.zero) h trivial rfl rfl rfl ?_
 intro b21 H22 h
 obtain ⟨hle20, h⟩ := h
 refine GT.back hle20 (GT.eff 6 rfl (by kernel_rfl) rfl (Zc h QcQ ?_))
 rintro _ H25 ⟨r24, rfl, h⟩
 obtain ⟨hle23, h⟩ := h
 refine GT.back hle23 (Zy 7 rfl (OV.build (vs := [(0, sv x9), (1, slv r24)]) (v := .agg (Qb.c (⟨x9, r24⟩ : Qb)).toArray) rfl (fun _ => by kernel_rfl)) (GT.done (by kernel_rfl) ?_))
 show GL _ _ _ _ _ [_] _ _
 refine GL.storeT (p := (b21, 0)) (vs := Qb.c (⟨x9, r24⟩ : Qb)) h trivial rfl rfl rfl rfl ?_
 intro H26 h
 exact Yj I3 (b21, 0) h
 intro x4 H5 h
 replace h := hR6 x4 H5 h
 refine GL.nil (Zo (Za (GL.nil ?_)))
 obtain ⟨J27, h, hR30⟩ := h
 refine GC.join (α := Bool) J27 (fun x28 => [(8, .bool x28), (1, pv p_l), (2, pv p_x), (3, pv (some (b1, 0))), (7, pv (some x4))]) ?_ ?_
 refine Zo (Zf (Yl h fun x31 h => ?_))
 refine GL.nil (GC.block (Zo (Zi (.bool ((x31 : Int) == 0)) (Za (GL.nil (Yd h (fun u33 h => ?_) fun u33 h => ?_))))))
 refine Zo (Zm ?_)
 obtain ⟨x34, v35, h⟩ := h
 refine Zv (OV.loadT rfl rfl rfl v35) (Zc h QaX ?_)
 rintro _ H38 ⟨r36, r37, rfl, h⟩
 refine Zm (Yv (.bool r36) rfl rfl (Yv (.int .i64 r37) rfl rfl (Za (Za (GL.nil (Zo (Zm (Zf ?_))))))))
 obtain ⟨x39, v40, h⟩ := h
 refine Zv (OV.loadT rfl rfl rfl v40) (Zc h Qg8 ?_)
 rintro _ H43 ⟨r41, r42, rfl, h⟩
 refine Zm (Yv (.bool r41) rfl rfl (Yv (.int .i64 r42) rfl rfl (Za (Za (GL.nil (GC.region (Zm (Zm (Zv (OV.eqlBool rfl rfl rfl) (Zm (GL.cut0 4 [(90, .bool ((r36 == r41) && ((r37 : Int) == r42))), (1, pv p_l), (2, pv p_x), (3, pv (some (b1, 0))), (7, pv (some x4))] ?_ ?_)))))))))))
 rcases Zb (r36 == r41) with u44 | u44
 refine Zu u44 Ym (Zu u44 Ym (Zu u44 (OV.ibin (v := .bool ((r37 : Int) == r42)) rfl rfl rfl) (Zt u44 ?_)))
 exact GL.jump0 (fun _ _ h => h) () rfl ⟨(by rw [u44]; rfl), rfl, rfl, rfl, rfl, trivial⟩
 refine Zk u44 (Zk u44 (Zk u44 (Zn u44 ?_)))
 exact GL.jump0 (fun _ _ h => h) () rfl ⟨(by rw [u44]; rfl), rfl, rfl, rfl, rfl, trivial⟩
 refine Za ?_
 exact Yj I3 ((r36 == r41) && ((r37 : Int) == r42)) h
 refine Zo (Zi (.bool ((x31 : Int) == 1)) (Za (GL.nil (Yd h (fun u45 h => ?_) fun u45 h => ?_))))
 refine Zo (Zm ?_)
 obtain ⟨x46, v47, h⟩ := h
 refine Zv (OV.loadT rfl rfl rfl v47) (Zc h Qet ?_)
 rintro _ H50 ⟨r48, r49, rfl, h⟩
 refine Zm (Yv (.bool r48) rfl rfl (Yv (.int .i64 r49) rfl rfl (Za (Za (GL.nil (Zo (Zm (Zf ?_))))))))
 obtain ⟨x51, v52, h⟩ := h
 refine Zv (OV.loadT rfl rfl rfl v52) (Zc h Qg6 ?_)
 rintro _ H55 ⟨r53, r54, rfl, h⟩
 refine Zm (Yv (.bool r53) rfl rfl (Yv (.int .i64 r54) rfl rfl (Za (Za (GL.nil (GC.region (Zm (Zm (Zv (OV.eqlBool rfl rfl rfl) (Zm (GL.cut0 4 [(113, .bool ((r48 == r53) && ((r49 : Int) == r54))), (1, pv p_l), (2, pv p_x), (3, pv (some (b1, 0))), (7, pv (some x4))] ?_ ?_)))))))))))
 rcases Zb (r48 == r53) with u56 | u56
 refine Zu u56 Ym (Zu u56 Ym (Zu u56 (OV.ibin (v := .bool ((r49 : Int) == r54)) rfl rfl rfl) (Zt u56 ?_)))
 exact GL.jump0 (fun _ _ h => h) () rfl ⟨(by rw [u56]; rfl), rfl, rfl, rfl, rfl, trivial⟩
 refine Zk u56 (Zk u56 (Zk u56 (Zn u56 ?_)))
 exact GL.jump0 (fun _ _ h => h) () rfl ⟨(by rw [u56]; rfl), rfl, rfl, rfl, rfl, trivial⟩
 refine Za ?_
 exact Yj I3 ((r48 == r53) && ((r49 : Int) == r54)) h
 refine Zo (Zi (.bool ((x31 : Int) == 2)) (Za (GL.nil (Yd h (fun u57 h => ?_) fun u57 h => ?_))))
 obtain ⟨Hs58, hle59, h⟩ := h
 refine GC.any (Hs := Hs58) (by kernel_rfl) hle59 (Zp 0 rfl Ym (Zp 1 rfl Yf ?_))
 obtain ⟨x60, v61, h⟩ := h
 refine Zp 2 rfl (Yo v61) (Zp 4 rfl Ym (Zp 5 rfl Yf ?_))
 obtain ⟨x62, v63, h⟩ := h
 refine Zp 6 rfl (Yo v63) (GA.eff 3 rfl (by kernel_rfl) (Zc h Qd2 ?_))
 rintro _ H66 ⟨r65, rfl, h⟩
 obtain ⟨hle64, h⟩ := h
 refine GA.back hle64 (GA.eff 7 rfl (by kernel_rfl) (Zc h Qgx ?_))
 rintro _ H69 ⟨r68, rfl, h⟩
 obtain ⟨hle67, h⟩ := h
 refine GA.back hle67 (Zp 8 rfl (OV.ibin (v := .bool ((r65 : Int) == r68)) rfl rfl rfl) (Zp 9 rfl Ya (GA.done (by kernel_rfl) ?_)))
 exact Yj I3 ((r65 : Int) == r68) h
 refine Zo (Zi (.bool ((x31 : Int) == 3)) (Za (GL.nil (Yd h (fun u70 h => ?_) fun u70 h => ?_))))
 refine Zo (Zm (Zf (Yl h fun x71 h => ?_)))
 refine Zc h QbO ?_
 rintro _ H75 ⟨r73, r74, rfl, h⟩
 refine Zm (Yv (slv r73) rfl rfl (Yv (.int .i64 r74) rfl rfl (Za (Za (GL.nil (Zo (Zm (Zf (Yl h fun x76 h => ?_)))))))))
 refine Zc h QfY ?_
 rintro _ H80 ⟨r78, r79, rfl, h⟩
 refine Zm (Yv (slv r78) rfl rfl (Yv (.int .i64 r79) rfl rfl (Za (Za (GL.nil (Zo (Zm (Zm (Zi (.bool ((r74 : Int) == r79)) (Zm ?_))))))))))
 obtain ⟨J82, h, hR83⟩ := h
 refine GL.cut (α := Bool) 4 J82 (fun b81 => [(148, .bool b81), (1, pv p_l), (2, pv p_x), (3, pv (some (b1, 0))), (7, pv (some x4)), (17, slv r73)]) ?_ ?_
 rcases h.em with ⟨u84, h⟩ | ⟨u84, h⟩
 refine Zu u84 Ym (Zu u84 Ym (GL.call h (Yt u84) rfl Qbd (vs := [slv r73, slv r78]) rfl ?_))
 rintro _ H86 ⟨r85, rfl, h⟩
 refine Zt u84 ?_
 exact Yj I3 r85 h
 refine Zk u84 (Zk u84 (Zk u84 (Zn u84 ?_)))
 exact Yj I3 false h
 intro b81 H87 h
 replace h := hR83 b81 H87 h
 refine Za (GL.nil (Zo (Za (GL.nil (GC.block (Yp h (fun x88 => [(21, .int .i64 x88), (1, pv p_l), (2, pv p_x), (3, pv (some (b1, 0))), (7, pv (some x4)), (8, .bool b81), (17, slv r73)]) ?_))))))
 intro x88 H90 J89 h
 refine GC.seq (Zo (Zm (Zm (Zq (Zi (.bool (decide ((x88 : Int) < (Sl.len r73 : Int)))) (GL.nil (Yd h (fun u91 h => ?_) fun u91 h => ?_)))))))
 refine GC.skip (GC.seq (GC.block (GC.region (Zm (Zm (Yx h fun p92 h => ?_))))))
 refine Zf (Zf (Yl h fun x97 h => ?_))
 refine Zc h QbS ?_
 rintro _ H99 ⟨rfl, h⟩
 refine GL.nil_to (fun _ _ h => h) (GC.region (Zm (Zi (.int .i64 (w .i64 (x88 + 1))) (Za ?_))))
 exact Yj I3 (w .i64 (x88 + 1)) h
 exact GC.exit_jump (fun _ _ h => h) b81 h ⟨rfl, rfl, rfl, rfl, rfl, trivial⟩
 refine Zo (Zi (.bool ((x31 : Int) == 4)) (Za (GL.nil (Yd h (fun u100 h => ?_) fun u100 h => ?_))))
 refine Zo (Zm (Zc h QfZ ?_))
 rintro _ H101 ⟨rfl, h⟩
 refine GL.nil (GC.region (Zm (Zc h Qft ?_)))
 rintro _ H102 ⟨rfl, h⟩
 exact Yj I3 true h
 refine GC.seq ?_
 obtain ⟨Hs103, hle104, h⟩ := h
 refine GC.any (Hs := Hs103) (by kernel_rfl) hle104 (Zp 0 rfl Ym (Zp 1 rfl Yf ?_))
 obtain ⟨x105, v106, h⟩ := h
 refine Zp 2 rfl (Yo v106) (Zp 4 rfl Ym (Zp 5 rfl Yf (Zp 6 rfl Yf ?_)))
 obtain ⟨x107, v108, h⟩ := h
 refine Zp 7 rfl (Yo v108) (GA.eff 3 rfl (by kernel_rfl) (Zc h Qcd ?_))
 rintro _ H111 ⟨r110, rfl, h⟩
 obtain ⟨hle109, h⟩ := h
 refine GA.back hle109 (GA.eff 8 rfl (by kernel_rfl) (Zc h Qdm ?_))
 rintro _ H114 ⟨r113, rfl, h⟩
 obtain ⟨hle112, h⟩ := h
 refine GA.back hle112 (Zp 9 rfl Ya (Zp 10 rfl Ya (GA.done (by kernel_rfl) (GL.nil (GC.seq ?_)))))
 obtain ⟨J115, h, hR118⟩ := h
 refine GC.meet (α := Bool) J115 (fun x116 => [(8, .bool x116), (1, pv p_l), (2, pv p_x), (3, pv (some (b1, 0))), (7, pv (some x4)), (22, slv r110)]) ?_ ?_
 obtain ⟨Hs119, hle120, h⟩ := h
 refine GC.any (Hs := Hs119) (by kernel_rfl) hle120 (Zp 0 rfl Ym ?_)
 obtain ⟨x121, v122, h⟩ := h
 refine Zp 1 rfl (OV.loadT rfl rfl rfl v122) (Zp 3 rfl Ym (Zp 4 rfl Yf ?_))
 obtain ⟨x123, v124, h⟩ := h
 refine Zp 5 rfl (OV.loadT rfl rfl rfl v124) (GA.eff 2 rfl (by kernel_rfl) (Zc h QcE ?_))
 rintro _ H127 ⟨r126, rfl, h⟩
 obtain ⟨hle125, h⟩ := h
 refine GA.back hle125 (GA.eff 6 rfl (by kernel_rfl) (Zc h Qg7 ?_))
 rintro _ H130 ⟨r129, rfl, h⟩
 obtain ⟨hle128, h⟩ := h
 refine GA.back hle128 (Zp 7 rfl (OV.eqlBool rfl rfl rfl) (Zp 8 rfl Ym ?_))
 rcases h.em with ⟨u131, h⟩ | ⟨u131, h⟩
 refine Zg 9 rfl (Yt u131) Ym (Zg 10 rfl (Yt u131) Ym (GA.eff 11 rfl (by kernel_rfl) (GL.call h (Yt u131) rfl Qdl (vs := [slv r110, slv r113]) rfl ?_)))
 rintro _ H134 ⟨r133, rfl, h⟩
 obtain ⟨hle132, h⟩ := h
 refine GA.back hle132 (Zp 12 rfl (OV.pickT rfl u131 rfl) (Zp 13 rfl Ya (GA.done (by kernel_rfl) ?_)))
 exact Yj I3 r133 h
 refine Zj 9 rfl (Yw u131) (Zj 10 rfl (Yw u131) (Zj 11 rfl (Yw u131) (Zp 12 rfl (OV.pickF rfl u131 rfl) (Zp 13 rfl Ya (GA.done (by kernel_rfl) ?_)))))
 exact Yj I3 false h
 intro x116 H117 h
 replace h := hR118 x116 H117 h
 refine GL.nil (Zo (Za (GL.nil (GC.block (Yp h (fun x135 => [(24, .int .i64 x135), (1, pv p_l), (2, pv p_x), (3, pv (some (b1, 0))), (7, pv (some x4)), (8, .bool x116), (22, slv r110)]) ?_)))))
 intro x135 H137 J136 h
 refine GC.seq (Zo (Zm (Zm (Zq (Zi (.bool (decide ((x135 : Int) < (Sl.len r110 : Int)))) (GL.nil (Yd h (fun u138 h => ?_) fun u138 h => ?_)))))))
 refine GC.skip (GC.seq (GC.block (GC.region (Zm (Zm (Yx h fun p139 h => ?_))))))
 refine Yl h fun x144 h => ?_
 refine Zc h QbS ?_
 rintro _ H146 ⟨rfl, h⟩
 refine GL.nil_to (fun _ _ h => h) (GC.region (Zm (Zi (.int .i64 (w .i64 (x135 + 1))) (Za ?_))))
 exact Yj I3 (w .i64 (x135 + 1)) h
 exact GC.exit_jump (fun _ _ h => h) x116 h ⟨rfl, rfl, rfl, rfl, rfl, trivial⟩
 intro x28 H29 h
 replace h := hR30 x28 H29 h
 refine Zo (Zm (Zm ?_))
 obtain ⟨J148, h, hR149⟩ := h
 refine GL.cut (α := Bool) 7 J148 (fun b147 => [(176, .bool b147), (1, pv p_l), (2, pv p_x), (7, pv (some x4))]) ?_ ?_
 rcases h.em with ⟨u150, h⟩ | ⟨u150, h⟩
 refine Zu u150 Yf ?_
 obtain ⟨x151, v152, h⟩ := h
 refine Zu u150 (Yo v152) (Zu u150 Yf (Zu u150 Yf ?_))
 obtain ⟨x153, v154, h⟩ := h
 refine Zu u150 (Yo v154) (GL.call h (Yt u150) rfl Qbl (vs := [slv x151, slv x153]) rfl ?_)
 rintro _ H156 ⟨r155, rfl, h⟩
 refine Zt u150 ?_
 exact Yj I3 r155 h
 refine Zk u150 (Zk u150 (Zk u150 (Zk u150 (Zk u150 (Zk u150 (Zn u150 ?_))))))
 exact Yj I3 false h
 intro b147 H157 h
 replace h := hR149 b147 H157 h
 refine Za (GL.nil (Zo (Zf (Yl h fun x158 h => ?_))))
 refine Zc h QbS ?_
 rintro _ H160 ⟨rfl, h⟩
 refine GL.nil (GC.seq ?_)
 obtain ⟨Hs161, hle162, h⟩ := h
 refine GC.any (Hs := Hs161) (by kernel_rfl) hle162 (Zp 0 rfl Ym (Zp 1 rfl Ym ?_))
 rcases h.em with ⟨u163, h⟩ | ⟨u163, h⟩
 refine Zg 2 rfl (Yt u163) Ym (Zg 4 rfl (Yt u163) Ym ?_)
 obtain ⟨p164, hp165, h⟩ := h
 refine Zg 5 rfl (Yt u163) (OV.nilCheck (q := p_x) rfl hp165) (Zg 6 rfl (Yt u163) Yf ?_)
 obtain ⟨x166, v167, h⟩ := h
 refine Zg 7 rfl (Yt u163) (Yo v167) (Zg 8 rfl (Yt u163) (OV.lenSl rfl rfl) (Zg 9 rfl (Yt u163) (OV.ibin (v := .int .i64 (w .i64 ((Sl.len x166 : Int) - 1))) rfl rfl rfl) (GA.eff 3 rfl (by kernel_rfl) (GL.call h (Yt u163) rfl Qcc (vs := [pv p_l]) rfl ?_))))
 rintro _ H170 ⟨r169, rfl, h⟩
 obtain ⟨hle168, h⟩ := h
 refine GA.back hle168 (Zg 10 rfl (Yt u163) (OV.ibin (v := .bool ((r169 : Int) == (w .i64 ((Sl.len x166 : Int) - 1)))) rfl rfl rfl) (Zp 11 rfl (OV.pickT rfl u163 rfl) (Zp 12 rfl Ym ?_)))
 rcases h.em with ⟨u171, h⟩ | ⟨u171, h⟩
 refine Zg 13 rfl (Yt u171) Ym (Zg 15 rfl (Yt u171) Ym (GA.eff 14 rfl (by kernel_rfl) (GL.call h (Yt u171) rfl Qdp (vs := [pv p_l]) rfl ?_)))
 rintro _ H174 ⟨r173, rfl, h⟩
 obtain ⟨hle172, h⟩ := h
 refine GA.back hle172 (GA.eff 16 rfl (by kernel_rfl) (GL.call h (Yt u171) rfl QcR (vs := [pv p_x]) rfl ?_))
 rintro _ H177 ⟨r176, rfl, h⟩
 obtain ⟨hle175, h⟩ := h
 refine GA.back hle175 (GA.eff 17 rfl (by kernel_rfl) (GL.call h (Yt u171) rfl QfX (vs := [slv r173, slv r176]) rfl ?_))
 rintro _ H180 ⟨r179, rfl, h⟩
 obtain ⟨hle178, h⟩ := h
 refine GA.back hle178 (Zp 18 rfl (OV.pickT rfl u171 rfl) (Zp 19 rfl Ya (GA.done (by kernel_rfl) (GL.nil ?_))))
 exact Y1 I3 ⟨r179, rfl, h⟩
 refine Zj 13 rfl (Yw u171) (Zj 14 rfl (Yw u171) (Zj 15 rfl (Yw u171) (Zj 16 rfl (Yw u171) (Zj 17 rfl (Yw u171) (Zp 18 rfl (OV.pickF rfl u171 rfl) (Zp 19 rfl Ya (GA.done (by kernel_rfl) (GL.nil ?_))))))))
 exact Y1 I3 ⟨false, rfl, h⟩
 refine Zj 2 rfl (Yw u163) (Zj 3 rfl (Yw u163) (Zj 4 rfl (Yw u163) (Zj 5 rfl (Yw u163) (Zj 6 rfl (Yw u163) (Zj 7 rfl (Yw u163) (Zj 8 rfl (Yw u163) (Zj 9 rfl (Yw u163) (Zj 10 rfl (Yw u163) (Zp 11 rfl (OV.pickF rfl u163 rfl) (Zp 12 rfl Ym (Zj 13 rfl (Yw rfl) (Zj 14 rfl (Yw rfl) (Zj 15 rfl (Yw rfl) (Zj 16 rfl (Yw rfl) (Zj 17 rfl (Yw rfl) (Zp 18 rfl (OV.pickF rfl rfl rfl) (Zp 19 rfl Ya (GA.done (by kernel_rfl) (GL.nil ?_)))))))))))))))))))
 exact Y1 I3 ⟨false, rfl, h⟩
def QcZ (C : Ctx) (p_l : Option (Nat × Nat)) (K : Sl → Heap → Prop) (H : Heap) : Prop :=
 lp (α := Sl × Int) (Sl.nil, 0) H (fun x1 J2 H3 =>
 Qm C p_l (fun r4 H5 =>
 ift (decide ((x1.2 : Int) < (Sl.len r4 : Int)))
 (jn (α := Sl) (fun x8 H9 =>
 J2 (x8, (w .i64 (x1.2 + 1))) H9)
 (fun J7 => jn (α := Bool) (fun x12 H13 =>
 ift x12
 (Qm C p_l (fun r37 H38 =>
 ixa r37 x1.2 fun p39 =>
 ldS H38 ((p39.1, p39.2 + (x1.2 : Int).toNat * 2).1, (p39.1, p39.2 + (x1.2 : Int).toNat * 2).2 + 0) fun x44 =>
 apd ([sv []]) 16 x1.1 ([sv x44]) 1 (fun r46 H47 =>
 J7 r46 H47) H38) H13)
 (J7 x1.1 H13))
 (fun J11 => dr H5 fun Hs15 =>
 ift (((Sl.len x1.1 : Int) : Int) == 0)
 (J11 true H5)
 (ixa x1.1 (w .i64 ((Sl.len x1.1 : Int) - 1)) fun p18 =>
 ldS Hs15 (p18.1, p18.2 + (w .i64 ((Sl.len x1.1 : Int) - 1) : Int).toNat * 1) fun x23 =>
 Qm C p_l (fun r26 H27 =>
 Heap.le Hs15 H27 ∧
 ixa r26 x1.2 fun p28 =>
 ldS H27 ((p28.1, p28.2 + (x1.2 : Int).toNat * 2).1, (p28.1, p28.2 + (x1.2 : Int).toNat * 2).2 + 0) fun x34 =>
 Heap.le Hs15 H27 ∧
 J11 (!(x23 == x34)) H27) H5))))
 (K x1.1 H5)) H3)
theorem QfH (C p_l K H) (h : QcZ C p_l K H) : Qa4 C p_l K H := by
 refine Ye Tryz.func20 rfl Tryz.ntmps20 [(0, pv p_l)] (Zo (Za (GL.nil (Zo (Za (GL.nil (GC.seq (Zo (Za (GL.nil (GC.block (Yp h (fun x1 => [(3, slv x1.1), (4, .int .i64 x1.2), (0, pv p_l)]) ?_))))))))))))
 intro x1 H3 J2 h
 refine GC.seq (Zo (Zm (Zm (Zc h Qp ?_))))
 rintro _ H5 ⟨r4, rfl, h⟩
 refine Zq (Zi (.bool (decide ((x1.2 : Int) < (Sl.len r4 : Int)))) (GL.nil (Yd h (fun u6 h => ?_) fun u6 h => ?_)))
 refine GC.skip ?_
 obtain ⟨J7, h, hR10⟩ := h
 refine GC.join (α := Sl) J7 (fun x8 => [(3, slv x8), (0, pv p_l), (4, .int .i64 x1.2)]) ?_ ?_
 refine GC.block (GC.seq ?_)
 obtain ⟨J11, h, hR14⟩ := h
 refine GC.meet (α := Bool) J11 (fun x12 => [(29, .bool x12), (0, pv p_l), (3, slv x1.1), (4, .int .i64 x1.2)]) ?_ ?_
 obtain ⟨Hs15, hle16, h⟩ := h
 refine GC.any (Hs := Hs15) (by kernel_rfl) hle16 (Zp 0 rfl Ym (Zp 1 rfl (OV.lenSl rfl rfl) (Zp 2 rfl (OV.ibin (v := .bool (((Sl.len x1.1 : Int) : Int) == 0)) rfl rfl rfl) (Zp 3 rfl Ym ?_))))
 rcases h.em with ⟨u17, h⟩ | ⟨u17, h⟩
 refine Zj 4 rfl (Yw u17) (Zj 5 rfl (Yw u17) (Zj 6 rfl (Yw u17) (Zj 7 rfl (Yw u17) (Zj 8 rfl (Yw u17) (Zj 9 rfl (Yw u17) (Zj 10 rfl (Yw u17) (Zj 11 rfl (Yw u17) (Zj 12 rfl (Yw u17) (Zj 13 rfl (Yw u17) (Zj 14 rfl (Yw u17) (Zj 15 rfl (Yw u17) (Zj 16 rfl (Yw u17) (Zp 17 rfl (OV.pickT rfl u17 rfl) (GA.done (by kernel_rfl) ?_))))))))))))))
 exact Yj I3 true h
 refine Zg 4 rfl (Yt u17) Ym (Zg 5 rfl (Yt u17) Ym (Zg 6 rfl (Yt u17) (OV.lenSl rfl rfl) (Zg 7 rfl (Yt u17) (OV.ibin (v := .int .i64 (w .i64 ((Sl.len x1.1 : Int) - 1))) rfl rfl rfl) ?_)))
 obtain ⟨p18, ha19, hb20, u21, hd22, h⟩ := h
 refine Zg 8 rfl (Yt u17) (OV.indexAddr rfl rfl rfl rfl ha19 hb20 u21 hd22) ?_
 obtain ⟨x23, v24, h⟩ := h
 refine Zg 9 rfl (Yt u17) (Yo v24) (Zg 10 rfl (Yt u17) Ym (Zg 12 rfl (Yt u17) Ym (GA.eff 11 rfl (by kernel_rfl) (GL.call h (Yt u17) rfl Qp (vs := [pv p_l]) rfl ?_))))
 rintro _ H27 ⟨r26, rfl, h⟩
 obtain ⟨hle25, h⟩ := h
 refine GA.back hle25 ?_
 obtain ⟨p28, ha29, hb30, u31, hd32, h⟩ := h
 refine Zg 13 rfl (Yt u17) (OV.indexAddr rfl rfl rfl rfl ha29 hb30 u31 hd32) (Zg 14 rfl (Yt u17) Yf (GA.eff 15 rfl (by kernel_rfl) ?_))
 obtain ⟨x34, v35, h⟩ := h
 refine Zu u17 (Yo v35) ?_
 obtain ⟨hle33, h⟩ := h
 refine GA.back hle33 (Zg 16 rfl (Yt u17) (OV.sbin (a := x23) (b := x34) (v := .bool (!(x23 == x34))) rfl rfl rfl) (Zp 17 rfl (OV.pickF rfl u17 rfl) (GA.done (by kernel_rfl) ?_)))
 exact Yj I3 (!(x23 == x34)) h
 intro x12 H13 h
 replace h := hR14 x12 H13 h
 refine GL.nil (Yd h (fun u36 h => ?_) fun u36 h => ?_)
 refine GC.region (Zm (Zm (Zc h Qp ?_)))
 rintro _ H38 ⟨r37, rfl, h⟩
 refine Zm (Yx h fun p39 h => ?_)
 refine Zf (Yl h fun x44 h => ?_)
 refine GL.appendLit (s := x1.1) (ys := [sv x44]) (zc := [sv []]) (bytes := 16) h trivial rfl (fun _ => trivial) rfl (fun _ => rfl) (fun _ => rfl) (vs := [(0, sv x44)]) rfl ⟨9, fun _ => by kernel_rfl⟩ ⟨⟨_, _, _, rfl, rfl, rfl, rfl, rfl, rfl⟩⟩ rfl rfl ?_
 intro _ r46 H47 h
 refine Za ?_
 exact Yj I3 r46 h
 exact Yk I3 x1.1 h
 intro x8 H9 h
 replace h := hR10 x8 H9 h
 refine GC.region (Zm (Zi (.int .i64 (w .i64 (x1.2 + 1))) (Za ?_)))
 exact Yj I3 (x8, (w .i64 (x1.2 + 1))) h
 refine GC.exit_to (fun _ _ h => h) (Zo (Zm (Za (GL.nil ?_))))
 exact Y1 I3 ⟨x1.1, rfl, h⟩
def Qdr (C : Ctx) (p_a : Sl) (p_b : Sl) (K : Bool → Heap → Prop) (H : Heap) : Prop :=
 ift (((Sl.len p_a : Int) : Int) != (Sl.len p_b : Int))
 (K false H)
 (lp (α := Int) 0 H (fun x2 J3 H4 =>
 ift (decide ((x2 : Int) < (Sl.len p_a : Int)))
 (dr H4 fun Hs6 =>
 ixa p_a x2 fun p8 =>
 ldL Hs6 (p8.1, p8.2 + (x2 : Int).toNat * 1) fun x13 =>
 ixa p_b x2 fun p15 =>
 ldL Hs6 (p15.1, p15.2 + (x2 : Int).toNat * 1) fun x20 =>
 Q1 C x13 x20 (fun r23 H24 =>
 Heap.le Hs6 H24 ∧
 ift (!r23)
 (K false H24)
 (J3 (w .i64 (x2 + 1)) H24)) H4)
 (K true H4)))
theorem Qgk (C p_a p_b K H) (h : Qdr C p_a p_b K H) : Qax C p_a p_b K H := by
 refine Ye Tryz.func21 rfl Tryz.ntmps21 [(0, slv p_a), (1, slv p_b)] (Zo (Za (GL.nil (GC.seq (Zo (Zm (Zq (Zm (Zq (Zi (.bool (((Sl.len p_a : Int) : Int) != (Sl.len p_b : Int))) (GL.nil (Yd h (fun u1 h => ?_) fun u1 h => ?_))))))))))))
 refine Zo (Za (GL.nil ?_))
 exact Y1 I3 ⟨false, rfl, h⟩
 refine GC.skip (GC.seq (Zo (Za (GL.nil (GC.block (Yp h (fun x2 => [(5, .int .i64 x2), (0, slv p_a), (1, slv p_b)]) ?_))))))
 intro x2 H4 J3 h
 refine GC.seq (Zo (Zm (Zm (Zq (Zi (.bool (decide ((x2 : Int) < (Sl.len p_a : Int)))) (GL.nil (Yd h (fun u5 h => ?_) fun u5 h => ?_)))))))
 refine GC.skip (GC.seq (GC.block (GC.seq ?_)))
 obtain ⟨Hs6, hle7, h⟩ := h
 refine GC.any (Hs := Hs6) (by kernel_rfl) hle7 (Zp 0 rfl Ym (Zp 1 rfl Ym ?_))
 obtain ⟨p8, ha9, hb10, u11, hd12, h⟩ := h
 refine Zp 2 rfl (OV.indexAddr rfl rfl rfl rfl ha9 hb10 u11 hd12) ?_
 obtain ⟨x13, v14, h⟩ := h
 refine Zp 3 rfl (Yo v14) (Zp 4 rfl Ym (Zp 5 rfl Ym ?_))
 obtain ⟨p15, ha16, hb17, u18, hd19, h⟩ := h
 refine Zp 6 rfl (OV.indexAddr rfl rfl rfl rfl ha16 hb17 u18 hd19) ?_
 obtain ⟨x20, v21, h⟩ := h
 refine Zp 7 rfl (Yo v21) (GA.eff 8 rfl (by kernel_rfl) (Zc h Qbl ?_))
 rintro _ H24 ⟨r23, rfl, h⟩
 obtain ⟨hle22, h⟩ := h
 refine GA.back hle22 (Zp 9 rfl (OV.not rfl) (GA.done (by kernel_rfl) (GL.nil (Yd h (fun u25 h => ?_) fun u25 h => ?_))))
 refine Zo (Za (GL.nil ?_))
 exact Y1 I3 ⟨false, rfl, h⟩
 refine GC.skip_to (fun _ _ h => h) (GC.region (Zm (Zi (.int .i64 (w .i64 (x2 + 1))) (Za ?_))))
 exact Yj I3 (w .i64 (x2 + 1)) h
 refine GC.exit_to (fun _ _ h => h) (Zo (Za (GL.nil ?_)))
 exact Y1 I3 ⟨true, rfl, h⟩
def Qee (C : Ctx) (p_l : Option (Nat × Nat)) (p_rel : Str) (K : Sl → Heap → Prop) (H : Heap) : Prop :=
 ift (Option.isNone p_l)
 (K Sl.nil H)
 (nck p_l fun p2 =>
 ldM H (p2.1, p2.2 + 0) fun x4 =>
 lkM sv (fun x : Option Nat => (mv x : Value)) none x4 p_rel (fun x6 is7 =>
 rgM sv (fun x : Sl => (slv x : Value)) x6 (fun b9 H10 =>
 lp (α := Sl) Sl.nil H10 (fun x11 J12 H13 =>
 nxB sv (fun x : Sl => (slv x : Value)) b9 (fun b14 H15 =>
 ift b14
 (enM sv (fun x : Sl => (slv x : Value)) b9 (fun k17 x18 =>
 QaD C x18 (fun r20 H21 =>
 apd ([slv Sl.nil]) 24 x11 ([slv r20]) 1 (fun r22 H23 =>
 J12 r22 H23) H21) H15) H15)
 (QB C x11 (.func (.func 37) (List.toArray []) (List.toArray []) : Value) (fun H24 =>
 K x11 H24) H15)) H13)) H) H)
theorem Qg3 (C p_l p_rel K H) (h : Qee C p_l p_rel K H) : Qak C p_l p_rel K H := by
 refine Ye Tryz.func22 rfl Tryz.ntmps22 [(0, pv p_l), (1, sv p_rel)] (Zo (Za (GL.nil (GC.seq (Zo (Zm (Zv (OV.eqlNil (p := p_l) rfl rfl rfl) (GL.nil (Yd h (fun u1 h => ?_) fun u1 h => ?_)))))))))
 refine Zo (Za (GL.nil ?_))
 exact Y1 I3 ⟨Sl.nil, rfl, h⟩
 refine GC.skip (Zo (Za (GL.nil (GC.seq (Zo (Zm ?_))))))
 obtain ⟨p2, hp3, h⟩ := h
 refine Zv (OV.nilCheck (q := p_l) rfl hp3) (Zf (Yl h fun x4 h => ?_))
 refine Zm ?_
 obtain ⟨x6, is7, v8, h⟩ := h
 refine Zv (OV.lookup1 (v := mv x6) (ke := sv) (enc := (fun x : Option Nat => (mv x : Value))) (z := none) (q := x4) (k := p_rel) (x := x6) (b := is7) rfl v8 rfl rfl rfl (kText rfl) rfl) (GL.rangeQ (ke := sv) (enc := (fun x : Sl => (slv x : Value))) (q := x6) h trivial rfl rfl rfl (kText rfl) ?_)
 intro b9 H10 h
 refine GL.nil (GC.block (Yp h (fun x11 => [(5, slv x11), (16, pv (some (b9, 0)))]) ?_))
 intro x11 H13 J12 h
 refine Zo (GL.nextB (ke := sv) (enc := (fun x : Sl => (slv x : Value))) (it := b9) h trivial rfl rfl rfl rfl rfl ?_)
 intro b14 H15 h
 refine GL.nil (GC.seq (Yd h (fun u16 h => ?_) fun u16 h => ?_))
 refine GC.skip (GC.block (Zo ?_))
 obtain ⟨k17, x18, v19, h⟩ := h
 refine Zv (OV.entryM (ke := sv) (enc := (fun x : Sl => (slv x : Value))) (it := b9) (k := k17) (x := x18) (v := .tuple #[sv k17, slv x18]) rfl v19 rfl) (Yv (slv x18) rfl rfl (Za (GL.nil (GC.region (Zm (Zm (Zc h QcF ?_)))))))
 rintro _ H21 ⟨r20, rfl, h⟩
 refine GL.appendLit (s := x11) (ys := [slv r20]) (zc := [slv Sl.nil]) (bytes := 24) h trivial rfl (fun _ => trivial) rfl (fun _ => rfl) (fun _ => rfl) (vs := [(0, slv r20)]) rfl ⟨28, fun _ => by kernel_rfl⟩ ⟨⟨_, _, _, rfl, rfl, rfl, rfl, rfl, rfl⟩⟩ rfl rfl ?_
 intro _ r22 H23 h
 refine Za ?_
 exact Yj I3 r22 h
 refine GC.exit_to (fun _ _ h => h) (Zo (Zm (Zc h Qa8 ?_)))
 rintro _ H24 ⟨rfl, h⟩
 refine GL.nil (Zo (Zm (Za (GL.nil ?_))))
 exact Y1 I3 ⟨x11, rfl, h⟩
def Qdt (C : Ctx) (p_l : Option (Nat × Nat)) (p_rel : Str) (K : Sl → Heap → Prop) (H : Heap) : Prop :=
 lp (α := Sl × Int) (Sl.nil, 0) H (fun x1 J2 H3 =>
 Qm C p_l (fun r4 H5 =>
 ift (decide ((x1.2 : Int) < (Sl.len r4 : Int)))
 (jn (α := Sl) (fun x8 H9 =>
 J2 (x8, (w .i64 (x1.2 + 1))) H9)
 (fun J7 => Qm C p_l (fun r11 H12 =>
 ixa r11 x1.2 fun p13 =>
 ldS H12 ((p13.1, p13.2 + (x1.2 : Int).toNat * 2).1, (p13.1, p13.2 + (x1.2 : Int).toNat * 2).2 + 0) fun x18 =>
 ift (x18 == p_rel)
 (Qm C p_l (fun r21 H22 =>
 ixa r21 x1.2 fun p23 =>
 ldL H22 ((p23.1, p23.2 + (x1.2 : Int).toNat * 2).1, (p23.1, p23.2 + (x1.2 : Int).toNat * 2).2 + 1) fun x28 =>
 apd ([slv Sl.nil]) 24 x1.1 ([slv x28]) 1 (fun r30 H31 =>
 J7 r30 H31) H22) H12)
 (J7 x1.1 H12)) H5))
 (K x1.1 H5)) H3)
theorem Qgm (C p_l p_rel K H) (h : Qdt C p_l p_rel K H) : Qay C p_l p_rel K H := by
 refine Ye Tryz.func23 rfl Tryz.ntmps23 [(0, pv p_l), (1, sv p_rel)] (Zo (Za (GL.nil (Zo (Za (GL.nil (GC.seq (Zo (Za (GL.nil (GC.block (Yp h (fun x1 => [(5, slv x1.1), (6, .int .i64 x1.2), (0, pv p_l), (1, sv p_rel)]) ?_))))))))))))
 intro x1 H3 J2 h
 refine GC.seq (Zo (Zm (Zm (Zc h Qp ?_))))
 rintro _ H5 ⟨r4, rfl, h⟩
 refine Zq (Zi (.bool (decide ((x1.2 : Int) < (Sl.len r4 : Int)))) (GL.nil (Yd h (fun u6 h => ?_) fun u6 h => ?_)))
 refine GC.skip ?_
 obtain ⟨J7, h, hR10⟩ := h
 refine GC.join (α := Sl) J7 (fun x8 => [(5, slv x8), (0, pv p_l), (1, sv p_rel), (6, .int .i64 x1.2)]) ?_ ?_
 refine GC.block (Zo (Zm (Zc h Qp ?_)))
 rintro _ H12 ⟨r11, rfl, h⟩
 refine Zm (Yx h fun p13 h => ?_)
 refine Zf (Yl h fun x18 h => ?_)
 refine Zm (Zv (OV.sbin (a := x18) (b := p_rel) (v := .bool (x18 == p_rel)) rfl rfl rfl) (GL.nil (Yd h (fun u20 h => ?_) fun u20 h => ?_)))
 refine GC.region (Zm (Zm (Zc h Qp ?_)))
 rintro _ H22 ⟨r21, rfl, h⟩
 refine Zm (Yx h fun p23 h => ?_)
 refine Zf (Yl h fun x28 h => ?_)
 refine GL.appendLit (s := x1.1) (ys := [slv x28]) (zc := [slv Sl.nil]) (bytes := 24) h trivial rfl (fun _ => trivial) rfl (fun _ => rfl) (fun _ => rfl) (vs := [(0, slv x28)]) rfl ⟨28, fun _ => by kernel_rfl⟩ ⟨⟨_, _, _, rfl, rfl, rfl, rfl, rfl, rfl⟩⟩ rfl rfl ?_
 intro _ r30 H31 h
 refine Za ?_
 exact Yj I3 r30 h
 exact Yk I3 x1.1 h
 intro x8 H9 h
 replace h := hR10 x8 H9 h
 refine GC.region (Zm (Zi (.int .i64 (w .i64 (x1.2 + 1))) (Za ?_)))
 exact Yj I3 (x8, (w .i64 (x1.2 + 1))) h
 refine GC.exit_to (fun _ _ h => h) (Zo (Zm (Za (GL.nil ?_))))
 exact Y1 I3 ⟨x1.1, rfl, h⟩
def Qc1 (C : Ctx) (p_l : Option (Nat × Nat)) (K : Heap → Prop) (H : Heap) : Prop :=
 ift (!(Option.isNone p_l))
 (nck p_l fun p2 =>
 st (p2.1, p2.2 + 1) (slv Sl.nil) (fun H4 =>
 K H4) H)
 (K H)
theorem QfJ (C p_l K H) (h : Qc1 C p_l K H) : Qa6 C p_l K H := by
 refine Ye Tryz.func24 rfl Tryz.ntmps24 [(0, pv p_l)] (Zo (Zm (Zv (OV.neqNil (p := p_l) rfl rfl rfl) (GL.nil (Yd h (fun u1 h => ?_) fun u1 h => ?_)))))
 refine GC.region (Zm ?_)
 obtain ⟨p2, hp3, h⟩ := h
 refine Zv (OV.nilCheck (q := p_l) rfl hp3) (Zf (GL.store (p := (p2.1, p2.2 + 1)) (v := slv Sl.nil) h trivial rfl rfl rfl rfl ?_))
 intro H4 h
 exact GL.ends (fun _ _ hf hs => Qy rfl hf hs ⟨rfl, h⟩)
 exact GC.ends (fun _ _ hf hs => Qy rfl hf hs ⟨rfl, h⟩)
def QeE (C : Ctx) (p_l : Option (Nat × Nat)) (p_r : Qb) (K : Bool → Heap → Prop) (H : Heap) : Prop :=
 nw (Qb.c p_r) (fun b1 H2 =>
 ift (Option.isNone p_l)
 (K false H2)
 (ldL H2 ((b1, 0).1, (b1, 0).2 + 1) fun x4 =>
 Qdj C x4 (fun r6 r7 H8 =>
 nck p_l fun p9 =>
 ldM H8 (p9.1, p9.2 + 0) fun x11 =>
 ldS H8 ((b1, 0).1, (b1, 0).2 + 0) fun x13 =>
 lkM sv (fun x : Option Nat => (mv x : Value)) none x11 x13 (fun x15 is16 =>
 lkM sv (fun x : Sl => (slv x : Value)) Sl.nil x15 r6 (fun x18 is19 =>
 K (r7 && is19) H8) H8) H8) H2)) H
theorem Qhm (C p_l p_r K H) (h : QeE C p_l p_r K H) : Qah C p_l p_r K H := by
 refine Ye Tryz.func25 rfl Tryz.ntmps25 [(0, pv p_l), (1, .agg (Qb.c p_r).toArray)] (Zo (GL.box (v := .agg (Qb.c p_r).toArray) (cs := Qb.c p_r) h trivial rfl rfl rfl ?_))
 intro b1 H2 h
 refine Za (GL.nil (GC.seq (Zo (Zm (Zv (OV.eqlNil (p := p_l) rfl rfl rfl) (GL.nil (Yd h (fun u3 h => ?_) fun u3 h => ?_)))))))
 refine Zo (Za (GL.nil ?_))
 exact Y1 I3 ⟨false, rfl, h⟩
 refine GC.skip (Zo (Zf (Yl h fun x4 h => ?_)))
 refine Zc h Qfv ?_
 rintro _ H8 ⟨r6, r7, rfl, h⟩
 refine Zm (Yv (sv r6) rfl rfl (Yv (.bool r7) rfl rfl (Za (Za (GL.nil (GC.seq (GC.draw (by kernel_rfl) (by kernel_rfl) (GQ.val trivial rfl (OV.move (v := pv p_l) rfl) ?_))))))))
 obtain ⟨p9, hp10, h⟩ := h
 refine GQ.val trivial rfl (OV.nilCheck (q := p_l) rfl hp10) (GQ.val trivial rfl (OV.fieldAddr (p := p9) rfl rfl) ?_)
 obtain ⟨x11, v12, h⟩ := h
 refine GQ.val trivial rfl (OV.load (p := (p9.1, p9.2 + 0)) rfl rfl v12) (GQ.val trivial rfl (OV.fieldAddr (p := (b1, 0)) rfl rfl) ?_)
 obtain ⟨x13, v14, h⟩ := h
 refine GQ.val trivial rfl (OV.load (p := ((b1, 0).1, (b1, 0).2 + 0)) rfl rfl v14) ?_
 obtain ⟨x15, is16, v17, h⟩ := h
 refine GQ.val trivial rfl (OV.lookup1 (v := mv x15) (ke := sv) (enc := (fun x : Option Nat => (mv x : Value))) (z := none) (q := x11) (k := x13) (x := x15) (b := is16) rfl v17 rfl rfl rfl (kText rfl) rfl) (GQ.val trivial rfl (OV.move (v := sv r6) rfl) ?_)
 obtain ⟨x18, is19, v20, h⟩ := h
 refine GQ.val trivial rfl (OV.lookup2 (v := .tuple #[slv x18, .bool is19]) (ke := sv) (enc := (fun x : Sl => (slv x : Value))) (z := Sl.nil) (q := x15) (k := r6) (x := x18) (b := is19) rfl v20 rfl rfl rfl (kText rfl) rfl) (GQ.val trivial rfl (OV.move (v := .tuple #[slv x18, .bool is19]) rfl) (GQ.val trivial rfl (OV.extract (v := slv x18) rfl rfl) (GQ.val trivial rfl (OV.extract (v := .bool is19) rfl rfl) (GQ.val trivial rfl (OV.assign (v := slv x18) rfl) (GQ.val trivial rfl (OV.assign (v := .bool is19) rfl) (GQ.nil (GL.nil (Zo (Zm (Zm (GL.cut0 2 [(32, .bool (r7 && is19))] ?_ ?_)))))))))))
 rcases Bool.eq_false_or_eq_true r7 with u21 | u21
 refine Zu u21 Ym (Zt u21 ?_)
 exact GL.jump0 (fun _ _ h => h) () rfl ⟨(by rw [u21]; rfl), trivial⟩
 refine Zk u21 (Zn u21 ?_)
 exact GL.jump0 (fun _ _ h => h) () rfl ⟨(by rw [u21]; rfl), trivial⟩
 refine Za (GL.nil ?_)
 exact Y1 I3 ⟨(r7 && is19), rfl, h⟩
def Qdv (C : Ctx) (p_l : Option (Nat × Nat)) (K : Sl → Heap → Prop) (H : Heap) : Prop :=
 ift (Option.isNone p_l)
 (K Sl.nil H)
 (nck p_l fun p2 =>
 ldM H (p2.1, p2.2 + 0) fun x4 =>
 rgM sv (fun x : Option Nat => (mv x : Value)) x4 (fun b6 H7 =>
 lp (α := Sl) Sl.nil H7 (fun x8 J9 H10 =>
 nxB sv (fun x : Option Nat => (mv x : Value)) b6 (fun b11 H12 =>
 ift b11
 (enM sv (fun x : Option Nat => (mv x : Value)) b6 (fun k14 x15 =>
 apd ([sv []]) 16 x8 ([sv k14]) 1 (fun r17 H18 =>
 J9 r17 H18) H12) H12)
 (QaT C x8 (fun H19 =>
 K x8 H19) H12)) H10)) H)
theorem Qgo (C p_l K H) (h : Qdv C p_l K H) : Qbj C p_l K H := by
 refine Ye Tryz.func26 rfl Tryz.ntmps26 [(0, pv p_l)] (Zo (Za (GL.nil (GC.seq (Zo (Zm (Zv (OV.eqlNil (p := p_l) rfl rfl rfl) (GL.nil (Yd h (fun u1 h => ?_) fun u1 h => ?_)))))))))
 refine Zo (Za (GL.nil ?_))
 exact Y1 I3 ⟨Sl.nil, rfl, h⟩
 refine GC.skip (Zo (Za (GL.nil (GC.seq (Zo (Zm ?_))))))
 obtain ⟨p2, hp3, h⟩ := h
 refine Zv (OV.nilCheck (q := p_l) rfl hp3) (Zf (Yl h fun x4 h => ?_))
 refine GL.rangeQ (ke := sv) (enc := (fun x : Option Nat => (mv x : Value))) (q := x4) h trivial rfl rfl rfl (kText rfl) ?_
 intro b6 H7 h
 refine GL.nil (GC.block (Yp h (fun x8 => [(3, slv x8), (11, pv (some (b6, 0)))]) ?_))
 intro x8 H10 J9 h
 refine Zo (GL.nextB (ke := sv) (enc := (fun x : Option Nat => (mv x : Value))) (it := b6) h trivial rfl rfl rfl rfl rfl ?_)
 intro b11 H12 h
 refine GL.nil (GC.seq (Yd h (fun u13 h => ?_) fun u13 h => ?_))
 refine GC.skip (GC.block (Zo ?_))
 obtain ⟨k14, x15, v16, h⟩ := h
 refine Zv (OV.entryM (ke := sv) (enc := (fun x : Option Nat => (mv x : Value))) (it := b6) (k := k14) (x := x15) (v := .tuple #[sv k14, mv x15]) rfl v16 rfl) (Yv (sv k14) rfl rfl (Za (GL.nil (GC.region (Zm (Zm (GL.appendLit (s := x8) (ys := [sv k14]) (zc := [sv []]) (bytes := 16) h trivial rfl (fun _ => trivial) rfl (fun _ => rfl) (fun _ => rfl) (vs := [(0, sv k14)]) rfl ⟨9, fun _ => by kernel_rfl⟩ ⟨⟨_, _, _, rfl, rfl, rfl, rfl, rfl, rfl⟩⟩ rfl rfl ?_)))))))
 intro _ r17 H18 h
 refine Za ?_
 exact Yj I3 r17 h
 refine GC.exit_to (fun _ _ h => h) (Zo (Zm (Zc h Qcq ?_)))
 rintro _ H19 ⟨rfl, h⟩
 refine GL.nil (Zo (Zm (Za (GL.nil ?_))))
 exact Y1 I3 ⟨x8, rfl, h⟩
def Qd6 (C : Ctx) (p_a : Sl) (p_b : Sl) (K : Int → Heap → Prop) (H : Heap) : Prop :=
 Qbp C p_a (fun r1 H2 =>
 Qbp C p_b (fun r3 H4 =>
 ift ((!r1) || (!r3))
 (Qej C r1 r3 (fun r7 H8 =>
 K r7 H8) H4)
 (Qbv C p_a p_b (fun r9 H10 =>
 K r9 H10) H4)) H2) H
theorem QgV (C p_a p_b K H) (h : Qd6 C p_a p_b K H) : Qcw C p_a p_b K H := by
 refine Ye Tryz.func27 rfl Tryz.ntmps27 [(0, slv p_a), (1, slv p_b)] (Zo (Za (GL.nil (Zo (Zm (Zc h Qb2 ?_))))))
 rintro _ H2 ⟨r1, rfl, h⟩
 refine Zm (Zc h Qb2 ?_)
 rintro _ H4 ⟨r3, rfl, h⟩
 refine Za (Za (GL.nil (GC.seq (Zo (Zm (Zv (OV.not rfl) (Zm (GL.cut0 3 [(16, .bool ((!r1) || (!r3))), (0, slv p_a), (1, slv p_b), (5, .bool r1), (6, .bool r3)] ?_ ?_))))))))
 rcases Zb (!r1) with u5 | u5
 refine Zk u5 (Zk u5 (Zt u5 ?_))
 exact GL.jump0 (fun _ _ h => h) () rfl ⟨(by rw [u5]; rfl), rfl, rfl, rfl, rfl, trivial⟩
 refine Zu u5 Ym (Zu u5 (OV.not rfl) (Zn u5 ?_))
 exact GL.jump0 (fun _ _ h => h) () rfl ⟨(by rw [u5]; rfl), rfl, rfl, rfl, rfl, trivial⟩
 refine GL.nil (Yd h (fun u6 h => ?_) fun u6 h => ?_)
 refine Zo (Zm (Zm (Zc h Qjb ?_)))
 rintro _ H8 ⟨r7, rfl, h⟩
 refine Za (GL.nil ?_)
 exact Y1 I3 ⟨r7, rfl, h⟩
 refine GC.skip (Zo (Zm (Zm (Zc h QdR ?_))))
 rintro _ H10 ⟨r9, rfl, h⟩
 refine Za (GL.nil ?_)
 exact Y1 I3 ⟨r9, rfl, h⟩
def Qex (C : Ctx) (p_v : Qa) (p_most : Int) (K : Int → Heap → Prop) (H : Heap) : Prop :=
 nw (Qa.c p_v) (fun b1 H2 =>
 ldS H2 ((b1, 0).1, (b1, 0).2 + 2) fun x3 =>
 lp (α := Int × Int) ((w .i64 (1 + (w .i64 (Int.tdiv (List.length x3 : Int) 50)))), 0) H2 (fun x5 J6 H7 =>
 ldL H7 ((b1, 0).1, (b1, 0).2 + 3) fun x8 =>
 ift ((decide ((x5.2 : Int) < (Sl.len x8 : Int))) && (decide ((x5.1 : Int) < p_most)))
 (ldL H7 ((b1, 0).1, (b1, 0).2 + 3) fun x12 =>
 ixa x12 x5.2 fun p14 =>
 ldT H7 Qa.c (p14.1, p14.2 + (x5.2 : Int).toNat * 4) fun x19 =>
 QQ C x19 (w .i64 (p_most - x5.1)) (fun r21 H22 =>
 J6 ((w .i64 (x5.1 + r21)), (w .i64 (x5.2 + 1))) H22) H7)
 (K x5.1 H7))) H
theorem Qhf (C p_v p_most K H) (h : Qex C p_v p_most K H) : QQ C p_v p_most K H := by
 refine Ye Tryz.func28 rfl Tryz.ntmps28 [(0, .agg (Qa.c p_v).toArray), (1, .int .i64 p_most)] (Zo (GL.box (v := .agg (Qa.c p_v).toArray) (cs := Qa.c p_v) h trivial rfl rfl rfl ?_))
 intro b1 H2 h
 refine Za (GL.nil (Zo (Zf (Yl h fun x3 h => ?_))))
 refine Zr (Zv (OV.quo rfl rfl (by decide)) (Zi (.int .i64 (w .i64 (1 + (w .i64 (Int.tdiv (List.length x3 : Int) 50))))) (Za (GL.nil (GC.seq (Zo (Za (GL.nil (GC.block (Yp h (fun x5 => [(5, .int .i64 x5.1), (6, .int .i64 x5.2), (1, .int .i64 p_most), (2, pv (some (b1, 0)))]) ?_))))))))))
 intro x5 H7 J6 h
 refine GC.seq (Zo (Zm (Zf (Yl h fun x8 h => ?_))))
 refine Zq (Zi (.bool (decide ((x5.2 : Int) < (Sl.len x8 : Int)))) (Zm (GL.cut0 4 [(21, .bool ((decide ((x5.2 : Int) < (Sl.len x8 : Int))) && (decide ((x5.1 : Int) < p_most)))), (1, .int .i64 p_most), (2, pv (some (b1, 0))), (5, .int .i64 x5.1), (6, .int .i64 x5.2)] ?_ ?_)))
 rcases Zb (decide ((x5.2 : Int) < (Sl.len x8 : Int))) with u10 | u10
 refine Zu u10 Ym (Zu u10 Ym (Zu u10 (OV.ibin (v := .bool (decide ((x5.1 : Int) < p_most))) rfl rfl rfl) (Zt u10 ?_)))
 exact GL.jump0 (fun _ _ h => h) () rfl ⟨(by rw [u10]; rfl), rfl, rfl, rfl, rfl, trivial⟩
 refine Zk u10 (Zk u10 (Zk u10 (Zn u10 ?_)))
 exact GL.jump0 (fun _ _ h => h) () rfl ⟨(by rw [u10]; rfl), rfl, rfl, rfl, rfl, trivial⟩
 refine GL.nil (Yd h (fun u11 h => ?_) fun u11 h => ?_)
 refine GC.skip (GC.seq (GC.block (GC.region (Zm (Zf (Yl h fun x12 h => ?_))))))
 refine Zm (Yx h fun p14 h => ?_)
 obtain ⟨x19, v20, h⟩ := h
 refine Zv (OV.loadT rfl rfl rfl v20) (Zm (Zm (Zi (.int .i64 (w .i64 (p_most - x5.1))) (Zc h Qeo ?_))))
 rintro _ H22 ⟨r21, rfl, h⟩
 refine Zi (.int .i64 (w .i64 (x5.1 + r21))) (Za (GL.nil_to (fun _ _ h => h) (GC.region (Zm (Zi (.int .i64 (w .i64 (x5.2 + 1))) (Za ?_))))))
 exact Yj I3 ((w .i64 (x5.1 + r21)), (w .i64 (x5.2 + 1))) h
 refine GC.exit_to (fun _ _ h => h) (Zo (Zm (Za (GL.nil ?_))))
 exact Y1 I3 ⟨x5.1, rfl, h⟩
def QgL (C : Ctx) (p_rel : Str) (p_n : Int) (K : Qb → Heap → Prop) (H : Heap) : Prop :=
 nw (Qb.c Qb.zero) (fun b1 H2 =>
 nw ((Qa.c (⟨2, p_n, [], Sl.nil⟩ : Qa)) ++ []) (fun b3 H4 =>
 stT (b1, 0) (Qb.c (⟨p_rel, (Sl.of (some (b3, 0)) 1 1)⟩ : Qb)) (fun H5 =>
 ldT H5 Qb.c (b1, 0) fun x6 =>
 K x6 H5) H4) H2) H
theorem Qjv (C p_rel p_n K H) (h : QgL C p_rel p_n K H) : QN C p_rel p_n K H := by
 refine Ye Tryz.func29 rfl Tryz.ntmps29 [(0, sv p_rel), (1, .int .i64 p_n)] (Zo (GL.alloc (cs := Qb.c Qb.zero) h trivial rfl rfl rfl ?_))
 intro b1 H2 h
 refine GL.nil (Zo (Zm (Zm (Zv (OV.build (vs := [(0, .int .u8 2), (1, .int .i64 p_n)]) (v := .agg (Qa.c (⟨2, p_n, [], Sl.nil⟩ : Qa)).toArray) rfl (fun _ => by kernel_rfl)) (GL.buildSlice (cs := (Qa.c (⟨2, p_n, [], Sl.nil⟩ : Qa)) ++ []) h trivial rfl (vs := [(0, .agg (Qa.c (⟨2, p_n, [], Sl.nil⟩ : Qa)).toArray)]) rfl ⟨56, fun _ => by kernel_rfl⟩ ?_)))))
 intro b3 H4 h
 refine Zv (OV.build (vs := [(0, sv p_rel), (1, slv (Sl.of (some (b3, 0)) 1 1))]) (v := .agg (Qb.c (⟨p_rel, (Sl.of (some (b3, 0)) 1 1)⟩ : Qb)).toArray) rfl (fun _ => by kernel_rfl)) (GL.storeT (p := (b1, 0)) (vs := Qb.c (⟨p_rel, (Sl.of (some (b3, 0)) 1 1)⟩ : Qb)) h trivial rfl rfl rfl rfl ?_)
 intro H5 h
 refine GL.nil ?_
 obtain ⟨x6, v7, h⟩ := h
 exact GC.ret (fun _ _ hf hs => QlR rfl (RV.cellT (p := (b1, 0)) (cs := Qb.c x6) rfl rfl rfl v7) hf hs ⟨x6, rfl, h⟩)
def Qci (C : Ctx) (p_a : Sl) (p_b : Sl) (K : Bool → Heap → Prop) (H : Heap) : Prop :=
 ift (((Sl.len p_a : Int) : Int) != (Sl.len p_b : Int))
 (K false H)
 (lp (α := Int) 0 H (fun x2 J3 H4 =>
 ift (decide ((x2 : Int) < (Sl.len p_a : Int)))
 (jn (α := Bool) (fun x7 H8 =>
 ift x7
 (K false H8)
 (J3 (w .i64 (x2 + 1)) H8))
 (fun J6 => dr H4 fun Hs10 =>
 ixa p_a x2 fun p12 =>
 ldI Hs10 .i64 ((p12.1, p12.2 + (x2 : Int).toNat * 3).1, (p12.1, p12.2 + (x2 : Int).toNat * 3).2 + 2) fun x17 =>
 ixa p_b x2 fun p19 =>
 ldI Hs10 .i64 ((p19.1, p19.2 + (x2 : Int).toNat * 3).1, (p19.1, p19.2 + (x2 : Int).toNat * 3).2 + 2) fun x24 =>
 ift ((x17 : Int) != x24)
 (J6 true H4)
 (ixa p_a x2 fun p27 =>
 ldS Hs10 (((p27.1, p27.2 + (x2 : Int).toNat * 3).1, (p27.1, p27.2 + (x2 : Int).toNat * 3).2 + 0).1, ((p27.1, p27.2 + (x2 : Int).toNat * 3).1, (p27.1, p27.2 + (x2 : Int).toNat * 3).2 + 0).2 + 0) fun x32 =>
 ixa p_b x2 fun p34 =>
 ldS Hs10 (((p34.1, p34.2 + (x2 : Int).toNat * 3).1, (p34.1, p34.2 + (x2 : Int).toNat * 3).2 + 0).1, ((p34.1, p34.2 + (x2 : Int).toNat * 3).1, (p34.1, p34.2 + (x2 : Int).toNat * 3).2 + 0).2 + 0) fun x39 =>
 ift (!(x32 == x39))
 (J6 true H4)
 (ixa p_a x2 fun p42 =>
 ldL Hs10 (((p42.1, p42.2 + (x2 : Int).toNat * 3).1, (p42.1, p42.2 + (x2 : Int).toNat * 3).2 + 0).1, ((p42.1, p42.2 + (x2 : Int).toNat * 3).1, (p42.1, p42.2 + (x2 : Int).toNat * 3).2 + 0).2 + 1) fun x47 =>
 ixa p_b x2 fun p49 =>
 ldL Hs10 (((p49.1, p49.2 + (x2 : Int).toNat * 3).1, (p49.1, p49.2 + (x2 : Int).toNat * 3).2 + 0).1, ((p49.1, p49.2 + (x2 : Int).toNat * 3).1, (p49.1, p49.2 + (x2 : Int).toNat * 3).2 + 0).2 + 1) fun x54 =>
 Q1 C x47 x54 (fun r57 H58 =>
 Heap.le Hs10 H58 ∧
 J6 (!r57) H58) H4))))
 (K true H4)))
theorem QeW (C p_a p_b K H) (h : Qci C p_a p_b K H) : QO C p_a p_b K H := by
 refine Ye Tryz.func30 rfl Tryz.ntmps30 [(0, slv p_a), (1, slv p_b)] (Zo (Za (GL.nil (GC.seq (Zo (Zm (Zq (Zm (Zq (Zi (.bool (((Sl.len p_a : Int) : Int) != (Sl.len p_b : Int))) (GL.nil (Yd h (fun u1 h => ?_) fun u1 h => ?_))))))))))))
 refine Zo (Za (GL.nil ?_))
 exact Y1 I3 ⟨false, rfl, h⟩
 refine GC.skip (GC.seq (Zo (Za (GL.nil (GC.block (Yp h (fun x2 => [(5, .int .i64 x2), (0, slv p_a), (1, slv p_b)]) ?_))))))
 intro x2 H4 J3 h
 refine GC.seq (Zo (Zm (Zm (Zq (Zi (.bool (decide ((x2 : Int) < (Sl.len p_a : Int)))) (GL.nil (Yd h (fun u5 h => ?_) fun u5 h => ?_)))))))
 refine GC.skip (GC.seq (GC.block (GC.seq ?_)))
 obtain ⟨J6, h, hR9⟩ := h
 refine GC.meet (α := Bool) J6 (fun x7 => [(58, .bool x7), (0, slv p_a), (1, slv p_b), (5, .int .i64 x2)]) ?_ ?_
 obtain ⟨Hs10, hle11, h⟩ := h
 refine GC.any (Hs := Hs10) (by kernel_rfl) hle11 (Zp 0 rfl Ym (Zp 1 rfl Ym ?_))
 obtain ⟨p12, ha13, hb14, u15, hd16, h⟩ := h
 refine Zp 2 rfl (OV.indexAddr rfl rfl rfl rfl ha13 hb14 u15 hd16) (Zp 3 rfl Yf ?_)
 obtain ⟨x17, v18, h⟩ := h
 refine Zp 4 rfl (Yo v18) (Zp 5 rfl Ym (Zp 6 rfl Ym ?_))
 obtain ⟨p19, ha20, hb21, u22, hd23, h⟩ := h
 refine Zp 7 rfl (OV.indexAddr rfl rfl rfl rfl ha20 hb21 u22 hd23) (Zp 8 rfl Yf ?_)
 obtain ⟨x24, v25, h⟩ := h
 refine Zp 9 rfl (Yo v25) (Zp 10 rfl (OV.ibin (v := .bool ((x17 : Int) != x24)) rfl rfl rfl) (Zp 11 rfl Ym ?_))
 rcases h.em with ⟨u26, h⟩ | ⟨u26, h⟩
 refine Zj 12 rfl (Yw u26) (Zj 13 rfl (Yw u26) (Zj 14 rfl (Yw u26) (Zj 15 rfl (Yw u26) (Zj 16 rfl (Yw u26) (Zj 17 rfl (Yw u26) (Zj 18 rfl (Yw u26) (Zj 19 rfl (Yw u26) (Zj 20 rfl (Yw u26) (Zj 21 rfl (Yw u26) (Zj 22 rfl (Yw u26) (Zj 23 rfl (Yw u26) (Zj 24 rfl (Yw u26) (Zp 25 rfl (OV.pickT rfl u26 rfl) (Zp 26 rfl Ym (Zj 27 rfl (Yw rfl) (Zj 28 rfl (Yw rfl) (Zj 29 rfl (Yw rfl) (Zj 30 rfl (Yw rfl) (Zj 31 rfl (Yw rfl) (Zj 32 rfl (Yw rfl) (Zj 33 rfl (Yw rfl) (Zj 34 rfl (Yw rfl) (Zj 35 rfl (Yw rfl) (Zj 36 rfl (Yw rfl) (Zj 37 rfl (Yw rfl) (Zj 38 rfl (Yw rfl) (Zj 39 rfl (Yw rfl) (Zj 40 rfl (Yw rfl) (Zp 41 rfl (OV.pickT rfl rfl rfl) (GA.done (by kernel_rfl) ?_))))))))))))))))))))))))))))))
 exact Yj I3 true h
 refine Zg 12 rfl (Yt u26) Ym (Zg 13 rfl (Yt u26) Ym ?_)
 obtain ⟨p27, ha28, hb29, u30, hd31, h⟩ := h
 refine Zg 14 rfl (Yt u26) (OV.indexAddr rfl rfl rfl rfl ha28 hb29 u30 hd31) (Zg 15 rfl (Yt u26) Yf (Zg 16 rfl (Yt u26) Yf ?_))
 obtain ⟨x32, v33, h⟩ := h
 refine Zg 17 rfl (Yt u26) (Yo v33) (Zg 18 rfl (Yt u26) Ym (Zg 19 rfl (Yt u26) Ym ?_))
 obtain ⟨p34, ha35, hb36, u37, hd38, h⟩ := h
 refine Zg 20 rfl (Yt u26) (OV.indexAddr rfl rfl rfl rfl ha35 hb36 u37 hd38) (Zg 21 rfl (Yt u26) Yf (Zg 22 rfl (Yt u26) Yf ?_))
 obtain ⟨x39, v40, h⟩ := h
 refine Zg 23 rfl (Yt u26) (Yo v40) (Zg 24 rfl (Yt u26) (OV.sbin (a := x32) (b := x39) (v := .bool (!(x32 == x39))) rfl rfl rfl) (Zp 25 rfl (OV.pickF rfl u26 rfl) (Zp 26 rfl Ym ?_)))
 rcases h.em with ⟨u41, h⟩ | ⟨u41, h⟩
 refine Zj 27 rfl (Yw u41) (Zj 28 rfl (Yw u41) (Zj 29 rfl (Yw u41) (Zj 30 rfl (Yw u41) (Zj 31 rfl (Yw u41) (Zj 32 rfl (Yw u41) (Zj 33 rfl (Yw u41) (Zj 34 rfl (Yw u41) (Zj 35 rfl (Yw u41) (Zj 36 rfl (Yw u41) (Zj 37 rfl (Yw u41) (Zj 38 rfl (Yw u41) (Zj 39 rfl (Yw u41) (Zj 40 rfl (Yw u41) (Zp 41 rfl (OV.pickT rfl u41 rfl) (GA.done (by kernel_rfl) ?_)))))))))))))))
 exact Yj I3 true h
 refine Zg 27 rfl (Yt u41) Ym (Zg 28 rfl (Yt u41) Ym ?_)
 obtain ⟨p42, ha43, hb44, u45, hd46, h⟩ := h
 refine Zg 29 rfl (Yt u41) (OV.indexAddr rfl rfl rfl rfl ha43 hb44 u45 hd46) (Zg 30 rfl (Yt u41) Yf (Zg 31 rfl (Yt u41) Yf ?_))
 obtain ⟨x47, v48, h⟩ := h
 refine Zg 32 rfl (Yt u41) (Yo v48) (Zg 33 rfl (Yt u41) Ym (Zg 34 rfl (Yt u41) Ym ?_))
 obtain ⟨p49, ha50, hb51, u52, hd53, h⟩ := h
 refine Zg 35 rfl (Yt u41) (OV.indexAddr rfl rfl rfl rfl ha50 hb51 u52 hd53) (Zg 36 rfl (Yt u41) Yf (Zg 37 rfl (Yt u41) Yf ?_))
 obtain ⟨x54, v55, h⟩ := h
 refine Zg 38 rfl (Yt u41) (Yo v55) (GA.eff 39 rfl (by kernel_rfl) (GL.call h (Yt u41) rfl Qbl (vs := [slv x47, slv x54]) rfl ?_))
 rintro _ H58 ⟨r57, rfl, h⟩
 obtain ⟨hle56, h⟩ := h
 refine GA.back hle56 (Zg 40 rfl (Yt u41) (OV.not rfl) (Zp 41 rfl (OV.pickF rfl u41 rfl) (GA.done (by kernel_rfl) ?_)))
 exact Yj I3 (!r57) h
 intro x7 H8 h
 replace h := hR9 x7 H8 h
 refine GL.nil (Yd h (fun u59 h => ?_) fun u59 h => ?_)
 refine Zo (Za (GL.nil ?_))
 exact Y1 I3 ⟨false, rfl, h⟩
 refine GC.skip_to (fun _ _ h => h) (GC.region (Zm (Zi (.int .i64 (w .i64 (x2 + 1))) (Za ?_))))
 exact Yj I3 (w .i64 (x2 + 1)) h
 refine GC.exit_to (fun _ _ h => h) (Zo (Za (GL.nil ?_)))
 exact Y1 I3 ⟨true, rfl, h⟩
def Qdy (C : Ctx) (p_l : Option (Nat × Nat)) (p_mark : Int) (K : Int → Heap → Prop) (H : Heap) : Prop :=
 ift (Option.isNone p_l)
 (K 2 H)
 (jn (α := Bool) (fun b2 H10 =>
 ift b2
 (K 1 H10)
 (K 0 H10))
 (fun J3 => ift (decide ((p_mark : Int) < 0))
 (J3 true H)
 (nck p_l fun p6 =>
 ldL H (p6.1, p6.2 + 1) fun x8 =>
 J3 (decide ((p_mark : Int) > (Sl.len x8 : Int))) H)))
theorem Qgr (C p_l p_mark K H) (h : Qdy C p_l p_mark K H) : Qbk C p_l p_mark K H := by
 refine Ye Tryz.func31 rfl Tryz.ntmps31 [(0, pv p_l), (1, .int .i64 p_mark)] (Zo (Za (GL.nil (GC.seq (GC.block (Zo (Zm (Zv (OV.eqlNil (p := p_l) rfl rfl rfl) (Za (GL.nil (Yd h (fun u1 h => ?_) fun u1 h => ?_)))))))))))
 refine Zo (Za (GL.nil ?_))
 exact Y1 I3 ⟨2, rfl, h⟩
 refine Zo (Zm (Zi (.bool (decide ((p_mark : Int) < 0))) (Zm ?_)))
 obtain ⟨J3, h, hR4⟩ := h
 refine GL.cut (α := Bool) 8 J3 (fun b2 => [(19, .bool b2)]) ?_ ?_
 rcases h.em with ⟨u5, h⟩ | ⟨u5, h⟩
 refine Zk u5 (Zk u5 (Zk u5 (Zk u5 (Zk u5 (Zk u5 (Zk u5 (Zt u5 ?_)))))))
 exact Yj I3 true h
 refine Zu u5 Ym (Zu u5 Ym ?_)
 obtain ⟨p6, hp7, h⟩ := h
 refine Zu u5 (OV.nilCheck (q := p_l) rfl hp7) (Zu u5 Yf ?_)
 obtain ⟨x8, v9, h⟩ := h
 refine Zu u5 (Yo v9) (Zu u5 (OV.lenSl rfl rfl) (Zu u5 (OV.ibin (v := .bool (decide ((p_mark : Int) > (Sl.len x8 : Int)))) rfl rfl rfl) (Zn u5 ?_)))
 exact Yj I3 (decide ((p_mark : Int) > (Sl.len x8 : Int))) h
 intro b2 H10 h
 replace h := hR4 b2 H10 h
 refine Za (GL.nil (Yd h (fun u11 h => ?_) fun u11 h => ?_))
 refine Zo (Za (GL.nil ?_))
 exact Y1 I3 ⟨1, rfl, h⟩
 refine GC.skip_to (fun _ _ h => h) (Zo (Za (GL.nil ?_)))
 exact Y1 I3 ⟨0, rfl, h⟩
def QhZ (C : Ctx) (p_l : Sl) (K : Sl → Heap → Prop) (H : Heap) : Prop :=
 ift (((Sl.len p_l : Int) : Int) == 0)
 (K Sl.nil H)
 (QD C p_l (fun r2 H3 =>
 lp (α := Int) 0 H3 (fun x4 J5 H6 =>
 ift (decide ((x4 : Int) < (Sl.len r2 : Int)))
 (ixa r2 x4 fun p8 =>
 ldL H6 ((p8.1, p8.2 + (x4 : Int).toNat * 4).1, (p8.1, p8.2 + (x4 : Int).toNat * 4).2 + 3) fun x13 =>
 QaD C x13 (fun r15 H16 =>
 ixa r2 x4 fun p17 =>
 st ((p17.1, p17.2 + (x4 : Int).toNat * 4).1, (p17.1, p17.2 + (x4 : Int).toNat * 4).2 + 3) (slv r15) (fun H22 =>
 J5 (w .i64 (x4 + 1)) H22) H16) H6)
 (K r2 H6))) H)
theorem Qkg (C p_l K H) (h : QhZ C p_l K H) : QaD C p_l K H := by
 refine Ye Tryz.func32 rfl Tryz.ntmps32 [(0, slv p_l)] (Zo (Za (GL.nil (GC.seq (Zo (Zm (Zq (Zi (.bool (((Sl.len p_l : Int) : Int) == 0)) (GL.nil (Yd h (fun u1 h => ?_) fun u1 h => ?_))))))))))
 refine Zo (Za (GL.nil ?_))
 exact Y1 I3 ⟨Sl.nil, rfl, h⟩
 refine GC.skip (Zo (Zm (Zc h Qbr ?_)))
 rintro _ H3 ⟨r2, rfl, h⟩
 refine Za (GL.nil (GC.seq (Zo (Zm (Zq (Zm (GL.nil (GC.block (Yp h (fun x4 => [(11, .int .i64 x4), (0, slv r2), (10, .int .i64 (Sl.len r2 : Int))]) ?_)))))))))
 intro x4 H6 J5 h
 refine Zo (Zi (.bool (decide ((x4 : Int) < (Sl.len r2 : Int)))) (GL.nil (GC.seq (Yd h (fun u7 h => ?_) fun u7 h => ?_))))
 refine GC.skip (GC.seq (GC.block (Zo (Zm (Za (GL.nil (GC.region (Zm (Zm (Zm (Zm (Yx h fun p8 h => ?_))))))))))))
 refine Zf (Yl h fun x13 h => ?_)
 refine Zc h QcF ?_
 rintro _ H16 ⟨r15, rfl, h⟩
 refine Yx h fun p17 h => ?_
 refine Zf (GL.store (p := ((p17.1, p17.2 + (x4 : Int).toNat * 4).1, (p17.1, p17.2 + (x4 : Int).toNat * 4).2 + 3)) (v := slv r15) h trivial rfl rfl rfl rfl ?_)
 intro H22 h
 refine GL.nil_to (fun _ _ h => h) (GC.region (Zi (.int .i64 (w .i64 (x4 + 1))) (Zm ?_)))
 exact Yj I3 (w .i64 (x4 + 1)) h
 refine GC.exit_to (fun _ _ h => h) (Zo (Zm (Za (GL.nil ?_))))
 exact Y1 I3 ⟨r2, rfl, h⟩
def QcI (C : Ctx) (p_a : Qc) (p_b : Qc) (K : Int → Heap → Prop) (H : Heap) : Prop :=
 nw (Qc.c p_a) (fun b1 H2 =>
 nw (Qc.c p_b) (fun b3 H4 =>
 dr H4 fun Hs5 =>
 ldS Hs5 (((b1, 0).1, (b1, 0).2 + 0).1, ((b1, 0).1, (b1, 0).2 + 0).2 + 0) fun x7 =>
 ldS Hs5 (((b3, 0).1, (b3, 0).2 + 0).1, ((b3, 0).1, (b3, 0).2 + 0).2 + 0) fun x9 =>
 ldL Hs5 (((b1, 0).1, (b1, 0).2 + 0).1, ((b1, 0).1, (b1, 0).2 + 0).2 + 1) fun x11 =>
 ldL Hs5 (((b3, 0).1, (b3, 0).2 + 0).1, ((b3, 0).1, (b3, 0).2 + 0).2 + 1) fun x13 =>
 QA C x7 x9 (fun r16 H17 =>
 Heap.le Hs5 H17 ∧
 QbJ C x11 x13 (fun r19 H20 =>
 Heap.le Hs5 H20 ∧
 nw ([.int .i64 r16, .int .i64 r19]) (fun b22 H23 =>
 Heap.le Hs5 H23 ∧
 Qbu C (Sl.of (some (b22, 0)) 2 2) (fun r25 H26 =>
 Heap.le Hs5 H26 ∧
 K r25 H26) H23) H20) H17) H4) H2) H
theorem Qfo (C p_a p_b K H) (h : QcI C p_a p_b K H) : QbI C p_a p_b K H := by
 refine Ye Tryz.func34 rfl Tryz.ntmps34 [(0, .agg (Qc.c p_a).toArray), (1, .agg (Qc.c p_b).toArray)] (Zo (GL.box (v := .agg (Qc.c p_a).toArray) (cs := Qc.c p_a) h trivial rfl rfl rfl ?_))
 intro b1 H2 h
 refine GL.box (v := .agg (Qc.c p_b).toArray) (cs := Qc.c p_b) h trivial rfl rfl rfl ?_
 intro b3 H4 h
 refine Za (GL.nil (GC.seq ?_))
 obtain ⟨Hs5, hle6, h⟩ := h
 refine GC.any (Hs := Hs5) (by kernel_rfl) hle6 (Zp 0 rfl Yf (Zp 1 rfl Yf ?_))
 obtain ⟨x7, v8, h⟩ := h
 refine Zp 2 rfl (Yo v8) (Zp 3 rfl Yf (Zp 4 rfl Yf ?_))
 obtain ⟨x9, v10, h⟩ := h
 refine Zp 5 rfl (Yo v10) (Zp 7 rfl Yf (Zp 8 rfl Yf ?_))
 obtain ⟨x11, v12, h⟩ := h
 refine Zp 9 rfl (Yo v12) (Zp 10 rfl Yf (Zp 11 rfl Yf ?_))
 obtain ⟨x13, v14, h⟩ := h
 refine Zp 12 rfl (Yo v14) (GA.eff 6 rfl (by kernel_rfl) (Zc h Qab ?_))
 rintro _ H17 ⟨r16, rfl, h⟩
 obtain ⟨hle15, h⟩ := h
 refine GA.back hle15 (GA.eff 13 rfl (by kernel_rfl) (Zc h Qd3 ?_))
 rintro _ H20 ⟨r19, rfl, h⟩
 obtain ⟨hle18, h⟩ := h
 refine GA.back hle18 (GA.eff 14 rfl (by kernel_rfl) (GL.buildSlice (cs := [.int .i64 r16, .int .i64 r19]) h trivial rfl (vs := [(0, .int .i64 r16), (1, .int .i64 r19)]) rfl ⟨3, fun _ => by kernel_rfl⟩ ?_))
 intro b22 H23 h
 obtain ⟨hle21, h⟩ := h
 refine GA.back hle21 (GA.eff 15 rfl (by kernel_rfl) (Zc h QdP ?_))
 rintro _ H26 ⟨r25, rfl, h⟩
 obtain ⟨hle24, h⟩ := h
 refine GA.back hle24 (Zp 16 rfl Ya (GA.done (by kernel_rfl) (GL.nil ?_)))
 exact Y1 I3 ⟨r25, rfl, h⟩
def QdW (C : Ctx) (p_vals : Sl) (K : Int → Heap → Prop) (H : Heap) : Prop :=
 lp (α := Int) 0 H (fun x1 J2 H3 =>
 ift (decide ((x1 : Int) < (Sl.len p_vals : Int)))
 (ixa p_vals x1 fun p5 =>
 ldI H3 .i64 (p5.1, p5.2 + (x1 : Int).toNat * 1) fun x10 =>
 ift ((x10 : Int) != 0)
 (K x10 H3)
 (J2 (w .i64 (x1 + 1)) H3))
 (K 0 H3))
theorem QfB (C p_vals K H) (h : QdW C p_vals K H) : Qbu C p_vals K H := by
 refine Ye Tryz.func35 rfl Tryz.ntmps35 [(0, slv p_vals)] (Zo (Za (GL.nil (Zo (Za (GL.nil (GC.seq (Zo (Zm (Zq (Zm (GL.nil (GC.block (Yp h (fun x1 => [(8, .int .i64 x1), (3, .int .i64 0), (6, slv p_vals), (7, .int .i64 (Sl.len p_vals : Int))]) ?_))))))))))))))
 intro x1 H3 J2 h
 refine Zo (Zi (.bool (decide ((x1 : Int) < (Sl.len p_vals : Int)))) (GL.nil (GC.seq (Yd h (fun u4 h => ?_) fun u4 h => ?_))))
 refine GC.skip (GC.seq (GC.block (Zo (Yx h fun p5 h => ?_))))
 refine Yl h fun x10 h => ?_
 refine Za (GL.nil (Zo (Zm (Zm (Zi (.bool ((x10 : Int) != 0)) (GL.nil (Yd h (fun u12 h => ?_) fun u12 h => ?_)))))))
 refine Zo (Zm (Za (GL.nil ?_)))
 exact Y1 I3 ⟨x10, rfl, h⟩
 refine GC.skip_to (fun _ _ h => h) (GC.region (Zi (.int .i64 (w .i64 (x1 + 1))) (Zm ?_)))
 exact Yj I3 (w .i64 (x1 + 1)) h
 refine GC.exit_to (fun _ _ h => h) (Zo (Zm (Za (GL.nil ?_))))
 exact Y1 I3 ⟨0, rfl, h⟩
def QaY (C : Ctx) (p_x : Str) (p_y : Str) (K : Int → Heap → Prop) (H : Heap) : Prop :=
 Q5 C p_x (fun r1 H2 =>
 Q5 C p_y (fun r3 H4 =>
 ift r1
 (ift r3
 (K 0 H4)
 (K (-1) H4))
 (ift r3
 (K 1 H4)
 (ift (slt p_x p_y)
 (K (-1) H4)
 (ift (!(slt p_x p_y || (p_x == p_y)))
 (K 1 H4)
 (K 0 H4))))) H2) H
theorem QbT (C p_x p_y K H) (h : QaY C p_x p_y K H) : QA C p_x p_y K H := by
 refine Ye Tryz.func36 rfl Tryz.ntmps36 [(0, sv p_x), (1, sv p_y)] (Zo (Za (GL.nil (Zo (Zm (Zc h QcA ?_))))))
 rintro _ H2 ⟨r1, rfl, h⟩
 refine Za (GL.nil (Zo (Zm (Zc h QcA ?_))))
 rintro _ H4 ⟨r3, rfl, h⟩
 refine Za (GL.nil (GC.seq (Zo (Zm (GL.nil (Yd h (fun u5 h => ?_) fun u5 h => ?_))))))
 refine GC.seq (Zo (Zm (GL.nil (Yd h (fun u6 h => ?_) fun u6 h => ?_))))
 refine Zo (Za (GL.nil ?_))
 exact Y1 I3 ⟨0, rfl, h⟩
 refine GC.skip (Zo (Za (GL.nil ?_)))
 exact Y1 I3 ⟨(-1), rfl, h⟩
 refine GC.skip (GC.seq (Zo (Zm (GL.nil (Yd h (fun u7 h => ?_) fun u7 h => ?_)))))
 refine Zo (Za (GL.nil ?_))
 exact Y1 I3 ⟨1, rfl, h⟩
 refine GC.skip (GC.seq (Zo (Zm (Zm (Zv (OV.sbin (a := p_x) (b := p_y) (v := .bool (slt p_x p_y)) rfl rfl rfl) (GL.nil (Yd h (fun u8 h => ?_) fun u8 h => ?_)))))))
 refine Zo (Za (GL.nil ?_))
 exact Y1 I3 ⟨(-1), rfl, h⟩
 refine GC.skip (GC.seq (Zo (Zm (Zm (Zv (OV.sbin (a := p_x) (b := p_y) (v := .bool (!(slt p_x p_y || (p_x == p_y)))) rfl rfl rfl) (GL.nil (Yd h (fun u9 h => ?_) fun u9 h => ?_)))))))
 refine Zo (Za (GL.nil ?_))
 exact Y1 I3 ⟨1, rfl, h⟩
 refine GC.skip (Zo (Za (GL.nil ?_)))
 exact Y1 I3 ⟨0, rfl, h⟩
def Qef (C : Ctx) (p_a : Sl) (p_b : Sl) (K : Int → Heap → Prop) (H : Heap) : Prop :=
 QdI C p_a (fun r1 H2 =>
 QdI C p_b (fun r3 H4 =>
 ift ((!r1) || (!r3))
 (Qek C r1 r3 (fun r7 H8 =>
 K r7 H8) H4)
 (QbZ C p_a p_b (fun r9 H10 =>
 K r9 H10) H4)) H2) H
theorem Qg4 (C p_a p_b K H) (h : Qef C p_a p_b K H) : QbJ C p_a p_b K H := by
 refine Ye Tryz.func37 rfl Tryz.ntmps37 [(0, slv p_a), (1, slv p_b)] (Zo (Za (GL.nil (GC.seq (Zo (Zm (Zc h QgJ ?_)))))))
 rintro _ H2 ⟨r1, rfl, h⟩
 refine Zm (Zc h QgJ ?_)
 rintro _ H4 ⟨r3, rfl, h⟩
 refine Za (Za (GL.nil (Zo (Zm (Zv (OV.not rfl) (Zm (GL.cut0 3 [(16, .bool ((!r1) || (!r3))), (0, slv p_a), (1, slv p_b), (5, .bool r1), (6, .bool r3)] ?_ ?_)))))))
 rcases Zb (!r1) with u5 | u5
 refine Zk u5 (Zk u5 (Zt u5 ?_))
 exact GL.jump0 (fun _ _ h => h) () rfl ⟨(by rw [u5]; rfl), rfl, rfl, rfl, rfl, trivial⟩
 refine Zu u5 Ym (Zu u5 (OV.not rfl) (Zn u5 ?_))
 exact GL.jump0 (fun _ _ h => h) () rfl ⟨(by rw [u5]; rfl), rfl, rfl, rfl, rfl, trivial⟩
 refine GL.nil (Yd h (fun u6 h => ?_) fun u6 h => ?_)
 refine Zo (Zm (Zm (Zc h Qjd ?_)))
 rintro _ H8 ⟨r7, rfl, h⟩
 refine Za (GL.nil ?_)
 exact Y1 I3 ⟨r7, rfl, h⟩
 refine GC.skip (Zo (Zm (Zm (Zc h Qf2 ?_))))
 rintro _ H10 ⟨r9, rfl, h⟩
 refine Za (GL.nil ?_)
 exact Y1 I3 ⟨r9, rfl, h⟩
def QhY (C : Ctx) (p_l : Sl) (K : Str → Bool → Heap → Prop) (H : Heap) : Prop :=
 lp (α := Str × Int) ([], 0) H (fun x1 J2 H3 =>
 ift (decide ((x1.2 : Int) < (Sl.len p_l : Int)))
 (ixa p_l x1.2 fun p5 =>
 ldT H3 Qa.c (p5.1, p5.2 + (x1.2 : Int).toNat * 4) fun x10 =>
 nw (Qa.c Qa.zero) (fun b12 H13 =>
 stT (b12, 0) (Qa.c x10) (fun H14 =>
 ldT H14 Qa.c (b12, 0) fun x15 =>
 QZ C x15 (fun r17 H18 =>
 ift ((r17 : Int) != 0)
 (K [] false H18)
 (ldT H18 Qa.c (b12, 0) fun x20 =>
 Qbw C x20 (fun r22 H23 =>
 catOk r22 ([59] : Str) ∧
 catOk x1.1 (r22 ++ ([59] : Str)) ∧
 J2 ((x1.1 ++ (r22 ++ ([59] : Str))), (w .i64 (x1.2 + 1))) H23) H18)) H14) H13) H3)
 (K x1.1 true H3))
theorem Qkf (C p_l K H) (h : QhY C p_l K H) : Qdj C p_l K H := by
 refine Ye Tryz.func38 rfl Tryz.ntmps38 [(0, slv p_l)] (Zo (Za (Za (GL.nil (Zo (Za (GL.nil (GC.seq (Zo (Zm (Zq (Zm (GL.nil (GC.block (Yp h (fun x1 => [(4, sv x1.1), (9, .int .i64 x1.2), (7, slv p_l), (8, .int .i64 (Sl.len p_l : Int))]) ?_)))))))))))))))
 intro x1 H3 J2 h
 refine Zo (Zi (.bool (decide ((x1.2 : Int) < (Sl.len p_l : Int)))) (GL.nil (GC.seq (Yd h (fun u4 h => ?_) fun u4 h => ?_))))
 refine GC.skip (GC.seq (GC.block (Zo (Yx h fun p5 h => ?_))))
 obtain ⟨x10, v11, h⟩ := h
 refine Zv (OV.loadT rfl rfl rfl v11) (GL.alloc (cs := Qa.c Qa.zero) h trivial rfl rfl rfl ?_)
 intro b12 H13 h
 refine GL.storeT (p := (b12, 0)) (vs := Qa.c x10) h trivial rfl rfl rfl rfl ?_
 intro H14 h
 refine GL.nil (GC.seq (Zo ?_))
 obtain ⟨x15, v16, h⟩ := h
 refine Zv (OV.loadT rfl rfl rfl v16) (Zc h Qdf ?_)
 rintro _ H18 ⟨r17, rfl, h⟩
 refine Zi (.bool ((r17 : Int) != 0)) (GL.nil (Yd h (fun u19 h => ?_) fun u19 h => ?_))
 refine Zo (Za (Za (GL.nil ?_)))
 exact Y2 I3 ⟨[], false, rfl, h⟩
 refine GC.skip (GC.region (Zm ?_))
 obtain ⟨x20, v21, h⟩ := h
 refine Zv (OV.loadT rfl rfl rfl v21) (Zc h Qjc ?_)
 rintro _ H23 ⟨r22, rfl, h⟩
 obtain ⟨hl24, h⟩ := h
 refine Zv (OV.cat (a := r22) (b := ([59] : Str)) rfl rfl hl24) ?_
 obtain ⟨hl25, h⟩ := h
 refine Zv (OV.cat (a := x1.1) (b := (r22 ++ ([59] : Str))) rfl rfl hl25) (Za (GL.nil_to (fun _ _ h => h) (GC.region (Zi (.int .i64 (w .i64 (x1.2 + 1))) (Zm ?_)))))
 exact Yj I3 ((x1.1 ++ (r22 ++ ([59] : Str))), (w .i64 (x1.2 + 1))) h
 refine GC.exit_to (fun _ _ h => h) (Zo (Zm (Za (Za (GL.nil ?_)))))
 exact Y2 I3 ⟨x1.1, true, rfl, h⟩
def Qfh (C : Ctx) (p_l : Option (Nat × Nat)) (p_rel : Str) (p_key : Str) (p_r : Sl) (K : Heap → Prop) (H : Heap) : Prop :=
 jn (α := Unit) (fun x2 H3 =>
 nck p_l fun p20 =>
 ldM H3 (p20.1, p20.2 + 0) fun x22 =>
 lkM sv (fun x : Option Nat => (mv x : Value)) none x22 p_rel (fun x24 is25 =>
 upS sv (fun x : Sl => (slv x : Value)) x24 p_key p_r (fun H27 =>
 K H27) H3) H3)
 (fun J1 => nck p_l fun p5 =>
 ldM H (p5.1, p5.2 + 0) fun x7 =>
 lkM sv (fun x : Option Nat => (mv x : Value)) none x7 p_rel (fun x9 is10 =>
 ift x9.isNone
 (nck p_l fun p13 =>
 ldM H (p13.1, p13.2 + 0) fun x15 =>
 mkM (fun b17 H18 =>
 upS sv (fun x : Option Nat => (mv x : Value)) x15 p_rel (some b17) (fun H19 =>
 J1 () H19) H18) H)
 (J1 () H)) H)
theorem Qih (C p_l p_rel p_key p_r K H) (h : Qfh C p_l p_rel p_key p_r K H) : Qco C p_l p_rel p_key p_r K H := by
 refine Ye Tryz.func39 rfl Tryz.ntmps39 [(0, pv p_l), (1, sv p_rel), (2, sv p_key), (3, slv p_r)] ?_
 obtain ⟨J1, h, hR4⟩ := h
 refine GC.join (α := Unit) J1 (fun _ => [(0, pv p_l), (1, sv p_rel), (2, sv p_key), (3, slv p_r)]) ?_ ?_
 refine Zo (Zm ?_)
 obtain ⟨p5, hp6, h⟩ := h
 refine Zv (OV.nilCheck (q := p_l) rfl hp6) (Zf (Yl h fun x7 h => ?_))
 refine Zm ?_
 obtain ⟨x9, is10, v11, h⟩ := h
 refine Zv (OV.lookup1 (v := mv x9) (ke := sv) (enc := (fun x : Option Nat => (mv x : Value))) (z := none) (q := x7) (k := p_rel) (x := x9) (b := is10) rfl v11 rfl rfl rfl (kText rfl) rfl) (Zv (OV.eqlMap (q := x9) rfl rfl rfl) (GL.nil (Yd h (fun u12 h => ?_) fun u12 h => ?_)))
 refine GC.region (Zm ?_)
 obtain ⟨p13, hp14, h⟩ := h
 refine Zv (OV.nilCheck (q := p_l) rfl hp14) (Zf (Yl h fun x15 h => ?_))
 refine Zm (GL.makeMap h trivial rfl ?_)
 intro b17 H18 h
 refine GL.mapUpdateS (ke := sv) (enc := (fun x : Option Nat => (mv x : Value))) (q := x15) (k := p_rel) (x := (some b17)) h trivial rfl rfl rfl rfl (kText rfl) ?_
 intro H19 h
 exact Yj I3 () h
 exact Yk I3 () h
 intro x2 H3 h
 replace h := hR4 x2 H3 h
 refine GC.region (Zm ?_)
 obtain ⟨p20, hp21, h⟩ := h
 refine Zv (OV.nilCheck (q := p_l) rfl hp21) (Zf (Yl h fun x22 h => ?_))
 refine Zm ?_
 obtain ⟨x24, is25, v26, h⟩ := h
 refine Zv (OV.lookup1 (v := mv x24) (ke := sv) (enc := (fun x : Option Nat => (mv x : Value))) (z := none) (q := x22) (k := p_rel) (x := x24) (b := is25) rfl v26 rfl rfl rfl (kText rfl) rfl) (Zm (Zm (GL.mapUpdateS (ke := sv) (enc := (fun x : Sl => (slv x : Value))) (q := x24) (k := p_key) (x := p_r) h trivial rfl rfl rfl rfl (kText rfl) ?_)))
 intro H27 h
 exact GL.ends (fun _ _ hf hs => Qy rfl hf hs ⟨rfl, h⟩)
def Qdw (C : Ctx) (v0 : Nat × Nat) (v1 : Nat × Nat) (v2 : Nat × Nat) (K : Heap → Prop) (H : Heap) : Prop :=
 ldP H v0 fun x1 =>
 ldS H (v1.1, v1.2 + 0) fun x3 =>
 ldS H v2 fun x5 =>
 QbR C x1 x3 x5 (fun H7 =>
 K H7) H
theorem Qgp (C v0 v1 v2 K H) (h : Qdw C v0 v1 v2 K H) : Qca C v0 v1 v2 K H := by
 refine Ye Tryz.func40 rfl Tryz.ntmps40 [(0, pv (some v0)), (1, pv (some v1)), (2, pv (some v2))] (GC.region (Yl h fun x1 h => ?_))
 refine Zf (Yl h fun x3 h => ?_)
 refine Yl h fun x5 h => ?_
 refine Zc h Qeu ?_
 rintro _ H7 ⟨rfl, h⟩
 exact GL.ends (fun _ _ hf hs => Qy rfl hf hs ⟨rfl, h⟩)
def QeG (C : Ctx) (p_l : Option (Nat × Nat)) (p_rel : Str) (p_key : Str) (K : Heap → Prop) (H : Heap) : Prop :=
 nck p_l fun p1 =>
 ldM H (p1.1, p1.2 + 0) fun x3 =>
 lkM sv (fun x : Option Nat => (mv x : Value)) none x3 p_rel (fun x5 is6 =>
 delS sv (fun x : Sl => (slv x : Value)) x5 p_key (fun H8 =>
 nck p_l fun p9 =>
 ldM H8 (p9.1, p9.2 + 0) fun x11 =>
 lkM sv (fun x : Option Nat => (mv x : Value)) none x11 p_rel (fun x13 is14 =>
 lnM x13 (fun m16 =>
 ift (((m16 : Int) : Int) == 0)
 (nck p_l fun p19 =>
 ldM H8 (p19.1, p19.2 + 0) fun x21 =>
 delS sv (fun x : Option Nat => (mv x : Value)) x21 p_rel (fun H23 =>
 K H23) H8)
 (K H8)) H8) H8) H) H
theorem Qho (C p_l p_rel p_key K H) (h : QeG C p_l p_rel p_key K H) : QbR C p_l p_rel p_key K H := by
 refine Ye Tryz.func41 rfl Tryz.ntmps41 [(0, pv p_l), (1, sv p_rel), (2, sv p_key)] (Zo (Zm ?_))
 obtain ⟨p1, hp2, h⟩ := h
 refine Zv (OV.nilCheck (q := p_l) rfl hp2) (Zf (Yl h fun x3 h => ?_))
 refine Zm ?_
 obtain ⟨x5, is6, v7, h⟩ := h
 refine Zv (OV.lookup1 (v := mv x5) (ke := sv) (enc := (fun x : Option Nat => (mv x : Value))) (z := none) (q := x3) (k := p_rel) (x := x5) (b := is6) rfl v7 rfl rfl rfl (kText rfl) rfl) (Zm (GL.deleteM (ke := sv) (enc := (fun x : Sl => (slv x : Value))) (q := x5) (k := p_key) h trivial rfl rfl rfl (kText rfl) ?_))
 intro H8 h
 refine GL.nil (Zo (Zm ?_))
 obtain ⟨p9, hp10, h⟩ := h
 refine Zv (OV.nilCheck (q := p_l) rfl hp10) (Zf (Yl h fun x11 h => ?_))
 refine Zm ?_
 obtain ⟨x13, is14, v15, h⟩ := h
 refine Zv (OV.lookup1 (v := mv x13) (ke := sv) (enc := (fun x : Option Nat => (mv x : Value))) (z := none) (q := x11) (k := p_rel) (x := x13) (b := is14) rfl v15 rfl rfl rfl (kText rfl) rfl) ?_
 obtain ⟨m16, hm17, h⟩ := h
 refine Zv (OV.lenMap (q := x13) (m := m16) hm17 rfl rfl) (Zi (.bool (((m16 : Int) : Int) == 0)) (GL.nil (Yd h (fun u18 h => ?_) fun u18 h => ?_)))
 refine GC.region (Zm ?_)
 obtain ⟨p19, hp20, h⟩ := h
 refine Zv (OV.nilCheck (q := p_l) rfl hp20) (Zf (Yl h fun x21 h => ?_))
 refine Zm (GL.deleteM (ke := sv) (enc := (fun x : Option Nat => (mv x : Value))) (q := x21) (k := p_rel) h trivial rfl rfl rfl (kText rfl) ?_)
 intro H23 h
 exact GL.ends (fun _ _ hf hs => Qy rfl hf hs ⟨rfl, h⟩)
 exact GC.ends (fun _ _ hf hs => Qy rfl hf hs ⟨rfl, h⟩)
def Qdu (C : Ctx) (v0 : Nat × Nat) (v1 : Nat × Nat) (v2 : Nat × Nat) (v3 : Nat × Nat) (K : Heap → Prop) (H : Heap) : Prop :=
 ldP H v0 fun x1 =>
 ldS H (v1.1, v1.2 + 0) fun x3 =>
 ldS H v2 fun x5 =>
 ldL H v3 fun x7 =>
 Qco C x1 x3 x5 x7 (fun H9 =>
 K H9) H
theorem Qgn (C v0 v1 v2 v3 K H) (h : Qdu C v0 v1 v2 v3 K H) : Qb9 C v0 v1 v2 v3 K H := by
 refine Ye Tryz.func42 rfl Tryz.ntmps42 [(0, pv (some v0)), (1, pv (some v1)), (2, pv (some v2)), (3, pv (some v3))] (GC.region (Yl h fun x1 h => ?_))
 refine Zf (Yl h fun x3 h => ?_)
 refine Yl h fun x5 h => ?_
 refine Yl h fun x7 h => ?_
 refine Zc h Qe6 ?_
 rintro _ H9 ⟨rfl, h⟩
 exact GL.ends (fun _ _ hf hs => Qy rfl hf hs ⟨rfl, h⟩)
def Qd7 (C : Ctx) (p_a : Sl) (p_b : Sl) (K : Bool → Heap → Prop) (H : Heap) : Prop :=
 ift (((Sl.len p_a : Int) : Int) != (Sl.len p_b : Int))
 (K false H)
 (lp (α := Int) 0 H (fun x2 J3 H4 =>
 ift (decide ((x2 : Int) < (Sl.len p_a : Int)))
 (dr H4 fun Hs6 =>
 ixa p_a x2 fun p8 =>
 ldT Hs6 Qa.c (p8.1, p8.2 + (x2 : Int).toNat * 4) fun x13 =>
 ixa p_b x2 fun p15 =>
 ldT Hs6 Qa.c (p15.1, p15.2 + (x2 : Int).toNat * 4) fun x20 =>
 Q7 C x13 x20 (fun r23 H24 =>
 Heap.le Hs6 H24 ∧
 ift (!r23)
 (K false H24)
 (J3 (w .i64 (x2 + 1)) H24)) H4)
 (K true H4)))
theorem QgW (C p_a p_b K H) (h : Qd7 C p_a p_b K H) : Q1 C p_a p_b K H := by
 refine Ye Tryz.func43 rfl Tryz.ntmps43 [(0, slv p_a), (1, slv p_b)] (Zo (Za (GL.nil (GC.seq (Zo (Zm (Zq (Zm (Zq (Zi (.bool (((Sl.len p_a : Int) : Int) != (Sl.len p_b : Int))) (GL.nil (Yd h (fun u1 h => ?_) fun u1 h => ?_))))))))))))
 refine Zo (Za (GL.nil ?_))
 exact Y1 I3 ⟨false, rfl, h⟩
 refine GC.skip (GC.seq (Zo (Za (GL.nil (GC.block (Yp h (fun x2 => [(5, .int .i64 x2), (0, slv p_a), (1, slv p_b)]) ?_))))))
 intro x2 H4 J3 h
 refine GC.seq (Zo (Zm (Zm (Zq (Zi (.bool (decide ((x2 : Int) < (Sl.len p_a : Int)))) (GL.nil (Yd h (fun u5 h => ?_) fun u5 h => ?_)))))))
 refine GC.skip (GC.seq (GC.block (GC.seq ?_)))
 obtain ⟨Hs6, hle7, h⟩ := h
 refine GC.any (Hs := Hs6) (by kernel_rfl) hle7 (Zp 0 rfl Ym (Zp 1 rfl Ym ?_))
 obtain ⟨p8, ha9, hb10, u11, hd12, h⟩ := h
 refine Zp 2 rfl (OV.indexAddr rfl rfl rfl rfl ha9 hb10 u11 hd12) ?_
 obtain ⟨x13, v14, h⟩ := h
 refine Zp 3 rfl (OV.loadT rfl rfl rfl v14) (Zp 4 rfl Ym (Zp 5 rfl Ym ?_))
 obtain ⟨p15, ha16, hb17, u18, hd19, h⟩ := h
 refine Zp 6 rfl (OV.indexAddr rfl rfl rfl rfl ha16 hb17 u18 hd19) ?_
 obtain ⟨x20, v21, h⟩ := h
 refine Zp 7 rfl (OV.loadT rfl rfl rfl v21) (GA.eff 8 rfl (by kernel_rfl) (Zc h Qja ?_))
 rintro _ H24 ⟨r23, rfl, h⟩
 obtain ⟨hle22, h⟩ := h
 refine GA.back hle22 (Zp 9 rfl (OV.not rfl) (GA.done (by kernel_rfl) (GL.nil (Yd h (fun u25 h => ?_) fun u25 h => ?_))))
 refine Zo (Za (GL.nil ?_))
 exact Y1 I3 ⟨false, rfl, h⟩
 refine GC.skip_to (fun _ _ h => h) (GC.region (Zm (Zi (.int .i64 (w .i64 (x2 + 1))) (Za ?_))))
 exact Yj I3 (w .i64 (x2 + 1)) h
 refine GC.exit_to (fun _ _ h => h) (Zo (Za (GL.nil ?_)))
 exact Y1 I3 ⟨true, rfl, h⟩
def QP (C : Ctx) (p_s : Sl) (K : Value → Heap → Prop) (H : Heap) : Prop :=
 nw ([slv p_s]) (fun b1 H2 =>
 K (.func (.func 70) (List.toArray []) (List.toArray [pv (some (b1, 0))]) : Value) H2) H
theorem QaN (C p_s K H) (h : QP C p_s K H) : Qn C p_s K H := by
 refine Ye Tryz.func44 rfl Tryz.ntmps44 [(0, slv p_s)] (Zo (GL.box (v := slv p_s) (cs := [slv p_s]) h trivial rfl rfl rfl ?_))
 intro b1 H2 h
 refine Za (GL.nil (Zo (Zv (OV.makeFunc (vs := []) (us := [pv (some (b1, 0))]) rfl rfl) (Za (GL.nil ?_)))))
 exact Y1 I3 ⟨(.func (.func 70) (List.toArray []) (List.toArray [pv (some (b1, 0))]) : Value), rfl, h⟩
def QgM (C : Ctx) (p_l : Sl) (K : Sl → Heap → Prop) (H : Heap) : Prop :=
 lp (α := Sl × Int) (Sl.nil, 0) H (fun x1 J2 H3 =>
 ift (decide ((x1.2 : Int) < (Sl.len p_l : Int)))
 (ixa p_l x1.2 fun p5 =>
 ldT H3 Qa.c (p5.1, p5.2 + (x1.2 : Int).toNat * 4) fun x10 =>
 nw (Qa.c Qa.zero) (fun b12 H13 =>
 stT (b12, 0) (Qa.c x10) (fun H14 =>
 ldL H14 ((b12, 0).1, (b12, 0).2 + 3) fun x15 =>
 QaS C x15 (fun r17 H18 =>
 st ((b12, 0).1, (b12, 0).2 + 3) (slv r17) (fun H19 =>
 ldT H19 Qa.c (b12, 0) fun x20 =>
 apd (Qa.c Qa.zero) 56 x1.1 ((Qa.c x20) ++ []) 1 (fun r22 H23 =>
 J2 (r22, (w .i64 (x1.2 + 1))) H23) H19) H18) H14) H13) H3)
 (K x1.1 H3))
theorem Qjw (C p_l K H) (h : QgM C p_l K H) : QaS C p_l K H := by
 refine Ye Tryz.func45 rfl Tryz.ntmps45 [(0, slv p_l)] (Zo (Za (GL.nil (Zo (Za (GL.nil (GC.seq (Zo (Za (GL.nil (GC.block (Yp h (fun x1 => [(3, slv x1.1), (4, .int .i64 x1.2), (0, slv p_l)]) ?_))))))))))))
 intro x1 H3 J2 h
 refine GC.seq (Zo (Zm (Zm (Zq (Zi (.bool (decide ((x1.2 : Int) < (Sl.len p_l : Int)))) (GL.nil (Yd h (fun u4 h => ?_) fun u4 h => ?_)))))))
 refine GC.skip (GC.seq (GC.block (Zo (Zm (Zm (Yx h fun p5 h => ?_))))))
 obtain ⟨x10, v11, h⟩ := h
 refine Zv (OV.loadT rfl rfl rfl v11) (GL.alloc (cs := Qa.c Qa.zero) h trivial rfl rfl rfl ?_)
 intro b12 H13 h
 refine GL.storeT (p := (b12, 0)) (vs := Qa.c x10) h trivial rfl rfl rfl rfl ?_
 intro H14 h
 refine GL.nil (Zo (Zf (Yl h fun x15 h => ?_)))
 refine Zc h QcQ ?_
 rintro _ H18 ⟨r17, rfl, h⟩
 refine Zf (GL.store (p := ((b12, 0).1, (b12, 0).2 + 3)) (v := slv r17) h trivial rfl rfl rfl rfl ?_)
 intro H19 h
 refine GL.nil (GC.region (Zm ?_))
 obtain ⟨x20, v21, h⟩ := h
 refine Zv (OV.loadT rfl rfl rfl v21) (GL.appendLit (s := x1.1) (ys := (Qa.c x20) ++ []) (zc := Qa.c Qa.zero) (bytes := 56) h trivial rfl (fun _ => trivial) rfl (fun _ => rfl) (fun _ => rfl) (vs := [(0, .agg (Qa.c x20).toArray)]) rfl ⟨56, fun _ => by kernel_rfl⟩ ⟨⟨_, _, _, rfl, rfl, rfl, rfl, rfl, rfl⟩⟩ rfl rfl ?_)
 intro _ r22 H23 h
 refine Za (GL.nil_to (fun _ _ h => h) (GC.region (Zm (Zi (.int .i64 (w .i64 (x1.2 + 1))) (Za ?_)))))
 exact Yj I3 (r22, (w .i64 (x1.2 + 1))) h
 refine GC.exit_to (fun _ _ h => h) (Zo (Zm (Za (GL.nil ?_))))
 exact Y1 I3 ⟨x1.1, rfl, h⟩
def Qeb (C : Ctx) (p_l : Option (Nat × Nat)) (p_r : Qb) (K : Bool → Int → Heap → Prop) (H : Heap) : Prop :=
 nw (Qb.c p_r) (fun b1 H2 =>
 ldL H2 ((b1, 0).1, (b1, 0).2 + 1) fun x3 =>
 Qbp C x3 (fun r5 H6 =>
 ift (!r5)
 (K false 4 H6)
 (dr H6 fun Hs8 =>
 ldT Hs8 Qb.c (b1, 0) fun x10 =>
 Qm C p_l (fun r13 H14 =>
 Heap.le Hs8 H14 ∧
 QbY C r13 x10 (fun r16 r17 H18 =>
 Heap.le Hs8 H18 ∧
 ift r17
 (K false 0 H18)
 (Qm C p_l (fun r20 H21 =>
 slL r20 0 r16 (Sl.cap r20 : Int) 2 fun t22 =>
 apS (Qb.c Qb.zero) 40 Sl.nil t22 (fun r28 H29 =>
 dr H29 fun Hs30 =>
 ldS Hs30 ((b1, 0).1, (b1, 0).2 + 0) fun x32 =>
 ldL Hs30 ((b1, 0).1, (b1, 0).2 + 1) fun x34 =>
 QaS C x34 (fun r37 H38 =>
 Heap.le Hs30 H38 ∧
 nw ((Qb.c (⟨x32, r37⟩ : Qb)) ++ []) (fun b40 H41 =>
 Heap.le Hs30 H41 ∧
 apS (Qb.c Qb.zero) 40 r28 (Sl.of (some (b40, 0)) 1 1) (fun r43 H44 =>
 Heap.le Hs30 H44 ∧
 Qm C p_l (fun r45 H46 =>
 slL r45 r16 (Sl.len r45 : Int) (Sl.cap r45 : Int) 2 fun t47 =>
 apS (Qb.c Qb.zero) 40 r43 t47 (fun r53 H54 =>
 nck p_l fun p55 =>
 ldL H54 (p55.1, p55.2 + 0) fun x57 =>
 apd ([slv Sl.nil]) 24 x57 ([slv r53]) 1 (fun r59 H60 =>
 nck p_l fun p61 =>
 st (p61.1, p61.2 + 0) (slv r59) (fun H63 =>
 K true 0 H63) H60) H54) H46) H44) H41) H38) H29) H21) H18)) H14) H6)) H2) H
theorem Qg0 (C p_l p_r K H) (h : Qeb C p_l p_r K H) : QbH C p_l p_r K H := by
 refine Ye Tryz.func46 rfl Tryz.ntmps46 [(0, pv p_l), (1, .agg (Qb.c p_r).toArray)] (Zo (GL.box (v := .agg (Qb.c p_r).toArray) (cs := Qb.c p_r) h trivial rfl rfl rfl ?_))
 intro b1 H2 h
 refine Za (Za (GL.nil (GC.seq (Zo (Zf (Yl h fun x3 h => ?_))))))
 refine Zc h Qb2 ?_
 rintro _ H6 ⟨r5, rfl, h⟩
 refine Zv (OV.not rfl) (GL.nil (Yd h (fun u7 h => ?_) fun u7 h => ?_))
 refine Zo (Za (Za (GL.nil ?_)))
 exact Y2 I3 ⟨false, 4, rfl, h⟩
 refine GC.skip (GC.seq ?_)
 obtain ⟨Hs8, hle9, h⟩ := h
 refine GC.any (Hs := Hs8) (by kernel_rfl) hle9 (Zp 0 rfl Ym ?_)
 obtain ⟨x10, v11, h⟩ := h
 refine Zp 2 rfl (OV.loadT rfl rfl rfl v11) (GA.eff 1 rfl (by kernel_rfl) (Zc h Qp ?_))
 rintro _ H14 ⟨r13, rfl, h⟩
 obtain ⟨hle12, h⟩ := h
 refine GA.back hle12 (GA.eff 3 rfl (by kernel_rfl) (Zc h QdS ?_))
 rintro _ H18 ⟨r16, r17, rfl, h⟩
 obtain ⟨hle15, h⟩ := h
 refine GA.back hle15 (Zp 4 rfl Ym (Zp 5 rfl (OV.extract (v := .int .i64 r16) rfl rfl) (Zp 6 rfl (OV.extract (v := .bool r17) rfl rfl) (Zp 7 rfl Ya (Zp 8 rfl Ya (GA.done (by kernel_rfl) (GL.nil (GC.seq (Zo (Zm (GL.nil (Yd h (fun u19 h => ?_) fun u19 h => ?_))))))))))))
 refine Zo (Za (Za (GL.nil ?_)))
 exact Y2 I3 ⟨false, 0, rfl, h⟩
 refine GC.skip (Zo (Za (GL.nil (Zo (Zm (Zm (Zc h Qp ?_)))))))
 rintro _ H21 ⟨r20, rfl, h⟩
 refine Zm ?_
 obtain ⟨h23, h24, h25, h26, t22, h27, h⟩ := h
 refine Zv (OV.sliceSl (s := r20) h23 h24 h25 h26 h27 rfl rfl rfl rfl rfl rfl rfl (fun h => by first | rfl | cases h) rfl rfl) (GL.appendS (s := Sl.nil) (s2 := t22) (zc := Qb.c Qb.zero) (bytes := 40) h trivial rfl rfl rfl ⟨⟨_, _, _, rfl, rfl, rfl, rfl, rfl, rfl⟩⟩ rfl ?_)
 intro r28 H29 h
 refine Za (GL.nil (GC.seq ?_))
 obtain ⟨Hs30, hle31, h⟩ := h
 refine GC.any (Hs := Hs30) (by kernel_rfl) hle31 (Zp 0 rfl Ym (Zp 1 rfl Yf ?_))
 obtain ⟨x32, v33, h⟩ := h
 refine Zp 2 rfl (Yo v33) (Zp 3 rfl Yf ?_)
 obtain ⟨x34, v35, h⟩ := h
 refine Zp 4 rfl (Yo v35) (GA.eff 5 rfl (by kernel_rfl) (Zc h QcQ ?_))
 rintro _ H38 ⟨r37, rfl, h⟩
 obtain ⟨hle36, h⟩ := h
 refine GA.back hle36 (Zp 6 rfl (OV.build (vs := [(0, sv x32), (1, slv r37)]) (v := .agg (Qb.c (⟨x32, r37⟩ : Qb)).toArray) rfl (fun _ => by kernel_rfl)) (GA.eff 7 rfl (by kernel_rfl) (GL.buildSlice (cs := (Qb.c (⟨x32, r37⟩ : Qb)) ++ []) h trivial rfl (vs := [(0, .agg (Qb.c (⟨x32, r37⟩ : Qb)).toArray)]) rfl ⟨30, fun _ => by kernel_rfl⟩ ?_)))
 intro b40 H41 h
 obtain ⟨hle39, h⟩ := h
 refine GA.back hle39 (GA.eff 8 rfl (by kernel_rfl) (GL.appendS (s := r28) (s2 := (Sl.of (some (b40, 0)) 1 1)) (zc := Qb.c Qb.zero) (bytes := 40) h trivial rfl rfl rfl ⟨⟨_, _, _, rfl, rfl, rfl, rfl, rfl, rfl⟩⟩ rfl ?_))
 intro r43 H44 h
 obtain ⟨hle42, h⟩ := h
 refine GA.back hle42 (Zp 9 rfl Ya (GA.done (by kernel_rfl) (GL.nil (Zo (Zm (Zm (Zc h Qp ?_)))))))
 rintro _ H46 ⟨r45, rfl, h⟩
 refine Zm ?_
 obtain ⟨h48, h49, h50, h51, t47, h52, h⟩ := h
 refine Zv (OV.sliceSl (s := r45) h48 h49 h50 h51 h52 rfl rfl rfl rfl rfl rfl rfl (fun h => by first | rfl | cases h) rfl rfl) (GL.appendS (s := r43) (s2 := t47) (zc := Qb.c Qb.zero) (bytes := 40) h trivial rfl rfl rfl ⟨⟨_, _, _, rfl, rfl, rfl, rfl, rfl, rfl⟩⟩ rfl ?_)
 intro r53 H54 h
 refine Za (GL.nil (Zo (Zm (Zm ?_))))
 obtain ⟨p55, hp56, h⟩ := h
 refine Zv (OV.nilCheck (q := p_l) rfl hp56) (Zf (Yl h fun x57 h => ?_))
 refine Zm (GL.appendLit (s := x57) (ys := [slv r53]) (zc := [slv Sl.nil]) (bytes := 24) h trivial rfl (fun _ => trivial) rfl (fun _ => rfl) (fun _ => rfl) (vs := [(0, slv r53)]) rfl ⟨33, fun _ => by kernel_rfl⟩ ⟨⟨_, _, _, rfl, rfl, rfl, rfl, rfl, rfl⟩⟩ rfl rfl ?_)
 intro _ r59 H60 h
 obtain ⟨p61, hp62, h⟩ := h
 refine Zv (OV.nilCheck (q := p_l) rfl hp62) (Zf (GL.store (p := (p61.1, p61.2 + 0)) (v := slv r59) h trivial rfl rfl rfl rfl ?_))
 intro H63 h
 refine GL.nil (Zo (Za (Za (GL.nil ?_))))
 exact Y2 I3 ⟨true, 0, rfl, h⟩
def Qd8 (C : Ctx) (p_l : Option (Nat × Nat)) (p_r : Qb) (K : Bool → Int → Heap → Prop) (H : Heap) : Prop :=
 nw (Qb.c p_r) (fun b1 H2 =>
 ldL H2 ((b1, 0).1, (b1, 0).2 + 1) fun x3 =>
 Qbp C x3 (fun r5 H6 =>
 ift (!r5)
 (K false 4 H6)
 (dr H6 fun Hs8 =>
 ldT Hs8 Qb.c (b1, 0) fun x10 =>
 Qm C p_l (fun r13 H14 =>
 Heap.le Hs8 H14 ∧
 QbY C r13 x10 (fun r16 r17 H18 =>
 Heap.le Hs8 H18 ∧
 ift (!r17)
 (K false 0 H18)
 (Qm C p_l (fun r20 H21 =>
 slL r20 0 r16 (Sl.cap r20 : Int) 2 fun t22 =>
 apS (Qb.c Qb.zero) 40 Sl.nil t22 (fun r28 H29 =>
 Qm C p_l (fun r30 H31 =>
 slL r30 (w .i64 (r16 + 1)) (Sl.len r30 : Int) (Sl.cap r30 : Int) 2 fun t32 =>
 apS (Qb.c Qb.zero) 40 r28 t32 (fun r38 H39 =>
 nck p_l fun p40 =>
 ldL H39 (p40.1, p40.2 + 0) fun x42 =>
 apd ([slv Sl.nil]) 24 x42 ([slv r38]) 1 (fun r44 H45 =>
 nck p_l fun p46 =>
 st (p46.1, p46.2 + 0) (slv r44) (fun H48 =>
 K true 0 H48) H45) H39) H31) H29) H21) H18)) H14) H6)) H2) H
theorem QgX (C p_l p_r K H) (h : Qd8 C p_l p_r K H) : QbF C p_l p_r K H := by
 refine Ye Tryz.func47 rfl Tryz.ntmps47 [(0, pv p_l), (1, .agg (Qb.c p_r).toArray)] (Zo (GL.box (v := .agg (Qb.c p_r).toArray) (cs := Qb.c p_r) h trivial rfl rfl rfl ?_))
 intro b1 H2 h
 refine Za (Za (GL.nil (GC.seq (Zo (Zf (Yl h fun x3 h => ?_))))))
 refine Zc h Qb2 ?_
 rintro _ H6 ⟨r5, rfl, h⟩
 refine Zv (OV.not rfl) (GL.nil (Yd h (fun u7 h => ?_) fun u7 h => ?_))
 refine Zo (Za (Za (GL.nil ?_)))
 exact Y2 I3 ⟨false, 4, rfl, h⟩
 refine GC.skip (GC.seq ?_)
 obtain ⟨Hs8, hle9, h⟩ := h
 refine GC.any (Hs := Hs8) (by kernel_rfl) hle9 (Zp 0 rfl Ym ?_)
 obtain ⟨x10, v11, h⟩ := h
 refine Zp 2 rfl (OV.loadT rfl rfl rfl v11) (GA.eff 1 rfl (by kernel_rfl) (Zc h Qp ?_))
 rintro _ H14 ⟨r13, rfl, h⟩
 obtain ⟨hle12, h⟩ := h
 refine GA.back hle12 (GA.eff 3 rfl (by kernel_rfl) (Zc h QdS ?_))
 rintro _ H18 ⟨r16, r17, rfl, h⟩
 obtain ⟨hle15, h⟩ := h
 refine GA.back hle15 (Zp 4 rfl Ym (Zp 5 rfl (OV.extract (v := .int .i64 r16) rfl rfl) (Zp 6 rfl (OV.extract (v := .bool r17) rfl rfl) (Zp 7 rfl Ya (Zp 8 rfl Ya (GA.done (by kernel_rfl) (GL.nil (GC.seq (Zo (Zm (Zv (OV.not rfl) (GL.nil (Yd h (fun u19 h => ?_) fun u19 h => ?_)))))))))))))
 refine Zo (Za (Za (GL.nil ?_)))
 exact Y2 I3 ⟨false, 0, rfl, h⟩
 refine GC.skip (Zo (Za (GL.nil (Zo (Zm (Zm (Zc h Qp ?_)))))))
 rintro _ H21 ⟨r20, rfl, h⟩
 refine Zm ?_
 obtain ⟨h23, h24, h25, h26, t22, h27, h⟩ := h
 refine Zv (OV.sliceSl (s := r20) h23 h24 h25 h26 h27 rfl rfl rfl rfl rfl rfl rfl (fun h => by first | rfl | cases h) rfl rfl) (GL.appendS (s := Sl.nil) (s2 := t22) (zc := Qb.c Qb.zero) (bytes := 40) h trivial rfl rfl rfl ⟨⟨_, _, _, rfl, rfl, rfl, rfl, rfl, rfl⟩⟩ rfl ?_)
 intro r28 H29 h
 refine Za (GL.nil (Zo (Zm (Zm (Zc h Qp ?_)))))
 rintro _ H31 ⟨r30, rfl, h⟩
 refine Zm (Zi (.int .i64 (w .i64 (r16 + 1))) ?_)
 obtain ⟨h33, h34, h35, h36, t32, h37, h⟩ := h
 refine Zv (OV.sliceSl (s := r30) h33 h34 h35 h36 h37 rfl rfl rfl rfl rfl rfl rfl (fun h => by first | rfl | cases h) rfl rfl) (GL.appendS (s := r28) (s2 := t32) (zc := Qb.c Qb.zero) (bytes := 40) h trivial rfl rfl rfl ⟨⟨_, _, _, rfl, rfl, rfl, rfl, rfl, rfl⟩⟩ rfl ?_)
 intro r38 H39 h
 refine Za (GL.nil (Zo (Zm (Zm ?_))))
 obtain ⟨p40, hp41, h⟩ := h
 refine Zv (OV.nilCheck (q := p_l) rfl hp41) (Zf (Yl h fun x42 h => ?_))
 refine Zm (GL.appendLit (s := x42) (ys := [slv r38]) (zc := [slv Sl.nil]) (bytes := 24) h trivial rfl (fun _ => trivial) rfl (fun _ => rfl) (fun _ => rfl) (vs := [(0, slv r38)]) rfl ⟨33, fun _ => by kernel_rfl⟩ ⟨⟨_, _, _, rfl, rfl, rfl, rfl, rfl, rfl⟩⟩ rfl rfl ?_)
 intro _ r44 H45 h
 obtain ⟨p46, hp47, h⟩ := h
 refine Zv (OV.nilCheck (q := p_l) rfl hp47) (Zf (GL.store (p := (p46.1, p46.2 + 0)) (v := slv r44) h trivial rfl rfl rfl rfl ?_))
 intro H48 h
 refine GL.nil (Zo (Za (Za (GL.nil ?_))))
 exact Y2 I3 ⟨true, 0, rfl, h⟩
def Qds (C : Ctx) (p_l : Option (Nat × Nat)) (p_mark : Int) (K : Int → Heap → Prop) (H : Heap) : Prop :=
 jn (α := Bool) (fun b1 H9 =>
 ift b1
 (K 1 H9)
 (nck p_l fun p11 =>
 ldL H9 (p11.1, p11.2 + 0) fun x13 =>
 slL x13 0 (w .i64 (p_mark + 1)) (Sl.cap x13 : Int) 1 fun t15 =>
 nck p_l fun p21 =>
 st (p21.1, p21.2 + 0) (slv t15) (fun H23 =>
 K 0 H23) H9))
 (fun J2 => ift (decide ((p_mark : Int) < 0))
 (J2 true H)
 (nck p_l fun p5 =>
 ldL H (p5.1, p5.2 + 0) fun x7 =>
 J2 (decide ((p_mark : Int) ≥ (Sl.len x7 : Int))) H))
theorem Qgl (C p_l p_mark K H) (h : Qds C p_l p_mark K H) : Qbi C p_l p_mark K H := by
 refine Ye Tryz.func48 rfl Tryz.ntmps48 [(0, pv p_l), (1, .int .i64 p_mark)] (Zo (Za (GL.nil (GC.seq (Zo (Zm (Zi (.bool (decide ((p_mark : Int) < 0))) (Zm ?_))))))))
 obtain ⟨J2, h, hR3⟩ := h
 refine GL.cut (α := Bool) 8 J2 (fun b1 => [(15, .bool b1), (0, pv p_l), (1, .int .i64 p_mark)]) ?_ ?_
 rcases h.em with ⟨u4, h⟩ | ⟨u4, h⟩
 refine Zk u4 (Zk u4 (Zk u4 (Zk u4 (Zk u4 (Zk u4 (Zk u4 (Zt u4 ?_)))))))
 exact Yj I3 true h
 refine Zu u4 Ym (Zu u4 Ym ?_)
 obtain ⟨p5, hp6, h⟩ := h
 refine Zu u4 (OV.nilCheck (q := p_l) rfl hp6) (Zu u4 Yf ?_)
 obtain ⟨x7, v8, h⟩ := h
 refine Zu u4 (Yo v8) (Zu u4 (OV.lenSl rfl rfl) (Zu u4 (OV.ibin (v := .bool (decide ((p_mark : Int) ≥ (Sl.len x7 : Int)))) rfl rfl rfl) (Zn u4 ?_)))
 exact Yj I3 (decide ((p_mark : Int) ≥ (Sl.len x7 : Int))) h
 intro b1 H9 h
 replace h := hR3 b1 H9 h
 refine GL.nil (Yd h (fun u10 h => ?_) fun u10 h => ?_)
 refine Zo (Za (GL.nil ?_))
 exact Y1 I3 ⟨1, rfl, h⟩
 refine GC.skip (Zo (Zm (Zm ?_)))
 obtain ⟨p11, hp12, h⟩ := h
 refine Zv (OV.nilCheck (q := p_l) rfl hp12) (Zf (Yl h fun x13 h => ?_))
 refine Zm (Zi (.int .i64 (w .i64 (p_mark + 1))) ?_)
 obtain ⟨h16, h17, h18, h19, t15, h20, h⟩ := h
 refine Zv (OV.sliceSl (s := x13) h16 h17 h18 h19 h20 rfl rfl rfl rfl rfl rfl rfl (fun h => by first | rfl | cases h) rfl rfl) ?_
 obtain ⟨p21, hp22, h⟩ := h
 refine Zv (OV.nilCheck (q := p_l) rfl hp22) (Zf (GL.store (p := (p21.1, p21.2 + 0)) (v := slv t15) h trivial rfl rfl rfl rfl ?_))
 intro H23 h
 refine GL.nil (Zo (Za (GL.nil ?_)))
 exact Y1 I3 ⟨0, rfl, h⟩
def Qc0 (C : Ctx) (p_l : Option (Nat × Nat)) (p_mark : Int) (K : Sl → Int → Heap → Prop) (H : Heap) : Prop :=
 jn (α := Bool) (fun b1 H9 =>
 ift b1
 (K Sl.nil 1 H9)
 (dr H9 fun Hs11 =>
 nck p_l fun p13 =>
 ldL Hs11 (p13.1, p13.2 + 0) fun x15 =>
 ixa x15 p_mark fun p17 =>
 ldL Hs11 (p17.1, p17.2 + (p_mark : Int).toNat * 1) fun x22 =>
 Qm C p_l (fun r25 H26 =>
 Heap.le Hs11 H26 ∧
 Qc7 C x22 r25 (fun r28 H29 =>
 Heap.le Hs11 H29 ∧
 K r28 0 H29) H26) H9))
 (fun J2 => ift (decide ((p_mark : Int) < 0))
 (J2 true H)
 (nck p_l fun p5 =>
 ldL H (p5.1, p5.2 + 0) fun x7 =>
 J2 (decide ((p_mark : Int) ≥ (Sl.len x7 : Int))) H))
theorem QfI (C p_l p_mark K H) (h : Qc0 C p_l p_mark K H) : Qa5 C p_l p_mark K H := by
 refine Ye Tryz.func49 rfl Tryz.ntmps49 [(0, pv p_l), (1, .int .i64 p_mark)] (Zo (Za (Za (GL.nil (GC.seq (Zo (Zm (Zi (.bool (decide ((p_mark : Int) < 0))) (Zm ?_)))))))))
 obtain ⟨J2, h, hR3⟩ := h
 refine GL.cut (α := Bool) 8 J2 (fun b1 => [(16, .bool b1), (0, pv p_l), (1, .int .i64 p_mark)]) ?_ ?_
 rcases h.em with ⟨u4, h⟩ | ⟨u4, h⟩
 refine Zk u4 (Zk u4 (Zk u4 (Zk u4 (Zk u4 (Zk u4 (Zk u4 (Zt u4 ?_)))))))
 exact Yj I3 true h
 refine Zu u4 Ym (Zu u4 Ym ?_)
 obtain ⟨p5, hp6, h⟩ := h
 refine Zu u4 (OV.nilCheck (q := p_l) rfl hp6) (Zu u4 Yf ?_)
 obtain ⟨x7, v8, h⟩ := h
 refine Zu u4 (Yo v8) (Zu u4 (OV.lenSl rfl rfl) (Zu u4 (OV.ibin (v := .bool (decide ((p_mark : Int) ≥ (Sl.len x7 : Int)))) rfl rfl rfl) (Zn u4 ?_)))
 exact Yj I3 (decide ((p_mark : Int) ≥ (Sl.len x7 : Int))) h
 intro b1 H9 h
 replace h := hR3 b1 H9 h
 refine GL.nil (Yd h (fun u10 h => ?_) fun u10 h => ?_)
 refine Zo (Za (Za (GL.nil ?_)))
 exact Y2 I3 ⟨Sl.nil, 1, rfl, h⟩
 refine GC.skip (GC.seq ?_)
 obtain ⟨Hs11, hle12, h⟩ := h
 refine GC.any (Hs := Hs11) (by kernel_rfl) hle12 (Zp 0 rfl Ym ?_)
 obtain ⟨p13, hp14, h⟩ := h
 refine Zp 1 rfl (OV.nilCheck (q := p_l) rfl hp14) (Zp 2 rfl Yf ?_)
 obtain ⟨x15, v16, h⟩ := h
 refine Zp 3 rfl (Yo v16) (Zp 4 rfl Ym ?_)
 obtain ⟨p17, ha18, hb19, u20, hd21, h⟩ := h
 refine Zp 5 rfl (OV.indexAddr rfl rfl rfl rfl ha18 hb19 u20 hd21) ?_
 obtain ⟨x22, v23, h⟩ := h
 refine Zp 6 rfl (Yo v23) (Zp 7 rfl Ym (GA.eff 8 rfl (by kernel_rfl) (Zc h Qp ?_)))
 rintro _ H26 ⟨r25, rfl, h⟩
 obtain ⟨hle24, h⟩ := h
 refine GA.back hle24 (GA.eff 9 rfl (by kernel_rfl) (Zc h QhJ ?_))
 rintro _ H29 ⟨r28, rfl, h⟩
 obtain ⟨hle27, h⟩ := h
 refine GA.back hle27 (Zp 10 rfl Ya (Zp 11 rfl Ya (GA.done (by kernel_rfl) (GL.nil ?_))))
 exact Y2 I3 ⟨r28, 0, rfl, h⟩
def Qdg (C : Ctx) (p_l : Sl) (K : Heap → Prop) (H : Heap) : Prop :=
 lp (α := Int) 0 H (fun x1 J2 H3 =>
 ift (decide ((x1 : Int) < (Sl.len p_l : Int)))
 (ixa p_l x1 fun p5 =>
 ldL H3 ((p5.1, p5.2 + (x1 : Int).toNat * 4).1, (p5.1, p5.2 + (x1 : Int).toNat * 4).2 + 3) fun x10 =>
 QF C x10 (fun H12 =>
 ixa p_l x1 fun p13 =>
 stT (p13.1, p13.2 + (x1 : Int).toNat * 4) (Qa.c (⟨9, 0, [115, 112, 111, 105, 108, 116], Sl.nil⟩ : Qa)) (fun H18 =>
 J2 (w .i64 (x1 + 1)) H18) H12) H3)
 (K H3))
theorem Qe1 (C p_l K H) (h : Qdg C p_l K H) : QF C p_l K H := by
 refine Ye Tryz.func50 rfl Tryz.ntmps50 [(0, slv p_l)] (Zo (Za (GL.nil (GC.block (Yp h (fun x1 => [(2, .int .i64 x1), (0, slv p_l)]) ?_)))))
 intro x1 H3 J2 h
 refine GC.seq (Zo (Zm (Zm (Zq (Zi (.bool (decide ((x1 : Int) < (Sl.len p_l : Int)))) (GL.nil (Yd h (fun hc4 h => ?_) fun hc4 h => ?_)))))))
 refine GC.skip (GC.seq (GC.block (Zo (Zm (Zm (Yx h fun p5 h => ?_))))))
 refine Zf (Yl h fun x10 h => ?_)
 refine Zc h QbS ?_
 rintro _ H12 ⟨rfl, h⟩
 refine GL.nil (GC.region (Zm (Zm (Zv (OV.build (vs := [(0, .int .u8 9), (2, sv [115, 112, 111, 105, 108, 116])]) (v := .agg (Qa.c (⟨9, 0, [115, 112, 111, 105, 108, 116], Sl.nil⟩ : Qa)).toArray) rfl (fun _ => by kernel_rfl)) (Yx h fun p13 h => ?_)))))
 refine GL.storeT (p := (p13.1, p13.2 + (x1 : Int).toNat * 4)) (vs := Qa.c (⟨9, 0, [115, 112, 111, 105, 108, 116], Sl.nil⟩ : Qa)) h trivial rfl rfl rfl rfl ?_
 intro H18 h
 refine GL.nil_to (fun _ _ h => h) (GC.region (Zm (Zi (.int .i64 (w .i64 (x1 + 1))) (Za ?_))))
 exact Yj I3 (w .i64 (x1 + 1)) h
 exact GC.exit_ends (fun _ _ hf hs => Qy rfl hf hs ⟨rfl, h⟩)
def QcH (C : Ctx) (p_l : Option (Nat × Nat)) (K : Heap → Prop) (H : Heap) : Prop :=
 Qm C p_l (fun r1 H2 =>
 nw ([slv r1]) (fun b3 H4 =>
 nck p_l fun p5 =>
 st (p5.1, p5.2 + 0) (slv (Sl.of (some (b3, 0)) 1 1)) (fun H7 =>
 K H7) H4) H2) H
theorem Qfn (C p_l K H) (h : QcH C p_l K H) : QaH C p_l K H := by
 refine Ye Tryz.func51 rfl Tryz.ntmps51 [(0, pv p_l)] (GC.region (Zm (Zm (Zc h Qp ?_))))
 rintro _ H2 ⟨r1, rfl, h⟩
 refine GL.buildSlice (cs := [slv r1]) h trivial rfl (vs := [(0, slv r1)]) rfl ⟨33, fun _ => by kernel_rfl⟩ ?_
 intro b3 H4 h
 obtain ⟨p5, hp6, h⟩ := h
 refine Zv (OV.nilCheck (q := p_l) rfl hp6) (Zf (GL.store (p := (p5.1, p5.2 + 0)) (v := slv (Sl.of (some (b3, 0)) 1 1)) h trivial rfl rfl rfl rfl ?_))
 intro H7 h
 exact GL.ends (fun _ _ hf hs => Qy rfl hf hs ⟨rfl, h⟩)
def Qd9 (C : Ctx) (p_l : Option (Nat × Nat)) (p_r : Qb) (K : Bool → Heap → Prop) (H : Heap) : Prop :=
 nw (Qb.c p_r) (fun b1 H2 =>
 dr H2 fun Hs3 =>
 ldT Hs3 Qb.c (b1, 0) fun x5 =>
 Qm C p_l (fun r8 H9 =>
 Heap.le Hs3 H9 ∧
 QbY C r8 x5 (fun r11 r12 H13 =>
 Heap.le Hs3 H13 ∧
 ldL H13 ((b1, 0).1, (b1, 0).2 + 1) fun x14 =>
 Qbp C x14 (fun r16 H17 =>
 K (r16 && r12) H17) H13) H9) H2) H
theorem QgY (C p_l p_r K H) (h : Qd9 C p_l p_r K H) : QbG C p_l p_r K H := by
 refine Ye Tryz.func52 rfl Tryz.ntmps52 [(0, pv p_l), (1, .agg (Qb.c p_r).toArray)] (Zo (GL.box (v := .agg (Qb.c p_r).toArray) (cs := Qb.c p_r) h trivial rfl rfl rfl ?_))
 intro b1 H2 h
 refine Za (GL.nil (GC.seq ?_))
 obtain ⟨Hs3, hle4, h⟩ := h
 refine GC.any (Hs := Hs3) (by kernel_rfl) hle4 (Zp 0 rfl Ym ?_)
 obtain ⟨x5, v6, h⟩ := h
 refine Zp 2 rfl (OV.loadT rfl rfl rfl v6) (GA.eff 1 rfl (by kernel_rfl) (Zc h Qp ?_))
 rintro _ H9 ⟨r8, rfl, h⟩
 obtain ⟨hle7, h⟩ := h
 refine GA.back hle7 (GA.eff 3 rfl (by kernel_rfl) (Zc h QdS ?_))
 rintro _ H13 ⟨r11, r12, rfl, h⟩
 obtain ⟨hle10, h⟩ := h
 refine GA.back hle10 (Zp 4 rfl Ym (Zp 5 rfl (OV.extract (v := .int .i64 r11) rfl rfl) (Zp 6 rfl (OV.extract (v := .bool r12) rfl rfl) (Zp 7 rfl Ya (Zp 8 rfl Ya (GA.done (by kernel_rfl) (GL.nil (Zo (Zf (Yl h fun x14 h => ?_))))))))))
 refine Zc h Qb2 ?_
 rintro _ H17 ⟨r16, rfl, h⟩
 refine Zm (GL.cut0 2 [(19, .bool (r16 && r12))] ?_ ?_)
 rcases Bool.eq_false_or_eq_true r16 with u18 | u18
 refine Zu u18 Ym (Zt u18 ?_)
 exact GL.jump0 (fun _ _ h => h) () rfl ⟨(by rw [u18]; rfl), trivial⟩
 refine Zk u18 (Zn u18 ?_)
 exact GL.jump0 (fun _ _ h => h) () rfl ⟨(by rw [u18]; rfl), trivial⟩
 refine Za (GL.nil ?_)
 exact Y1 I3 ⟨(r16 && r12), rfl, h⟩
def QcY (C : Ctx) (p_a : Sl) (p_b : Sl) (K : Bool → Heap → Prop) (H : Heap) : Prop :=
 ift (((Sl.len p_a : Int) : Int) != (Sl.len p_b : Int))
 (K false H)
 (lp (α := Int) 0 H (fun x2 J3 H4 =>
 ift (decide ((x2 : Int) < (Sl.len p_a : Int)))
 (ixa p_a x2 fun p6 =>
 ldS H4 (p6.1, p6.2 + (x2 : Int).toNat * 1) fun x11 =>
 ixa p_b x2 fun p13 =>
 ldS H4 (p13.1, p13.2 + (x2 : Int).toNat * 1) fun x18 =>
 ift (!(x11 == x18))
 (K false H4)
 (J3 (w .i64 (x2 + 1)) H4))
 (K true H4)))
theorem QfG (C p_a p_b K H) (h : QcY C p_a p_b K H) : QbN C p_a p_b K H := by
 refine Ye Tryz.func53 rfl Tryz.ntmps53 [(0, slv p_a), (1, slv p_b)] (Zo (Za (GL.nil (GC.seq (Zo (Zm (Zq (Zm (Zq (Zi (.bool (((Sl.len p_a : Int) : Int) != (Sl.len p_b : Int))) (GL.nil (Yd h (fun u1 h => ?_) fun u1 h => ?_))))))))))))
 refine Zo (Za (GL.nil ?_))
 exact Y1 I3 ⟨false, rfl, h⟩
 refine GC.skip (GC.seq (Zo (Za (GL.nil (GC.block (Yp h (fun x2 => [(5, .int .i64 x2), (0, slv p_a), (1, slv p_b)]) ?_))))))
 intro x2 H4 J3 h
 refine GC.seq (Zo (Zm (Zm (Zq (Zi (.bool (decide ((x2 : Int) < (Sl.len p_a : Int)))) (GL.nil (Yd h (fun u5 h => ?_) fun u5 h => ?_)))))))
 refine GC.skip (GC.seq (GC.block (GC.seq (GC.draw (by kernel_rfl) (by kernel_rfl) (GQ.val trivial rfl (OV.move (v := slv p_a) rfl) (GQ.val trivial rfl (OV.move (v := .int .i64 x2) rfl) ?_))))))
 obtain ⟨p6, ha7, hb8, u9, hd10, h⟩ := h
 refine GQ.val trivial rfl (OV.indexAddr (s := p_a) rfl rfl rfl rfl ha7 hb8 u9 hd10) ?_
 obtain ⟨x11, v12, h⟩ := h
 refine GQ.val trivial rfl (OV.load (p := (p6.1, p6.2 + (x2 : Int).toNat * 1)) rfl rfl v12) (GQ.val trivial rfl (OV.move (v := slv p_b) rfl) (GQ.val trivial rfl (OV.move (v := .int .i64 x2) rfl) ?_))
 obtain ⟨p13, ha14, hb15, u16, hd17, h⟩ := h
 refine GQ.val trivial rfl (OV.indexAddr (s := p_b) rfl rfl rfl rfl ha14 hb15 u16 hd17) ?_
 obtain ⟨x18, v19, h⟩ := h
 refine GQ.val trivial rfl (OV.load (p := (p13.1, p13.2 + (x2 : Int).toNat * 1)) rfl rfl v19) (GQ.val trivial rfl (OV.sbin (a := x11) (b := x18) (v := .bool (!(x11 == x18))) rfl rfl rfl) (GQ.nil (GL.nil (Yd h (fun u20 h => ?_) fun u20 h => ?_))))
 refine Zo (Za (GL.nil ?_))
 exact Y1 I3 ⟨false, rfl, h⟩
 refine GC.skip_to (fun _ _ h => h) (GC.region (Zm (Zi (.int .i64 (w .i64 (x2 + 1))) (Za ?_))))
 exact Yj I3 (w .i64 (x2 + 1)) h
 refine GC.exit_to (fun _ _ h => h) (Zo (Za (GL.nil ?_)))
 exact Y1 I3 ⟨true, rfl, h⟩
def Qea (C : Ctx) (p_l : Option (Nat × Nat)) (K : Sl → Heap → Prop) (H : Heap) : Prop :=
 nck p_l fun p1 =>
 ldL H (p1.1, p1.2 + 0) fun x3 =>
 nck p_l fun p5 =>
 ldL H (p5.1, p5.2 + 0) fun x7 =>
 ixa x3 (w .i64 ((Sl.len x7 : Int) - 1)) fun p9 =>
 ldL H (p9.1, p9.2 + (w .i64 ((Sl.len x7 : Int) - 1) : Int).toNat * 1) fun x14 =>
 K x14 H
theorem QgZ (C p_l K H) (h : Qea C p_l K H) : Qm C p_l K H := by
 refine Ye Tryz.func54 rfl Tryz.ntmps54 [(0, pv p_l)] (Zo (Za (GL.nil (GC.seq (GC.draw (by kernel_rfl) (by kernel_rfl) (GQ.val trivial rfl (OV.move (v := pv p_l) rfl) ?_))))))
 obtain ⟨p1, hp2, h⟩ := h
 refine GQ.val trivial rfl (OV.nilCheck (q := p_l) rfl hp2) (GQ.val trivial rfl (OV.fieldAddr (p := p1) rfl rfl) ?_)
 obtain ⟨x3, v4, h⟩ := h
 refine GQ.val trivial rfl (OV.load (p := (p1.1, p1.2 + 0)) rfl rfl v4) (GQ.val trivial rfl (OV.move (v := pv p_l) rfl) ?_)
 obtain ⟨p5, hp6, h⟩ := h
 refine GQ.val trivial rfl (OV.nilCheck (q := p_l) rfl hp6) (GQ.val trivial rfl (OV.fieldAddr (p := p5) rfl rfl) ?_)
 obtain ⟨x7, v8, h⟩ := h
 refine GQ.val trivial rfl (OV.load (p := (p5.1, p5.2 + 0)) rfl rfl v8) (GQ.val trivial rfl (OV.lenSl (s := x7) rfl rfl) (GQ.val trivial rfl (OV.ibin (v := .int .i64 (w .i64 ((Sl.len x7 : Int) - 1))) rfl rfl rfl) ?_))
 obtain ⟨p9, ha10, hb11, u12, hd13, h⟩ := h
 refine GQ.val trivial rfl (OV.indexAddr (s := x3) rfl rfl rfl rfl ha10 hb11 u12 hd13) ?_
 obtain ⟨x14, v15, h⟩ := h
 refine GQ.val trivial rfl (OV.load (p := (p9.1, p9.2 + (w .i64 ((Sl.len x7 : Int) - 1) : Int).toNat * 1)) rfl rfl v15) (GQ.val trivial rfl (OV.assign (v := slv x14) rfl) (GQ.nil (GL.nil ?_)))
 exact Y1 I3 ⟨x14, rfl, h⟩
def QgN (C : Ctx) (p_l : Sl) (K : Bool → Heap → Prop) (H : Heap) : Prop :=
 lp (α := Int) 0 H (fun x1 J2 H3 =>
 ift (decide ((x1 : Int) < (Sl.len p_l : Int)))
 (ixa p_l x1 fun p5 =>
 ldT H3 Qa.c (p5.1, p5.2 + (x1 : Int).toNat * 4) fun x10 =>
 Qao C x10 (fun r12 H13 =>
 ift ((r12 : Int) != 0)
 (K false H13)
 (J2 (w .i64 (x1 + 1)) H13)) H3)
 (K true H3))
theorem Qjx (C p_l K H) (h : QgN C p_l K H) : Qbp C p_l K H := by
 refine Ye Tryz.func57 rfl Tryz.ntmps57 [(0, slv p_l)] (Zo (Za (GL.nil (GC.seq (Zo (Za (GL.nil (GC.block (Yp h (fun x1 => [(3, .int .i64 x1), (0, slv p_l)]) ?_)))))))))
 intro x1 H3 J2 h
 refine GC.seq (Zo (Zm (Zm (Zq (Zi (.bool (decide ((x1 : Int) < (Sl.len p_l : Int)))) (GL.nil (Yd h (fun u4 h => ?_) fun u4 h => ?_)))))))
 refine GC.skip (GC.seq (GC.block (Zo (Zm (Zm (Yx h fun p5 h => ?_))))))
 obtain ⟨x10, v11, h⟩ := h
 refine Zv (OV.loadT rfl rfl rfl v11) (Zc h Qio ?_)
 rintro _ H13 ⟨r12, rfl, h⟩
 refine Zi (.bool ((r12 : Int) != 0)) (GL.nil (Yd h (fun u14 h => ?_) fun u14 h => ?_))
 refine Zo (Za (GL.nil ?_))
 exact Y1 I3 ⟨false, rfl, h⟩
 refine GC.skip_to (fun _ _ h => h) (GC.region (Zm (Zi (.int .i64 (w .i64 (x1 + 1))) (Za ?_))))
 exact Yj I3 (w .i64 (x1 + 1)) h
 refine GC.exit_to (fun _ _ h => h) (Zo (Za (GL.nil ?_)))
 exact Y1 I3 ⟨true, rfl, h⟩
def Qga (C : Ctx) (p_a : Bool) (p_b : Bool) (K : Int → Heap → Prop) (H : Heap) : Prop :=
 ift (p_a == p_b)
 (K 0 H)
 (ift p_a
 (K (-1) H)
 (K 1 H))
theorem QiT (C p_a p_b K H) (h : Qga C p_a p_b K H) : Qej C p_a p_b K H := by
 refine Ye Tryz.func58 rfl Tryz.ntmps58 [(0, .bool p_a), (1, .bool p_b)] (Zo (Za (GL.nil (GC.seq (Zo (Zm (Zm (Zv (OV.eqlBool rfl rfl rfl) (GL.nil (Yd h (fun u1 h => ?_) fun u1 h => ?_))))))))))
 refine Zo (Za (GL.nil ?_))
 exact Y1 I3 ⟨0, rfl, h⟩
 refine GC.skip (GC.seq (Zo (Zm (GL.nil (Yd h (fun u2 h => ?_) fun u2 h => ?_)))))
 refine Zo (Za (GL.nil ?_))
 exact Y1 I3 ⟨(-1), rfl, h⟩
 refine GC.skip (Zo (Za (GL.nil ?_)))
 exact Y1 I3 ⟨1, rfl, h⟩
def Qgb (C : Ctx) (p_a : Sl) (p_b : Sl) (K : Int → Heap → Prop) (H : Heap) : Prop :=
 lp (α := Int) 0 H (fun x1 J2 H3 =>
 ift ((decide ((x1 : Int) < (Sl.len p_a : Int))) && (decide ((x1 : Int) < (Sl.len p_b : Int))))
 (dr H3 fun Hs6 =>
 ixa p_a x1 fun p8 =>
 ldT Hs6 Qa.c (p8.1, p8.2 + (x1 : Int).toNat * 4) fun x13 =>
 ixa p_b x1 fun p15 =>
 ldT Hs6 Qa.c (p15.1, p15.2 + (x1 : Int).toNat * 4) fun x20 =>
 Qap C x13 x20 (fun r23 H24 =>
 Heap.le Hs6 H24 ∧
 ift ((r23 : Int) != 0)
 (K r23 H24)
 (J2 (w .i64 (x1 + 1)) H24)) H3)
 (Qal C (Sl.len p_a : Int) (Sl.len p_b : Int) (fun r26 H27 =>
 K r26 H27) H3))
theorem QiU (C p_a p_b K H) (h : Qgb C p_a p_b K H) : Qbv C p_a p_b K H := by
 refine Ye Tryz.func59 rfl Tryz.ntmps59 [(0, slv p_a), (1, slv p_b)] (Zo (Za (GL.nil (GC.seq (Zo (Za (GL.nil (GC.block (Yp h (fun x1 => [(5, .int .i64 x1), (0, slv p_a), (1, slv p_b)]) ?_)))))))))
 intro x1 H3 J2 h
 refine GC.seq (Zo (Zm (Zm (Zq (Zi (.bool (decide ((x1 : Int) < (Sl.len p_a : Int)))) (Zm (GL.cut0 5 [(16, .bool ((decide ((x1 : Int) < (Sl.len p_a : Int))) && (decide ((x1 : Int) < (Sl.len p_b : Int))))), (0, slv p_a), (1, slv p_b), (5, .int .i64 x1)] ?_ ?_)))))))
 rcases Zb (decide ((x1 : Int) < (Sl.len p_a : Int))) with u4 | u4
 refine Zu u4 Ym (Zu u4 Ym (Zu u4 (OV.lenSl rfl rfl) (Zu u4 (OV.ibin (v := .bool (decide ((x1 : Int) < (Sl.len p_b : Int)))) rfl rfl rfl) (Zt u4 ?_))))
 exact GL.jump0 (fun _ _ h => h) () rfl ⟨(by rw [u4]; rfl), rfl, rfl, rfl, trivial⟩
 refine Zk u4 (Zk u4 (Zk u4 (Zk u4 (Zn u4 ?_))))
 exact GL.jump0 (fun _ _ h => h) () rfl ⟨(by rw [u4]; rfl), rfl, rfl, rfl, trivial⟩
 refine GL.nil (Yd h (fun u5 h => ?_) fun u5 h => ?_)
 refine GC.skip (GC.seq (GC.block (GC.seq ?_)))
 obtain ⟨Hs6, hle7, h⟩ := h
 refine GC.any (Hs := Hs6) (by kernel_rfl) hle7 (Zp 0 rfl Ym (Zp 1 rfl Ym ?_))
 obtain ⟨p8, ha9, hb10, u11, hd12, h⟩ := h
 refine Zp 2 rfl (OV.indexAddr rfl rfl rfl rfl ha9 hb10 u11 hd12) ?_
 obtain ⟨x13, v14, h⟩ := h
 refine Zp 3 rfl (OV.loadT rfl rfl rfl v14) (Zp 4 rfl Ym (Zp 5 rfl Ym ?_))
 obtain ⟨p15, ha16, hb17, u18, hd19, h⟩ := h
 refine Zp 6 rfl (OV.indexAddr rfl rfl rfl rfl ha16 hb17 u18 hd19) ?_
 obtain ⟨x20, v21, h⟩ := h
 refine Zp 7 rfl (OV.loadT rfl rfl rfl v21) (GA.eff 8 rfl (by kernel_rfl) (Zc h QjM ?_))
 rintro _ H24 ⟨r23, rfl, h⟩
 obtain ⟨hle22, h⟩ := h
 refine GA.back hle22 (Zp 9 rfl Ya (GA.done (by kernel_rfl) (GL.nil (Zo (Zm (Zi (.bool ((r23 : Int) != 0)) (GL.nil (Yd h (fun u25 h => ?_) fun u25 h => ?_))))))))
 refine Zo (Zm (Za (GL.nil ?_)))
 exact Y1 I3 ⟨r23, rfl, h⟩
 refine GC.skip_to (fun _ _ h => h) (GC.region (Zm (Zi (.int .i64 (w .i64 (x1 + 1))) (Za ?_))))
 exact Yj I3 (w .i64 (x1 + 1)) h
 refine GC.exit_to (fun _ _ h => h) (Zo (Zm (Zq (Zm (Zq (Zc h Qa7 ?_))))))
 rintro _ H27 ⟨r26, rfl, h⟩
 refine Za (GL.nil ?_)
 exact Y1 I3 ⟨r26, rfl, h⟩
def Q2 (C : Ctx) (p_s : Sl) (K : Sl → Heap → Prop) (H : Heap) : Prop :=
 ift (Sl.isNil p_s)
 (K Sl.nil H)
 (nw ([]) (fun b2 H3 =>
 apS (Qa.c Qa.zero) 56 (Sl.of (some (b2, 0)) 0 0) p_s (fun r4 H5 =>
 K r4 H5) H3) H)
theorem Qbm (C p_s K H) (h : Q2 C p_s K H) : QD C p_s K H := by
 refine Ye Tryz.func60 rfl Tryz.ntmps60 [(0, slv p_s)] (Zo (Za (GL.nil (GC.seq (Zo (Zm (Zv (OV.eqlSl (s := p_s) rfl rfl rfl) (GL.nil (Yd h (fun u1 h => ?_) fun u1 h => ?_)))))))))
 refine Zo (Za (GL.nil ?_))
 exact Y1 I3 ⟨Sl.nil, rfl, h⟩
 refine GC.skip (Zo (GL.buildSlice (cs := []) h trivial rfl (vs := []) rfl ⟨56, fun _ => by kernel_rfl⟩ ?_))
 intro b2 H3 h
 refine Zm (GL.appendS (s := (Sl.of (some (b2, 0)) 0 0)) (s2 := p_s) (zc := Qa.c Qa.zero) (bytes := 56) h trivial rfl rfl rfl ⟨⟨_, _, _, rfl, rfl, rfl, rfl, rfl, rfl⟩⟩ rfl ?_)
 intro r4 H5 h
 refine Za (GL.nil ?_)
 exact Y1 I3 ⟨r4, rfl, h⟩
def Qbt (C : Ctx) (p_x : Str) (K : Bool → Heap → Prop) (H : Heap) : Prop :=
 K (!(p_x == p_x)) H
theorem Qcu (C p_x K H) (h : Qbt C p_x K H) : Q5 C p_x K H := by
 refine Ye Tryz.func63 rfl Tryz.ntmps63 [(0, sv p_x)] (Zo (Za (GL.nil (Zo (Zm (Zm (Zv (OV.sbin (a := p_x) (b := p_x) (v := .bool (!(p_x == p_x))) rfl rfl rfl) (Za (GL.nil ?_)))))))))
 exact Y1 I3 ⟨(!(p_x == p_x)), rfl, h⟩
def QgR (C : Ctx) (p_l : Sl) (K : Bool → Heap → Prop) (H : Heap) : Prop :=
 Qt C p_l (.func (.func 89) (List.toArray []) (List.toArray []) : Value) (fun r1 H2 =>
 K (!r1) H2) H
theorem QjB (C p_l K H) (h : QgR C p_l K H) : QdI C p_l K H := by
 refine Ye Tryz.func64 rfl Tryz.ntmps64 [(0, slv p_l)] (Zo (Za (GL.nil (Zo (Zm (Zc h QaA ?_))))))
 rintro _ H2 ⟨r1, rfl, h⟩
 refine Zv (OV.not rfl) (Za (GL.nil ?_))
 exact Y1 I3 ⟨(!r1), rfl, h⟩
def Qge (C : Ctx) (p_a : Bool) (p_b : Bool) (K : Int → Heap → Prop) (H : Heap) : Prop :=
 ift (p_a == p_b)
 (K 0 H)
 (ift p_a
 (K (-1) H)
 (K 1 H))
theorem QiX (C p_a p_b K H) (h : Qge C p_a p_b K H) : Qek C p_a p_b K H := by
 refine Ye Tryz.func65 rfl Tryz.ntmps65 [(0, .bool p_a), (1, .bool p_b)] (Zo (Za (GL.nil (GC.seq (GC.block (Zo (Zm (Zm (Zv (OV.eqlBool rfl rfl rfl) (Za (GL.nil (Yd h (fun u1 h => ?_) fun u1 h => ?_))))))))))))
 refine Zo (Za (GL.nil ?_))
 exact Y1 I3 ⟨0, rfl, h⟩
 refine Zo (Zm (Za (GL.nil (Yd h (fun u2 h => ?_) fun u2 h => ?_))))
 refine Zo (Za (GL.nil ?_))
 exact Y1 I3 ⟨(-1), rfl, h⟩
 refine GC.skip_to (fun _ _ h => h) (Zo (Za (GL.nil ?_)))
 exact Y1 I3 ⟨1, rfl, h⟩
def Qgg (C : Ctx) (p_a : Sl) (p_b : Sl) (K : Int → Heap → Prop) (H : Heap) : Prop :=
 Qe C p_a p_b (.func (.func 91) (List.toArray []) (List.toArray []) : Value) (fun r1 H2 =>
 K r1 H2) H
theorem QiZ (C p_a p_b K H) (h : Qgg C p_a p_b K H) : QbZ C p_a p_b K H := by
 refine Ye Tryz.func66 rfl Tryz.ntmps66 [(0, slv p_a), (1, slv p_b)] (Zo (Za (GL.nil (Zo (Zm (Zm (Zc h QM ?_)))))))
 rintro _ H2 ⟨r1, rfl, h⟩
 refine Za (GL.nil ?_)
 exact Y1 I3 ⟨r1, rfl, h⟩
def Qfi (C : Ctx) (p_v : Qa) (K : Int → Heap → Prop) (H : Heap) : Prop :=
 nw (Qa.c p_v) (fun b1 H2 =>
 ldT H2 Qa.c (b1, 0) fun x3 =>
 Q0 C x3 65 (fun r5 H6 =>
 ift (decide ((r5 : Int) > 64))
 (K 65 H6)
 (ldT H6 Qa.c (b1, 0) fun x8 =>
 Qx C x8 (fun r10 r11 H12 =>
 ift (!r10)
 (K 4 H12)
 (ift (!r11)
 (K 40 H12)
 (K 0 H12))) H6)) H2) H
theorem Qii (C p_v K H) (h : Qfi C p_v K H) : QZ C p_v K H := by
 refine Ye Tryz.func67 rfl Tryz.ntmps67 [(0, .agg (Qa.c p_v).toArray)] (Zo (GL.box (v := .agg (Qa.c p_v).toArray) (cs := Qa.c p_v) h trivial rfl rfl rfl ?_))
 intro b1 H2 h
 refine Za (GL.nil (GC.seq (Zo ?_)))
 obtain ⟨x3, v4, h⟩ := h
 refine Zv (OV.loadT rfl rfl rfl v4) (Zc h Qe7 ?_)
 rintro _ H6 ⟨r5, rfl, h⟩
 refine Zi (.bool (decide ((r5 : Int) > 64))) (GL.nil (Yd h (fun u7 h => ?_) fun u7 h => ?_))
 refine Zo (Za (GL.nil ?_))
 exact Y1 I3 ⟨65, rfl, h⟩
 refine GC.skip (GC.seq (Zo ?_))
 obtain ⟨x8, v9, h⟩ := h
 refine Zv (OV.loadT rfl rfl rfl v9) (Zc h QcS ?_)
 rintro _ H12 ⟨r10, r11, rfl, h⟩
 refine Zm (Yv (.bool r10) rfl rfl (Yv (.bool r11) rfl rfl (Za (Za (GL.nil (GC.block (Zo (Zm (Zv (OV.not rfl) (Za (GL.nil (Yd h (fun u13 h => ?_) fun u13 h => ?_))))))))))))
 refine Zo (Za (GL.nil ?_))
 exact Y1 I3 ⟨4, rfl, h⟩
 refine Zo (Zm (Zv (OV.not rfl) (Za (GL.nil (Yd h (fun u14 h => ?_) fun u14 h => ?_)))))
 refine Zo (Za (GL.nil ?_))
 exact Y1 I3 ⟨40, rfl, h⟩
 refine GC.skip_to (fun _ _ h => h) (Zo (Za (GL.nil ?_)))
 exact Y1 I3 ⟨0, rfl, h⟩
def Qgd (C : Ctx) (p_v : Qa) (K : Str → Heap → Prop) (H : Heap) : Prop :=
 nw (Qa.c p_v) (fun b1 H2 =>
 ldT H2 Qa.c (b1, 0) fun x3 =>
 QZ C x3 (fun r5 H6 =>
 ift ((r5 : Int) != 0)
 (K [] H6)
 (nwB 136 5 (fun b8 H9 =>
 nw ([.nilFunc]) (fun b10 H11 =>
 nw ([.nilFunc]) (fun b12 H13 =>
 st (b12, 0) (.func (.func 95) (List.toArray []) (List.toArray [pv (some (b8, 0)), pv (some (b10, 0))])) (fun H14 =>
 st (b10, 0) (.func (.func 98) (List.toArray []) (List.toArray [pv (some (b8, 0)), pv (some (b12, 0))])) (fun H15 =>
 ldV H15 (b10, 0) fun x16 =>
 ldT H15 Qa.c (b1, 0) fun x18 =>
 callU Tryz.prog C x16 [.agg (Qa.c x18).toArray] H15 (fun v H20 => v = .tuple #[] ∧
 Qr C (some (b8, 0)) (fun r21 H22 =>
 K r21 H22) H20)) H14) H13) H11) H9) H6)) H2) H
theorem QiW (C p_v K H) (h : Qgd C p_v K H) : Qbw C p_v K H := by
 refine Ye Tryz.func68 rfl Tryz.ntmps68 [(0, .agg (Qa.c p_v).toArray)] (Zo (GL.box (v := .agg (Qa.c p_v).toArray) (cs := Qa.c p_v) h trivial rfl rfl rfl ?_))
 intro b1 H2 h
 refine Za (GL.nil (GC.seq (Zo ?_)))
 obtain ⟨x3, v4, h⟩ := h
 refine Zv (OV.loadT rfl rfl rfl v4) (Zc h Qdf ?_)
 rintro _ H6 ⟨r5, rfl, h⟩
 refine Zi (.bool ((r5 : Int) != 0)) (GL.nil (Yd h (fun u7 h => ?_) fun u7 h => ?_))
 refine Zo (Za (GL.nil ?_))
 exact Y1 I3 ⟨[], rfl, h⟩
 refine GC.skip (Zo (GL.allocB (T := 136) (e := 5) h trivial rfl rfl rfl ?_))
 intro b8 H9 h
 refine GL.nil (Zo (GL.alloc (cs := [.nilFunc]) h trivial rfl rfl rfl ?_))
 intro b10 H11 h
 refine GL.nil (Zo (Zv (OV.makeFunc (vs := []) (us := [pv (some (b8, 0)), pv (some (b10, 0))]) rfl rfl) (GL.alloc (cs := [.nilFunc]) h trivial rfl rfl rfl ?_)))
 intro b12 H13 h
 refine GL.store (p := (b12, 0)) (v := .func (.func 95) (List.toArray []) (List.toArray [pv (some (b8, 0)), pv (some (b10, 0))])) h trivial rfl rfl rfl rfl ?_
 intro H14 h
 refine GL.nil (Zo (Zv (OV.makeFunc (vs := []) (us := [pv (some (b8, 0)), pv (some (b12, 0))]) rfl rfl) (GL.store (p := (b10, 0)) (v := .func (.func 98) (List.toArray []) (List.toArray [pv (some (b8, 0)), pv (some (b12, 0))])) h trivial rfl rfl rfl rfl ?_)))
 intro H15 h
 refine GL.nil (Zo (Yl h fun x16 h => ?_))
 obtain ⟨x18, v19, h⟩ := h
 refine Zv (OV.loadT rfl rfl rfl v19) (GL.callU (xv := x16) (vs := [.agg (Qa.c x18).toArray]) h trivial rfl rfl rfl ?_)
 rintro _ H20 ⟨rfl, h⟩
 refine GL.nil (Zo (Zc h Qdd ?_))
 rintro _ H22 ⟨r21, rfl, h⟩
 refine Za (GL.nil ?_)
 exact Y1 I3 ⟨r21, rfl, h⟩
def Qf6 (C : Ctx) (p_a : Qa) (p_b : Qa) (K : Bool → Heap → Prop) (H : Heap) : Prop :=
 nw (Qa.c p_a) (fun b1 H2 =>
 nw (Qa.c p_b) (fun b3 H4 =>
 ldI H4 .u8 ((b1, 0).1, (b1, 0).2 + 0) fun x5 =>
 ldI H4 .u8 ((b3, 0).1, (b3, 0).2 + 0) fun x7 =>
 jn (α := Bool) (fun b9 H17 =>
 jn (α := Bool) (fun b18 H26 =>
 jn (α := Bool) (fun b27 H37 =>
 K b27 H37)
 (fun J28 => ift b18
 (ldL H26 ((b1, 0).1, (b1, 0).2 + 3) fun x31 =>
 ldL H26 ((b3, 0).1, (b3, 0).2 + 3) fun x33 =>
 Q1 C x31 x33 (fun r35 H36 =>
 J28 r35 H36) H26)
 (J28 false H26)))
 (fun J19 => ift b9
 (ldS H17 ((b1, 0).1, (b1, 0).2 + 2) fun x22 =>
 ldS H17 ((b3, 0).1, (b3, 0).2 + 2) fun x24 =>
 J19 (x22 == x24) H17)
 (J19 false H17)))
 (fun J10 => ift ((x5 : Int) == x7)
 (ldI H4 .i64 ((b1, 0).1, (b1, 0).2 + 1) fun x13 =>
 ldI H4 .i64 ((b3, 0).1, (b3, 0).2 + 1) fun x15 =>
 J10 ((x13 : Int) == x15) H4)
 (J10 false H4))) H2) H
theorem QiP (C p_a p_b K H) (h : Qf6 C p_a p_b K H) : Q7 C p_a p_b K H := by
 refine Ye Tryz.func69 rfl Tryz.ntmps69 [(0, .agg (Qa.c p_a).toArray), (1, .agg (Qa.c p_b).toArray)] (Zo (GL.box (v := .agg (Qa.c p_a).toArray) (cs := Qa.c p_a) h trivial rfl rfl rfl ?_))
 intro b1 H2 h
 refine GL.box (v := .agg (Qa.c p_b).toArray) (cs := Qa.c p_b) h trivial rfl rfl rfl ?_
 intro b3 H4 h
 refine Za (GL.nil (Zo (Zf (Yl h fun x5 h => ?_))))
 refine Zf (Yl h fun x7 h => ?_)
 refine Zi (.bool ((x5 : Int) == x7)) (Zm ?_)
 obtain ⟨J10, h, hR11⟩ := h
 refine GL.cut (α := Bool) 6 J10 (fun b9 => [(16, .bool b9), (2, pv (some (b1, 0))), (3, pv (some (b3, 0)))]) ?_ ?_
 rcases h.em with ⟨u12, h⟩ | ⟨u12, h⟩
 refine Zu u12 Yf ?_
 obtain ⟨x13, v14, h⟩ := h
 refine Zu u12 (Yo v14) (Zu u12 Yf ?_)
 obtain ⟨x15, v16, h⟩ := h
 refine Zu u12 (Yo v16) (Zu u12 (OV.ibin (v := .bool ((x13 : Int) == x15)) rfl rfl rfl) (Zt u12 ?_))
 exact Yj I3 ((x13 : Int) == x15) h
 refine Zk u12 (Zk u12 (Zk u12 (Zk u12 (Zk u12 (Zn u12 ?_)))))
 exact Yj I3 false h
 intro b9 H17 h
 replace h := hR11 b9 H17 h
 refine Zm ?_
 obtain ⟨J19, h, hR20⟩ := h
 refine GL.cut (α := Bool) 6 J19 (fun b18 => [(23, .bool b18), (2, pv (some (b1, 0))), (3, pv (some (b3, 0)))]) ?_ ?_
 rcases h.em with ⟨u21, h⟩ | ⟨u21, h⟩
 refine Zu u21 Yf ?_
 obtain ⟨x22, v23, h⟩ := h
 refine Zu u21 (Yo v23) (Zu u21 Yf ?_)
 obtain ⟨x24, v25, h⟩ := h
 refine Zu u21 (Yo v25) (Zu u21 (OV.sbin (a := x22) (b := x24) (v := .bool (x22 == x24)) rfl rfl rfl) (Zt u21 ?_))
 exact Yj I3 (x22 == x24) h
 refine Zk u21 (Zk u21 (Zk u21 (Zk u21 (Zk u21 (Zn u21 ?_)))))
 exact Yj I3 false h
 intro b18 H26 h
 replace h := hR20 b18 H26 h
 refine Zm ?_
 obtain ⟨J28, h, hR29⟩ := h
 refine GL.cut (α := Bool) 6 J28 (fun b27 => [(30, .bool b27)]) ?_ ?_
 rcases h.em with ⟨u30, h⟩ | ⟨u30, h⟩
 refine Zu u30 Yf ?_
 obtain ⟨x31, v32, h⟩ := h
 refine Zu u30 (Yo v32) (Zu u30 Yf ?_)
 obtain ⟨x33, v34, h⟩ := h
 refine Zu u30 (Yo v34) (GL.call h (Yt u30) rfl Qbl (vs := [slv x31, slv x33]) rfl ?_)
 rintro _ H36 ⟨r35, rfl, h⟩
 refine Zt u30 ?_
 exact Yj I3 r35 h
 refine Zk u30 (Zk u30 (Zk u30 (Zk u30 (Zk u30 (Zn u30 ?_)))))
 exact Yj I3 false h
 intro b27 H37 h
 replace h := hR29 b27 H37 h
 refine Za (GL.nil ?_)
 exact Y1 I3 ⟨b27, rfl, h⟩
def QI (C : Ctx) (Y : List Value → (Bool → Heap → Prop) → Heap → Prop) (v0 : Nat × Nat) (K : Heap → Prop) (H : Heap) : Prop :=
 ldL H v0 fun x1 =>
 lp (α := Int) (w .i64 ((Sl.len x1 : Int) - 1)) H (fun x3 J4 H5 =>
 ift (decide ((x3 : Int) ≥ 0))
 (ldL H5 v0 fun x7 =>
 ixa x7 x3 fun p9 =>
 ldT H5 Qd.c (p9.1, p9.2 + (x3 : Int).toNat * 4) fun x14 =>
 Y [.int .i64 x3, .agg (Qd.c x14).toArray] (fun r16 H17 =>
 ift (!r16)
 (K H17)
 (J4 (w .i64 (x3 - 1)) H17)) H5)
 (K H5))
theorem Qau (C : Ctx) {yl : Nat} {Y : List Value → (Bool → Heap → Prop) → Heap → Prop} (hy : Rf.YldS Tryz.prog C yl Y) (v0 : Nat × Nat) (K : Heap → Prop) (H : Heap) (h : QI C Y v0 K H) : QaF C (.func (.yield yl) (List.toArray []) (List.toArray []) : Value) v0 K H := by
 refine Rf.Spec.enterI Tryz.func70 rfl Tryz.ntmps70 rfl ?_
 refine Rf.GI.sub [(0, .func (.yield yl) (List.toArray []) (List.toArray [])), (1, pv (some v0))] ⟨rfl, rfl, trivial⟩ ?_
 refine Rf.GI.seq ?_
 refine Rf.GI.region (fun _ _ h => h) rfl ?_
 refine Yl h fun x1 h => ?_
 refine Zq (Zi (.int .i64 (w .i64 ((Sl.len x1 : Int) - 1))) (Za ?_))
 refine Rf.GI.nil ?_
 refine Rf.GI.block ?_
 refine Rf.GI.loop (α := Int) h (fun x3 => [(3, .int .i64 x3), (0, .func (.yield yl) (List.toArray []) (List.toArray [])), (1, pv (some v0))]) ⟨rfl, rfl, rfl, trivial⟩ ?_
 intro x3 H5 J4 h
 refine Rf.GI.seq ?_
 refine Rf.GI.seq ?_
 refine Rf.GI.region (fun _ _ h => h) rfl ?_
 refine Zm (Zi (.bool (decide ((x3 : Int) ≥ 0))) ?_)
 refine Rf.GI.nil ?_
 refine Rf.GI.cond (b := decide ((x3 : Int) ≥ 0)) rfl (fun u6 => ?_) (fun u6 => ?_)
 replace h := h.1 u6
 refine Rf.GI.skip ?_
 refine Rf.GI.seq ?_
 refine Rf.GI.block ?_
 refine Rf.GI.seq ?_
 refine Rf.GI.regionL ?_
 refine Rf.GLI.pre 6 (fun _ _ h => h) rfl ?_
 refine Zm (Zm (Yl h fun x7 h => ?_))
 refine Zm (Yx h fun p9 h => ?_)
 obtain ⟨x14, hr15, h⟩ := h
 refine Zv (OV.loadT rfl rfl rfl hr15) ?_
 refine Rf.GI.nilL ?_
 refine Rf.GLI.yield (us := [.int .i64 x3, .agg (Qd.c x14).toArray]) hy h trivial rfl rfl rfl ?_
 intro r16 H17 h
 refine Rf.GLI.ofGL (fun _ _ h => h) rfl ?_
 refine Zv (OV.not rfl) ?_
 refine Rf.GI.nil ?_
 refine Rf.GI.cond (b := !r16) rfl (fun u18 => ?_) (fun u18 => ?_)
 replace h := h.1 u18
 exact Rf.GI.ret (fun _ _ hf hs => Qy rfl hf hs ⟨rfl, h⟩)
 replace h := h.2 u18
 refine Rf.GI.skip_to (fun _ _ h => h) ?_
 refine Rf.GI.region (fun _ _ h => h) rfl ?_
 refine Zm (Zi (.int .i64 (w .i64 (x3 - 1))) (Za ?_))
 exact Yj I3 (w .i64 (x3 - 1)) h
 replace h := h.2 u6
 exact Rf.GI.exit_ends (fun _ _ hf hs => Qy rfl hf hs ⟨rfl, h⟩)
def Qgc (C : Ctx) (p_l : Sl) (p_r : Qb) (K : Int → Bool → Heap → Prop) (H : Heap) : Prop :=
 nw (Qb.c p_r) (fun b1 H2 =>
 lp (α := Int) 0 H2 (fun x3 J4 H5 =>
 jn (α := Bool) (fun x7 H8 =>
 ift x7
 (J4 (w .i64 (x3 + 1)) H8)
 (dr H8 fun Hs26 =>
 ift (decide ((x3 : Int) < (Sl.len p_l : Int)))
 (ixa p_l x3 fun p29 =>
 ldT Hs26 Qb.c (p29.1, p29.2 + (x3 : Int).toNat * 2) fun x34 =>
 ldT Hs26 Qb.c (b1, 0) fun x36 =>
 Qcx C x34 x36 (fun r39 H40 =>
 Heap.le Hs26 H40 ∧
 K x3 ((r39 : Int) == 0) H40) H8)
 (K x3 false H8)))
 (fun J6 => dr H5 fun Hs10 =>
 ift (decide ((x3 : Int) < (Sl.len p_l : Int)))
 (ixa p_l x3 fun p13 =>
 ldT Hs10 Qb.c (p13.1, p13.2 + (x3 : Int).toNat * 2) fun x18 =>
 ldT Hs10 Qb.c (b1, 0) fun x20 =>
 Qcx C x18 x20 (fun r23 H24 =>
 Heap.le Hs10 H24 ∧
 J6 (decide ((r23 : Int) < 0)) H24) H5)
 (J6 false H5)))) H
theorem QiV (C p_l p_r K H) (h : Qgc C p_l p_r K H) : QbY C p_l p_r K H := by
 refine Ye Tryz.func71 rfl Tryz.ntmps71 [(0, slv p_l), (1, .agg (Qb.c p_r).toArray)] (Zo (GL.box (v := .agg (Qb.c p_r).toArray) (cs := Qb.c p_r) h trivial rfl rfl rfl ?_))
 intro b1 H2 h
 refine Za (Za (GL.nil (Zo (Za (GL.nil (GC.seq (GC.block (Yp h (fun x3 => [(6, .int .i64 x3), (0, slv p_l), (3, pv (some (b1, 0)))]) ?_))))))))
 intro x3 H5 J4 h
 refine GC.seq (GC.seq ?_)
 obtain ⟨J6, h, hR9⟩ := h
 refine GC.meet (α := Bool) J6 (fun x7 => [(19, .bool x7), (0, slv p_l), (3, pv (some (b1, 0))), (6, .int .i64 x3)]) ?_ ?_
 obtain ⟨Hs10, hle11, h⟩ := h
 refine GC.any (Hs := Hs10) (by kernel_rfl) hle11 (Zp 0 rfl Ym (Zp 1 rfl Ym (Zp 2 rfl (OV.lenSl rfl rfl) (Zp 3 rfl (OV.ibin (v := .bool (decide ((x3 : Int) < (Sl.len p_l : Int)))) rfl rfl rfl) (Zp 4 rfl Ym ?_)))))
 rcases h.em with ⟨u12, h⟩ | ⟨u12, h⟩
 refine Zg 5 rfl (Yt u12) Ym (Zg 6 rfl (Yt u12) Ym ?_)
 obtain ⟨p13, ha14, hb15, u16, hd17, h⟩ := h
 refine Zg 7 rfl (Yt u12) (OV.indexAddr rfl rfl rfl rfl ha14 hb15 u16 hd17) ?_
 obtain ⟨x18, v19, h⟩ := h
 refine Zg 8 rfl (Yt u12) (OV.loadT rfl rfl rfl v19) ?_
 obtain ⟨x20, v21, h⟩ := h
 refine Zg 9 rfl (Yt u12) (OV.loadT rfl rfl rfl v21) (GA.eff 10 rfl (by kernel_rfl) (GL.call h (Yt u12) rfl Qeq (vs := [.agg (Qb.c x18).toArray, .agg (Qb.c x20).toArray]) rfl ?_))
 rintro _ H24 ⟨r23, rfl, h⟩
 obtain ⟨hle22, h⟩ := h
 refine GA.back hle22 (Zg 11 rfl (Yt u12) (OV.ibin (v := .bool (decide ((r23 : Int) < 0))) rfl rfl rfl) (Zp 12 rfl (OV.pickT rfl u12 rfl) (GA.done (by kernel_rfl) ?_)))
 exact Yj I3 (decide ((r23 : Int) < 0)) h
 refine Zj 5 rfl (Yw u12) (Zj 6 rfl (Yw u12) (Zj 7 rfl (Yw u12) (Zj 8 rfl (Yw u12) (Zj 9 rfl (Yw u12) (Zj 10 rfl (Yw u12) (Zj 11 rfl (Yw u12) (Zp 12 rfl (OV.pickF rfl u12 rfl) (GA.done (by kernel_rfl) ?_))))))))
 exact Yj I3 false h
 intro x7 H8 h
 replace h := hR9 x7 H8 h
 refine GL.nil (Yd h (fun u25 h => ?_) fun u25 h => ?_)
 refine GC.skip (GC.block (GC.region (Zm (Zi (.int .i64 (w .i64 (x3 + 1))) (Za ?_)))))
 exact Yj I3 (w .i64 (x3 + 1)) h
 refine GC.exit_to (fun _ _ h => h) (GC.seq ?_)
 obtain ⟨Hs26, hle27, h⟩ := h
 refine GC.any (Hs := Hs26) (by kernel_rfl) hle27 (Zp 0 rfl Ym (Zp 1 rfl Ym (Zp 2 rfl Ym (Zp 3 rfl (OV.lenSl rfl rfl) (Zp 4 rfl (OV.ibin (v := .bool (decide ((x3 : Int) < (Sl.len p_l : Int)))) rfl rfl rfl) (Zp 5 rfl Ym ?_))))))
 rcases h.em with ⟨u28, h⟩ | ⟨u28, h⟩
 refine Zg 6 rfl (Yt u28) Ym (Zg 7 rfl (Yt u28) Ym ?_)
 obtain ⟨p29, ha30, hb31, u32, hd33, h⟩ := h
 refine Zg 8 rfl (Yt u28) (OV.indexAddr rfl rfl rfl rfl ha30 hb31 u32 hd33) ?_
 obtain ⟨x34, v35, h⟩ := h
 refine Zg 9 rfl (Yt u28) (OV.loadT rfl rfl rfl v35) ?_
 obtain ⟨x36, v37, h⟩ := h
 refine Zg 10 rfl (Yt u28) (OV.loadT rfl rfl rfl v37) (GA.eff 11 rfl (by kernel_rfl) (GL.call h (Yt u28) rfl Qeq (vs := [.agg (Qb.c x34).toArray, .agg (Qb.c x36).toArray]) rfl ?_))
 rintro _ H40 ⟨r39, rfl, h⟩
 obtain ⟨hle38, h⟩ := h
 refine GA.back hle38 (Zg 12 rfl (Yt u28) (OV.ibin (v := .bool ((r39 : Int) == 0)) rfl rfl rfl) (Zp 13 rfl (OV.pickT rfl u28 rfl) (Zp 14 rfl Ya (Zp 15 rfl Ya (GA.done (by kernel_rfl) (GL.nil ?_))))))
 exact Y2 I3 ⟨x3, ((r39 : Int) == 0), rfl, h⟩
 refine Zj 6 rfl (Yw u28) (Zj 7 rfl (Yw u28) (Zj 8 rfl (Yw u28) (Zj 9 rfl (Yw u28) (Zj 10 rfl (Yw u28) (Zj 11 rfl (Yw u28) (Zj 12 rfl (Yw u28) (Zp 13 rfl (OV.pickF rfl u28 rfl) (Zp 14 rfl Ya (Zp 15 rfl Ya (GA.done (by kernel_rfl) (GL.nil ?_)))))))))))
 exact Y2 I3 ⟨x3, false, rfl, h⟩
def QeB (C : Ctx) (p_a : Sl) (p_b : Sl) (K : Sl → Heap → Prop) (H : Heap) : Prop :=
 lp (α := Sl × Int × Int) (Sl.nil, 0, 0) H (fun x1 J2 H3 =>
 ift ((decide ((x1.2.1 : Int) < (Sl.len p_a : Int))) || (decide ((x1.2.2 : Int) < (Sl.len p_b : Int))))
 (jn (α := Int) (fun x7 H8 =>
 ift (decide ((x7 : Int) < 0))
 (ixa p_a x1.2.1 fun p32 =>
 ldT H8 Qb.c (p32.1, p32.2 + (x1.2.1 : Int).toNat * 2) fun x37 =>
 apd (Qc.c Qc.zero) 48 x1.1 ((Qc.c (⟨x37, (-1)⟩ : Qc)) ++ []) 1 (fun r39 H40 =>
 J2 (r39, (w .i64 (x1.2.1 + 1)), x1.2.2) H40) H8)
 (ift (decide ((x7 : Int) > 0))
 (ixa p_b x1.2.2 fun p42 =>
 ldT H8 Qb.c (p42.1, p42.2 + (x1.2.2 : Int).toNat * 2) fun x47 =>
 apd (Qc.c Qc.zero) 48 x1.1 ((Qc.c (⟨x47, 1⟩ : Qc)) ++ []) 1 (fun r49 H50 =>
 J2 (r49, x1.2.1, (w .i64 (x1.2.2 + 1))) H50) H8)
 (J2 (x1.1, (w .i64 (x1.2.1 + 1)), (w .i64 (x1.2.2 + 1))) H8)))
 (fun J6 => ift ((x1.2.1 : Int) == (Sl.len p_a : Int))
 (J6 1 H3)
 (ift ((x1.2.2 : Int) == (Sl.len p_b : Int))
 (J6 (-1) H3)
 (dr H3 fun Hs12 =>
 ixa p_a x1.2.1 fun p14 =>
 ldT Hs12 Qb.c (p14.1, p14.2 + (x1.2.1 : Int).toNat * 2) fun x19 =>
 ixa p_b x1.2.2 fun p21 =>
 ldT Hs12 Qb.c (p21.1, p21.2 + (x1.2.2 : Int).toNat * 2) fun x26 =>
 Qcx C x19 x26 (fun r29 H30 =>
 Heap.le Hs12 H30 ∧
 J6 r29 H30) H3))))
 (K x1.1 H3))
theorem Qhj (C p_a p_b K H) (h : QeB C p_a p_b K H) : Qc7 C p_a p_b K H := by
 refine Ye Tryz.func72 rfl Tryz.ntmps72 [(0, slv p_a), (1, slv p_b)] (Zo (Za (GL.nil (Zo (Za (GL.nil (Zo (Za (Za (GL.nil (GC.seq (GC.block (Yp h (fun x1 => [(5, slv x1.1), (6, .int .i64 x1.2.1), (7, .int .i64 x1.2.2), (0, slv p_a), (1, slv p_b)]) ?_)))))))))))))
 intro x1 H3 J2 h
 refine GC.seq (Zo (Zm (Zm (Zq (Zi (.bool (decide ((x1.2.1 : Int) < (Sl.len p_a : Int)))) (Zm (GL.cut0 5 [(18, .bool ((decide ((x1.2.1 : Int) < (Sl.len p_a : Int))) || (decide ((x1.2.2 : Int) < (Sl.len p_b : Int))))), (0, slv p_a), (1, slv p_b), (5, slv x1.1), (6, .int .i64 x1.2.1), (7, .int .i64 x1.2.2)] ?_ ?_)))))))
 rcases Zb (decide ((x1.2.1 : Int) < (Sl.len p_a : Int))) with u4 | u4
 refine Zk u4 (Zk u4 (Zk u4 (Zk u4 (Zt u4 ?_))))
 exact GL.jump0 (fun _ _ h => h) () rfl ⟨(by rw [u4]; rfl), rfl, rfl, rfl, rfl, rfl, trivial⟩
 refine Zu u4 Ym (Zu u4 Ym (Zu u4 (OV.lenSl rfl rfl) (Zu u4 (OV.ibin (v := .bool (decide ((x1.2.2 : Int) < (Sl.len p_b : Int)))) rfl rfl rfl) (Zn u4 ?_))))
 exact GL.jump0 (fun _ _ h => h) () rfl ⟨(by rw [u4]; rfl), rfl, rfl, rfl, rfl, rfl, trivial⟩
 refine GL.nil (Yd h (fun u5 h => ?_) fun u5 h => ?_)
 refine GC.skip (GC.block (Zo (Za (GL.nil ?_))))
 obtain ⟨J6, h, hR9⟩ := h
 refine GC.join (α := Int) J6 (fun x7 => [(8, .int .i64 x7), (0, slv p_a), (1, slv p_b), (5, slv x1.1), (6, .int .i64 x1.2.1), (7, .int .i64 x1.2.2)]) ?_ ?_
 refine Zo (Zm (Zm (Zq (Zi (.bool ((x1.2.1 : Int) == (Sl.len p_a : Int))) (GL.nil (Yd h (fun u10 h => ?_) fun u10 h => ?_))))))
 refine GC.region (Za ?_)
 exact Yj I3 1 h
 refine Zo (Zm (Zm (Zq (Zi (.bool ((x1.2.2 : Int) == (Sl.len p_b : Int))) (GL.nil (Yd h (fun u11 h => ?_) fun u11 h => ?_))))))
 refine GC.region (Za ?_)
 exact Yj I3 (-1) h
 obtain ⟨Hs12, hle13, h⟩ := h
 refine GC.any (Hs := Hs12) (by kernel_rfl) hle13 (Zp 0 rfl Ym (Zp 1 rfl Ym ?_))
 obtain ⟨p14, ha15, hb16, u17, hd18, h⟩ := h
 refine Zp 2 rfl (OV.indexAddr rfl rfl rfl rfl ha15 hb16 u17 hd18) ?_
 obtain ⟨x19, v20, h⟩ := h
 refine Zp 3 rfl (OV.loadT rfl rfl rfl v20) (Zp 4 rfl Ym (Zp 5 rfl Ym ?_))
 obtain ⟨p21, ha22, hb23, u24, hd25, h⟩ := h
 refine Zp 6 rfl (OV.indexAddr rfl rfl rfl rfl ha22 hb23 u24 hd25) ?_
 obtain ⟨x26, v27, h⟩ := h
 refine Zp 7 rfl (OV.loadT rfl rfl rfl v27) (GA.eff 8 rfl (by kernel_rfl) (Zc h Qeq ?_))
 rintro _ H30 ⟨r29, rfl, h⟩
 obtain ⟨hle28, h⟩ := h
 refine GA.back hle28 (Zp 9 rfl Ya (GA.done (by kernel_rfl) ?_))
 exact Yj I3 r29 h
 intro x7 H8 h
 replace h := hR9 x7 H8 h
 refine GC.block (Zo (Zm (Zi (.bool (decide ((x7 : Int) < 0))) (Za (GL.nil (Yd h (fun u31 h => ?_) fun u31 h => ?_))))))
 refine Zo (Zm (Zm (Zm (Yx h fun p32 h => ?_))))
 obtain ⟨x37, v38, h⟩ := h
 refine Zv (OV.loadT rfl rfl rfl v38) (Zv (OV.build (vs := [(0, .agg (Qb.c x37).toArray), (1, .int .i64 (-1))]) (v := .agg (Qc.c (⟨x37, (-1)⟩ : Qc)).toArray) rfl (fun _ => by kernel_rfl)) (GL.appendLit (s := x1.1) (ys := (Qc.c (⟨x37, (-1)⟩ : Qc)) ++ []) (zc := Qc.c Qc.zero) (bytes := 48) h trivial rfl (fun _ => trivial) rfl (fun _ => rfl) (fun _ => rfl) (vs := [(0, .agg (Qc.c (⟨x37, (-1)⟩ : Qc)).toArray)]) rfl ⟨43, fun _ => by kernel_rfl⟩ ⟨⟨_, _, _, rfl, rfl, rfl, rfl, rfl, rfl⟩⟩ rfl rfl ?_))
 intro _ r39 H40 h
 refine Za (GL.nil (GC.region (Zm (Zi (.int .i64 (w .i64 (x1.2.1 + 1))) (Za ?_)))))
 exact Yj I3 (r39, (w .i64 (x1.2.1 + 1)), x1.2.2) h
 refine Zo (Zm (Zi (.bool (decide ((x7 : Int) > 0))) (Za (GL.nil (Yd h (fun u41 h => ?_) fun u41 h => ?_)))))
 refine Zo (Zm (Zm (Zm (Yx h fun p42 h => ?_))))
 obtain ⟨x47, v48, h⟩ := h
 refine Zv (OV.loadT rfl rfl rfl v48) (Zv (OV.build (vs := [(0, .agg (Qb.c x47).toArray), (1, .int .i64 1)]) (v := .agg (Qc.c (⟨x47, 1⟩ : Qc)).toArray) rfl (fun _ => by kernel_rfl)) (GL.appendLit (s := x1.1) (ys := (Qc.c (⟨x47, 1⟩ : Qc)) ++ []) (zc := Qc.c Qc.zero) (bytes := 48) h trivial rfl (fun _ => trivial) rfl (fun _ => rfl) (fun _ => rfl) (vs := [(0, .agg (Qc.c (⟨x47, 1⟩ : Qc)).toArray)]) rfl ⟨43, fun _ => by kernel_rfl⟩ ⟨⟨_, _, _, rfl, rfl, rfl, rfl, rfl, rfl⟩⟩ rfl rfl ?_))
 intro _ r49 H50 h
 refine Za (GL.nil (GC.region (Zm (Zi (.int .i64 (w .i64 (x1.2.2 + 1))) (Za ?_)))))
 exact Yj I3 (r49, x1.2.1, (w .i64 (x1.2.2 + 1))) h
 refine Zo (Zm (Zi (.int .i64 (w .i64 (x1.2.1 + 1))) (Za (GL.nil (GC.region (Zm (Zi (.int .i64 (w .i64 (x1.2.2 + 1))) (Za ?_))))))))
 exact Yj I3 (x1.1, (w .i64 (x1.2.1 + 1)), (w .i64 (x1.2.2 + 1))) h
 refine GC.exit_to (fun _ _ h => h) (Zo (Zm (Za (GL.nil ?_))))
 exact Y1 I3 ⟨x1.1, rfl, h⟩
def Qfc (C : Ctx) (p_v : Qa) (K : Int → Heap → Prop) (H : Heap) : Prop :=
 nw (Qa.c p_v) (fun b1 H2 =>
 ldT H2 Qa.c (b1, 0) fun x3 =>
 QY C x3 (fun r5 H6 =>
 ift (decide ((r5 : Int) > 64))
 (K 65 H6)
 (ldT H6 Qa.c (b1, 0) fun x8 =>
 Q9 C x8 (fun r10 H11 =>
 ift (!r10)
 (K 4 H11)
 (ldT H11 Qa.c (b1, 0) fun x13 =>
 Q8 C x13 (fun r15 H16 =>
 ift (!r15)
 (K 40 H16)
 (K 0 H16)) H11)) H6)) H2) H
theorem Qic (C p_v K H) (h : Qfc C p_v K H) : Qao C p_v K H := by
 refine Ye Tryz.func75 rfl Tryz.ntmps75 [(0, .agg (Qa.c p_v).toArray)] (Zo (GL.box (v := .agg (Qa.c p_v).toArray) (cs := Qa.c p_v) h trivial rfl rfl rfl ?_))
 intro b1 H2 h
 refine Za (GL.nil (GC.seq (Zo ?_)))
 obtain ⟨x3, v4, h⟩ := h
 refine Zv (OV.loadT rfl rfl rfl v4) (Zc h Qe5 ?_)
 rintro _ H6 ⟨r5, rfl, h⟩
 refine Zi (.bool (decide ((r5 : Int) > 64))) (GL.nil (Yd h (fun u7 h => ?_) fun u7 h => ?_))
 refine Zo (Za (GL.nil ?_))
 exact Y1 I3 ⟨65, rfl, h⟩
 refine GC.skip (GC.seq (Zo ?_))
 obtain ⟨x8, v9, h⟩ := h
 refine Zv (OV.loadT rfl rfl rfl v9) (Zc h QfW ?_)
 rintro _ H11 ⟨r10, rfl, h⟩
 refine Zv (OV.not rfl) (GL.nil (Yd h (fun u12 h => ?_) fun u12 h => ?_))
 refine Zo (Za (GL.nil ?_))
 exact Y1 I3 ⟨4, rfl, h⟩
 refine GC.skip (GC.seq (Zo ?_))
 obtain ⟨x13, v14, h⟩ := h
 refine Zv (OV.loadT rfl rfl rfl v14) (Zc h QfV ?_)
 rintro _ H16 ⟨r15, rfl, h⟩
 refine Zv (OV.not rfl) (GL.nil (Yd h (fun u17 h => ?_) fun u17 h => ?_))
 refine Zo (Za (GL.nil ?_))
 exact Y1 I3 ⟨40, rfl, h⟩
 refine GC.skip (Zo (Za (GL.nil ?_)))
 exact Y1 I3 ⟨0, rfl, h⟩
def QgO (C : Ctx) (p_a : Qa) (p_b : Qa) (K : Int → Heap → Prop) (H : Heap) : Prop :=
 nw (Qa.c p_a) (fun b1 H2 =>
 nw (Qa.c p_b) (fun b3 H4 =>
 ldI H4 .u8 ((b1, 0).1, (b1, 0).2 + 0) fun x5 =>
 ldI H4 .u8 ((b3, 0).1, (b3, 0).2 + 0) fun x7 =>
 ift ((x5 : Int) != x7)
 (ldI H4 .u8 ((b1, 0).1, (b1, 0).2 + 0) fun x10 =>
 ldI H4 .u8 ((b3, 0).1, (b3, 0).2 + 0) fun x12 =>
 Qal C (w .i64 x10) (w .i64 x12) (fun r14 H15 =>
 K r14 H15) H4)
 (ldI H4 .u8 ((b1, 0).1, (b1, 0).2 + 0) fun x16 =>
 ift ((x16 : Int) == 3)
 (ldS H4 ((b1, 0).1, (b1, 0).2 + 2) fun x19 =>
 ldS H4 ((b3, 0).1, (b3, 0).2 + 2) fun x21 =>
 QbW C x19 x21 (fun r23 H24 =>
 K r23 H24) H4)
 (ift ((x16 : Int) == 4)
 (ldS H4 ((b1, 0).1, (b1, 0).2 + 2) fun x26 =>
 ldS H4 ((b3, 0).1, (b3, 0).2 + 2) fun x28 =>
 QbE C x26 x28 (fun r30 H31 =>
 K r30 H31) H4)
 (ift ((x16 : Int) == 5)
 (ldL H4 ((b1, 0).1, (b1, 0).2 + 3) fun x33 =>
 ldL H4 ((b3, 0).1, (b3, 0).2 + 3) fun x35 =>
 Qbv C x33 x35 (fun r37 H38 =>
 K r37 H38) H4)
 (ift ((x16 : Int) == 6)
 (ldS H4 ((b1, 0).1, (b1, 0).2 + 2) fun x40 =>
 ldS H4 ((b3, 0).1, (b3, 0).2 + 2) fun x42 =>
 QbE C x40 x42 (fun r44 H45 =>
 ift ((r44 : Int) != 0)
 (K r44 H45)
 (ldL H45 ((b1, 0).1, (b1, 0).2 + 3) fun x47 =>
 ldL H45 ((b3, 0).1, (b3, 0).2 + 3) fun x49 =>
 Qbv C x47 x49 (fun r51 H52 =>
 K r51 H52) H45)) H4)
 (ldI H4 .i64 ((b1, 0).1, (b1, 0).2 + 1) fun x53 =>
 ldI H4 .i64 ((b3, 0).1, (b3, 0).2 + 1) fun x55 =>
 Qal C x53 x55 (fun r57 H58 =>
 K r57 H58) H4)))))) H2) H
theorem Qjy (C p_a p_b K H) (h : QgO C p_a p_b K H) : Qap C p_a p_b K H := by
 refine Ye Tryz.func76 rfl Tryz.ntmps76 [(0, .agg (Qa.c p_a).toArray), (1, .agg (Qa.c p_b).toArray)] (Zo (GL.box (v := .agg (Qa.c p_a).toArray) (cs := Qa.c p_a) h trivial rfl rfl rfl ?_))
 intro b1 H2 h
 refine GL.box (v := .agg (Qa.c p_b).toArray) (cs := Qa.c p_b) h trivial rfl rfl rfl ?_
 intro b3 H4 h
 refine Za (GL.nil (GC.seq (Zo (Zf (Yl h fun x5 h => ?_)))))
 refine Zf (Yl h fun x7 h => ?_)
 refine Zi (.bool ((x5 : Int) != x7)) (GL.nil (Yd h (fun u9 h => ?_) fun u9 h => ?_))
 refine Zo (Zf (Yl h fun x10 h => ?_))
 refine Zv (OV.convInt rfl rfl rfl) (Zf (Yl h fun x12 h => ?_))
 refine Zv (OV.convInt rfl rfl rfl) (Zc h Qa7 ?_)
 rintro _ H15 ⟨r14, rfl, h⟩
 refine Za (GL.nil ?_)
 exact Y1 I3 ⟨r14, rfl, h⟩
 refine GC.skip (GC.seq (Zo (Zf (Yl h fun x16 h => ?_))))
 refine GL.nil (GC.block (Zo (Zi (.bool ((x16 : Int) == 3)) (Za (GL.nil (Yd h (fun u18 h => ?_) fun u18 h => ?_))))))
 refine Zo (Zf (Yl h fun x19 h => ?_))
 refine Zf (Yl h fun x21 h => ?_)
 refine Zc h QfU ?_
 rintro _ H24 ⟨r23, rfl, h⟩
 refine Za (GL.nil ?_)
 exact Y1 I3 ⟨r23, rfl, h⟩
 refine Zo (Zi (.bool ((x16 : Int) == 4)) (Za (GL.nil (Yd h (fun u25 h => ?_) fun u25 h => ?_))))
 refine Zo (Zf (Yl h fun x26 h => ?_))
 refine Zf (Yl h fun x28 h => ?_)
 refine Zc h Qdc ?_
 rintro _ H31 ⟨r30, rfl, h⟩
 refine Za (GL.nil ?_)
 exact Y1 I3 ⟨r30, rfl, h⟩
 refine Zo (Zi (.bool ((x16 : Int) == 5)) (Za (GL.nil (Yd h (fun u32 h => ?_) fun u32 h => ?_))))
 refine Zo (Zf (Yl h fun x33 h => ?_))
 refine Zf (Yl h fun x35 h => ?_)
 refine Zc h QdR ?_
 rintro _ H38 ⟨r37, rfl, h⟩
 refine Za (GL.nil ?_)
 exact Y1 I3 ⟨r37, rfl, h⟩
 refine Zo (Zi (.bool ((x16 : Int) == 6)) (Za (GL.nil (Yd h (fun u39 h => ?_) fun u39 h => ?_))))
 refine Zo (Zf (Yl h fun x40 h => ?_))
 refine Zf (Yl h fun x42 h => ?_)
 refine Zc h Qdc ?_
 rintro _ H45 ⟨r44, rfl, h⟩
 refine Za (GL.nil (GC.seq (Zo (Zm (Zi (.bool ((r44 : Int) != 0)) (GL.nil (Yd h (fun u46 h => ?_) fun u46 h => ?_)))))))
 refine Zo (Zm (Za (GL.nil ?_)))
 exact Y1 I3 ⟨r44, rfl, h⟩
 refine GC.skip (Zo (Zf (Yl h fun x47 h => ?_)))
 refine Zf (Yl h fun x49 h => ?_)
 refine Zc h QdR ?_
 rintro _ H52 ⟨r51, rfl, h⟩
 refine Za (GL.nil ?_)
 exact Y1 I3 ⟨r51, rfl, h⟩
 refine GC.skip_to (fun _ _ h => h) (Zo (Zf ?_))
 refine Yl h fun x53 h => ?_
 refine Zf (Yl h fun x55 h => ?_)
 refine Zc h Qa7 ?_
 rintro _ H58 ⟨r57, rfl, h⟩
 refine Za (GL.nil ?_)
 exact Y1 I3 ⟨r57, rfl, h⟩
def Qf9 (C : Ctx) (p_a : Int) (p_b : Int) (K : Int → Heap → Prop) (H : Heap) : Prop :=
 ift (decide ((p_a : Int) < p_b))
 (K (-1) H)
 (ift (decide ((p_a : Int) > p_b))
 (K 1 H)
 (K 0 H))
theorem QiS (C p_a p_b K H) (h : Qf9 C p_a p_b K H) : Qal C p_a p_b K H := by
 refine Ye Tryz.func77 rfl Tryz.ntmps77 [(0, .int .i64 p_a), (1, .int .i64 p_b)] (Zo (Za (GL.nil (GC.seq (Zo (Zm (Zm (Zi (.bool (decide ((p_a : Int) < p_b))) (GL.nil (Yd h (fun u1 h => ?_) fun u1 h => ?_))))))))))
 refine Zo (Za (GL.nil ?_))
 exact Y1 I3 ⟨(-1), rfl, h⟩
 refine GC.skip (GC.seq (Zo (Zm (Zm (Zi (.bool (decide ((p_a : Int) > p_b))) (GL.nil (Yd h (fun u2 h => ?_) fun u2 h => ?_)))))))
 refine Zo (Za (GL.nil ?_))
 exact Y1 I3 ⟨1, rfl, h⟩
 refine GC.skip (Zo (Za (GL.nil ?_)))
 exact Y1 I3 ⟨0, rfl, h⟩
def QJ (C : Ctx) (p_s : Sl) (p_f : Value) (K : Bool → Heap → Prop) (H : Heap) : Prop :=
 Qw C p_s p_f (fun r1 H2 =>
 K (decide ((r1 : Int) ≥ 0)) H2) H
theorem Qav (C p_s p_f K H) (h : QJ C p_s p_f K H) : Qt C p_s p_f K H := by
 refine Ye Tryz.func88 rfl Tryz.ntmps88 [(0, slv p_s), (1, p_f)] (Zo (Za (GL.nil (Zo (Zm (Zm (Zc h QaW ?_)))))))
 rintro _ H2 ⟨r1, rfl, h⟩
 refine Zi (.bool (decide ((r1 : Int) ≥ 0))) (Za (GL.nil ?_))
 exact Y1 I3 ⟨(decide ((r1 : Int) ≥ 0)), rfl, h⟩
def Qfk (C : Ctx) (p_v : Qa) (K : Bool → Heap → Prop) (H : Heap) : Prop :=
 nw (Qa.c p_v) (fun b1 H2 =>
 ldT H2 Qa.c (b1, 0) fun x3 =>
 QZ C x3 (fun r5 H6 =>
 K ((r5 : Int) != 0) H6) H2) H
theorem Qik (C p_v K H) (h : Qfk C p_v K H) : Qas C p_v K H := by
 refine Ye Tryz.func89 rfl Tryz.ntmps89 [(0, .agg (Qa.c p_v).toArray)] (Zo (GL.box (v := .agg (Qa.c p_v).toArray) (cs := Qa.c p_v) h trivial rfl rfl rfl ?_))
 intro b1 H2 h
 refine Za (GL.nil (Zo ?_))
 obtain ⟨x3, v4, h⟩ := h
 refine Zv (OV.loadT rfl rfl rfl v4) (Zc h Qdf ?_)
 rintro _ H6 ⟨r5, rfl, h⟩
 refine Zi (.bool ((r5 : Int) != 0)) (Za (GL.nil ?_))
 exact Y1 I3 ⟨((r5 : Int) != 0), rfl, h⟩
def Qq (C : Ctx) (p_s1 : Sl) (p_s2 : Sl) (p_cmp : Value) (K : Int → Heap → Prop) (H : Heap) : Prop :=
 lp (α := Int) 0 H (fun x1 J2 H3 =>
 ift (decide ((x1 : Int) < (Sl.len p_s1 : Int)))
 (ixa p_s1 x1 fun p5 =>
 ldT H3 Qa.c (p5.1, p5.2 + (x1 : Int).toNat * 4) fun x10 =>
 nw (Qa.c Qa.zero) (fun b12 H13 =>
 stT (b12, 0) (Qa.c x10) (fun H14 =>
 ift (decide ((x1 : Int) ≥ (Sl.len p_s2 : Int)))
 (K 1 H14)
 (ixa p_s2 x1 fun p16 =>
 ldT H14 Qa.c (p16.1, p16.2 + (x1 : Int).toNat * 4) fun x21 =>
 nw (Qa.c Qa.zero) (fun b23 H24 =>
 stT (b23, 0) (Qa.c x21) (fun H25 =>
 ldT H25 Qa.c (b12, 0) fun x26 =>
 ldT H25 Qa.c (b23, 0) fun x28 =>
 callU Tryz.prog C p_cmp [.agg (Qa.c x26).toArray, .agg (Qa.c x28).toArray] H25 (fun v H31 => ∃ (r30 : Int), v = .int .i64 r30 ∧
 ift ((r30 : Int) != 0)
 (K r30 H31)
 (J2 (w .i64 (x1 + 1)) H31))) H24) H14)) H13) H3)
 (ift (decide (((Sl.len p_s1 : Int) : Int) < (Sl.len p_s2 : Int)))
 (K (-1) H3)
 (K 0 H3)))
theorem QK (C p_s1 p_s2 p_cmp K H) (h : Qq C p_s1 p_s2 p_cmp K H) : Qe C p_s1 p_s2 p_cmp K H := by
 refine Ye Tryz.func90 rfl Tryz.ntmps90 [(0, slv p_s1), (1, slv p_s2), (2, p_cmp)] (Zo (Za (GL.nil (GC.seq (Zo (Zm (Zq (Zm (GL.nil (GC.block (Yp h (fun x1 => [(13, .int .i64 x1), (0, slv p_s1), (1, slv p_s2), (2, p_cmp), (11, slv p_s1), (12, .int .i64 (Sl.len p_s1 : Int))]) ?_)))))))))))
 intro x1 H3 J2 h
 refine Zo (Zi (.bool (decide ((x1 : Int) < (Sl.len p_s1 : Int)))) (GL.nil (GC.seq (Yd h (fun u4 h => ?_) fun u4 h => ?_))))
 refine GC.skip (GC.seq (GC.block (Zo (Zm (Yx h fun p5 h => ?_)))))
 obtain ⟨x10, v11, h⟩ := h
 refine Zv (OV.loadT rfl rfl rfl v11) (GL.alloc (cs := Qa.c Qa.zero) h trivial rfl rfl rfl ?_)
 intro b12 H13 h
 refine Za (GL.storeT (p := (b12, 0)) (vs := Qa.c x10) h trivial rfl rfl rfl rfl ?_)
 intro H14 h
 refine GL.nil (GC.seq (Zo (Zm (Zm (Zq (Zi (.bool (decide ((x1 : Int) ≥ (Sl.len p_s2 : Int)))) (GL.nil (Yd h (fun u15 h => ?_) fun u15 h => ?_))))))))
 refine Zo (Za (GL.nil ?_))
 exact Y1 I3 ⟨1, rfl, h⟩
 refine GC.skip (Zo (Zm (Zm (Yx h fun p16 h => ?_))))
 obtain ⟨x21, v22, h⟩ := h
 refine Zv (OV.loadT rfl rfl rfl v22) (GL.alloc (cs := Qa.c Qa.zero) h trivial rfl rfl rfl ?_)
 intro b23 H24 h
 refine GL.storeT (p := (b23, 0)) (vs := Qa.c x21) h trivial rfl rfl rfl rfl ?_
 intro H25 h
 refine GL.nil (Zo (Zm ?_))
 obtain ⟨x26, v27, h⟩ := h
 refine Zv (OV.loadT rfl rfl rfl v27) ?_
 obtain ⟨x28, v29, h⟩ := h
 refine Zv (OV.loadT rfl rfl rfl v29) (GL.callU (xv := p_cmp) (vs := [.agg (Qa.c x26).toArray, .agg (Qa.c x28).toArray]) h trivial rfl rfl rfl ?_)
 rintro _ H31 ⟨r30, rfl, h⟩
 refine Za (GL.nil (Zo (Zm (Zi (.bool ((r30 : Int) != 0)) (GL.nil (Yd h (fun u32 h => ?_) fun u32 h => ?_))))))
 refine Zo (Zm (Za (GL.nil ?_)))
 exact Y1 I3 ⟨r30, rfl, h⟩
 refine GC.skip_to (fun _ _ h => h) (GC.region (Zi (.int .i64 (w .i64 (x1 + 1))) (Zm ?_)))
 exact Yj I3 (w .i64 (x1 + 1)) h
 refine GC.exit_to (fun _ _ h => h) (GC.seq (Zo (Zm (Zq (Zm (Zq (Zi (.bool (decide (((Sl.len p_s1 : Int) : Int) < (Sl.len p_s2 : Int)))) (GL.nil ?_))))))))
 refine Yd h (fun u33 h => ?_) fun u33 h => ?_
 refine Zo (Za (GL.nil ?_))
 exact Y1 I3 ⟨(-1), rfl, h⟩
 refine GC.skip (Zo (Za (GL.nil ?_)))
 exact Y1 I3 ⟨0, rfl, h⟩
def QeK (C : Ctx) (p_x : Qa) (p_y : Qa) (K : Int → Heap → Prop) (H : Heap) : Prop :=
 nw (Qa.c p_x) (fun b1 H2 =>
 nw (Qa.c p_y) (fun b3 H4 =>
 ldT H4 Qa.c (b1, 0) fun x5 =>
 ldT H4 Qa.c (b3, 0) fun x7 =>
 QC C x5 x7 (fun r9 H10 =>
 K r9 H10) H4) H2) H
theorem Qhs (C p_x p_y K H) (h : QeK C p_x p_y K H) : QaE C p_x p_y K H := by
 refine Ye Tryz.func91 rfl Tryz.ntmps91 [(0, .agg (Qa.c p_x).toArray), (1, .agg (Qa.c p_y).toArray)] (Zo (GL.box (v := .agg (Qa.c p_x).toArray) (cs := Qa.c p_x) h trivial rfl rfl rfl ?_))
 intro b1 H2 h
 refine GL.box (v := .agg (Qa.c p_y).toArray) (cs := Qa.c p_y) h trivial rfl rfl rfl ?_
 intro b3 H4 h
 refine Za (GL.nil (Zo ?_))
 obtain ⟨x5, v6, h⟩ := h
 refine Zv (OV.loadT rfl rfl rfl v6) ?_
 obtain ⟨x7, v8, h⟩ := h
 refine Zv (OV.loadT rfl rfl rfl v8) (Zc h QgA ?_)
 rintro _ H10 ⟨r9, rfl, h⟩
 refine Za (GL.nil ?_)
 exact Y1 I3 ⟨r9, rfl, h⟩
def Qdz (C : Ctx) (p_v : Qa) (p_w : Qa) (K : Int → Heap → Prop) (H : Heap) : Prop :=
 nw (Qa.c p_v) (fun b1 H2 =>
 nw (Qa.c p_w) (fun b3 H4 =>
 ldI H4 .u8 ((b1, 0).1, (b1, 0).2 + 0) fun x5 =>
 ldI H4 .u8 ((b3, 0).1, (b3, 0).2 + 0) fun x7 =>
 Qbo C x5 x7 (fun r9 H10 =>
 ift ((r9 : Int) != 0)
 (K r9 H10)
 (ldI H10 .u8 ((b1, 0).1, (b1, 0).2 + 0) fun x12 =>
 ift ((x12 : Int) == 3)
 (ldS H10 ((b1, 0).1, (b1, 0).2 + 2) fun x15 =>
 ldS H10 ((b3, 0).1, (b3, 0).2 + 2) fun x17 =>
 Qaa C x15 x17 (fun r19 H20 =>
 K r19 H20) H10)
 (ift ((x12 : Int) == 4)
 (ldS H10 ((b1, 0).1, (b1, 0).2 + 2) fun x22 =>
 ldS H10 ((b3, 0).1, (b3, 0).2 + 2) fun x24 =>
 QA C x22 x24 (fun r26 H27 =>
 K r26 H27) H10)
 (dr H10 fun Hs28 =>
 ldI Hs28 .i64 ((b1, 0).1, (b1, 0).2 + 1) fun x30 =>
 ldI Hs28 .i64 ((b3, 0).1, (b3, 0).2 + 1) fun x32 =>
 ldS Hs28 ((b1, 0).1, (b1, 0).2 + 2) fun x34 =>
 ldS Hs28 ((b3, 0).1, (b3, 0).2 + 2) fun x36 =>
 ldL Hs28 ((b1, 0).1, (b1, 0).2 + 3) fun x38 =>
 ldL Hs28 ((b3, 0).1, (b3, 0).2 + 3) fun x40 =>
 Qbn C x30 x32 (fun r43 H44 =>
 Heap.le Hs28 H44 ∧
 QA C x34 x36 (fun r46 H47 =>
 Heap.le Hs28 H47 ∧
 QbZ C x38 x40 (fun r49 H50 =>
 Heap.le Hs28 H50 ∧
 nw ([.int .i64 r43, .int .i64 r46, .int .i64 r49]) (fun b52 H53 =>
 Heap.le Hs28 H53 ∧
 Qbu C (Sl.of (some (b52, 0)) 3 3) (fun r55 H56 =>
 Heap.le Hs28 H56 ∧
 K r55 H56) H53) H50) H47) H44) H10)))) H4) H2) H
theorem Qgs (C p_v p_w K H) (h : Qdz C p_v p_w K H) : QC C p_v p_w K H := by
 refine Ye Tryz.func92 rfl Tryz.ntmps92 [(0, .agg (Qa.c p_v).toArray), (1, .agg (Qa.c p_w).toArray)] (Zo (GL.box (v := .agg (Qa.c p_v).toArray) (cs := Qa.c p_v) h trivial rfl rfl rfl ?_))
 intro b1 H2 h
 refine GL.box (v := .agg (Qa.c p_w).toArray) (cs := Qa.c p_w) h trivial rfl rfl rfl ?_
 intro b3 H4 h
 refine Za (GL.nil (GC.seq (Zo (Zf (Yl h fun x5 h => ?_)))))
 refine Zf (Yl h fun x7 h => ?_)
 refine Zc h QeZ ?_
 rintro _ H10 ⟨r9, rfl, h⟩
 refine Za (GL.nil (Zo (Zm (Zi (.bool ((r9 : Int) != 0)) (GL.nil (Yd h (fun u11 h => ?_) fun u11 h => ?_))))))
 refine Zo (Zm (Za (GL.nil ?_)))
 exact Y1 I3 ⟨r9, rfl, h⟩
 refine GC.skip (GC.seq (Zo (Zf (Yl h fun x12 h => ?_))))
 refine GL.nil (GC.block (Zo (Zi (.bool ((x12 : Int) == 3)) (Za (GL.nil (Yd h (fun u14 h => ?_) fun u14 h => ?_))))))
 refine Zo (Zf (Yl h fun x15 h => ?_))
 refine Zf (Yl h fun x17 h => ?_)
 refine Zc h Qf0 ?_
 rintro _ H20 ⟨r19, rfl, h⟩
 refine Za (GL.nil ?_)
 exact Y1 I3 ⟨r19, rfl, h⟩
 refine Zo (Zi (.bool ((x12 : Int) == 4)) (Za (GL.nil (Yd h (fun u21 h => ?_) fun u21 h => ?_))))
 refine Zo (Zf (Yl h fun x22 h => ?_))
 refine Zf (Yl h fun x24 h => ?_)
 refine Zc h Qab ?_
 rintro _ H27 ⟨r26, rfl, h⟩
 refine Za (GL.nil ?_)
 exact Y1 I3 ⟨r26, rfl, h⟩
 refine GC.skip_to (fun _ _ h => h) (GC.seq ?_)
 obtain ⟨Hs28, hle29, h⟩ := h
 refine GC.any (Hs := Hs28) (by kernel_rfl) hle29 (Zp 0 rfl Yf ?_)
 obtain ⟨x30, v31, h⟩ := h
 refine Zp 1 rfl (Yo v31) (Zp 2 rfl Yf ?_)
 obtain ⟨x32, v33, h⟩ := h
 refine Zp 3 rfl (Yo v33) (Zp 5 rfl Yf ?_)
 obtain ⟨x34, v35, h⟩ := h
 refine Zp 6 rfl (Yo v35) (Zp 7 rfl Yf ?_)
 obtain ⟨x36, v37, h⟩ := h
 refine Zp 8 rfl (Yo v37) (Zp 10 rfl Yf ?_)
 obtain ⟨x38, v39, h⟩ := h
 refine Zp 11 rfl (Yo v39) (Zp 12 rfl Yf ?_)
 obtain ⟨x40, v41, h⟩ := h
 refine Zp 13 rfl (Yo v41) (GA.eff 4 rfl (by kernel_rfl) (Zc h QeY ?_))
 rintro _ H44 ⟨r43, rfl, h⟩
 obtain ⟨hle42, h⟩ := h
 refine GA.back hle42 (GA.eff 9 rfl (by kernel_rfl) (Zc h Qab ?_))
 rintro _ H47 ⟨r46, rfl, h⟩
 obtain ⟨hle45, h⟩ := h
 refine GA.back hle45 (GA.eff 14 rfl (by kernel_rfl) (Zc h Qf2 ?_))
 rintro _ H50 ⟨r49, rfl, h⟩
 obtain ⟨hle48, h⟩ := h
 refine GA.back hle48 (GA.eff 15 rfl (by kernel_rfl) (GL.buildSlice (cs := [.int .i64 r43, .int .i64 r46, .int .i64 r49]) h trivial rfl (vs := [(0, .int .i64 r43), (1, .int .i64 r46), (2, .int .i64 r49)]) rfl ⟨3, fun _ => by kernel_rfl⟩ ?_))
 intro b52 H53 h
 obtain ⟨hle51, h⟩ := h
 refine GA.back hle51 (GA.eff 16 rfl (by kernel_rfl) (Zc h QdP ?_))
 rintro _ H56 ⟨r55, rfl, h⟩
 obtain ⟨hle54, h⟩ := h
 refine GA.back hle54 (Zp 17 rfl Ya (GA.done (by kernel_rfl) (GL.nil ?_)))
 exact Y1 I3 ⟨r55, rfl, h⟩
def Qfj (C : Ctx) (p_v : Qa) (p_most : Int) (K : Int → Heap → Prop) (H : Heap) : Prop :=
 nw (Qa.c p_v) (fun b1 H2 =>
 jn (α := Int) (fun x4 H5 =>
 K (w .i64 (x4 + 1)) H5)
 (fun J3 => ldL H2 ((b1, 0).1, (b1, 0).2 + 3) fun x7 =>
 lp (α := Int × Int) (0, 0) H2 (fun x9 J10 H11 =>
 ift (decide ((x9.2 : Int) < (Sl.len x7 : Int)))
 (ixa x7 x9.2 fun p13 =>
 ldT H11 Qa.c (p13.1, p13.2 + (x9.2 : Int).toNat * 4) fun x18 =>
 nw (Qa.c Qa.zero) (fun b20 H21 =>
 stT (b20, 0) (Qa.c x18) (fun H22 =>
 ift (decide ((x9.1 : Int) ≥ p_most))
 (J3 x9.1 H22)
 (ldT H22 Qa.c (b20, 0) fun x24 =>
 Q0 C x24 (w .i64 (p_most - 1)) (fun r26 H27 =>
 J10 ((if r26 > x9.1 then r26 else x9.1 : Int), (w .i64 (x9.2 + 1))) H27) H22)) H21) H11)
 (J3 x9.1 H11)))) H
theorem Qij (C p_v p_most K H) (h : Qfj C p_v p_most K H) : Q0 C p_v p_most K H := by
 refine Ye Tryz.func93 rfl Tryz.ntmps93 [(0, .agg (Qa.c p_v).toArray), (1, .int .i64 p_most)] (Zo (GL.box (v := .agg (Qa.c p_v).toArray) (cs := Qa.c p_v) h trivial rfl rfl rfl ?_))
 intro b1 H2 h
 refine Za (GL.nil (Zo (Za (GL.nil ?_))))
 obtain ⟨J3, h, hR6⟩ := h
 refine GC.join (α := Int) J3 (fun x4 => [(5, .int .i64 x4)]) ?_ ?_
 refine Zo (Zf (Yl h fun x7 h => ?_))
 refine Zq (Zm (GL.nil (GC.block (Yp h (fun x9 => [(5, .int .i64 x9.1), (11, .int .i64 x9.2), (1, .int .i64 p_most), (9, slv x7), (10, .int .i64 (Sl.len x7 : Int))]) ?_))))
 intro x9 H11 J10 h
 refine Zo (Zi (.bool (decide ((x9.2 : Int) < (Sl.len x7 : Int)))) (GL.nil (GC.seq (Yd h (fun u12 h => ?_) fun u12 h => ?_))))
 refine GC.skip (GC.seq (GC.block (Zo (Yx h fun p13 h => ?_))))
 obtain ⟨x18, v19, h⟩ := h
 refine Zv (OV.loadT rfl rfl rfl v19) (GL.alloc (cs := Qa.c Qa.zero) h trivial rfl rfl rfl ?_)
 intro b20 H21 h
 refine GL.storeT (p := (b20, 0)) (vs := Qa.c x18) h trivial rfl rfl rfl rfl ?_
 intro H22 h
 refine GL.nil (GC.seq (Zo (Zm (Zm (Zi (.bool (decide ((x9.1 : Int) ≥ p_most))) (GL.nil (Yd h (fun u23 h => ?_) fun u23 h => ?_)))))))
 exact GC.exit_jump (fun _ _ h => h) x9.1 h ⟨rfl, trivial⟩
 refine GC.skip (GC.region (Zm ?_))
 obtain ⟨x24, v25, h⟩ := h
 refine Zv (OV.loadT rfl rfl rfl v25) (Zm (Zi (.int .i64 (w .i64 (p_most - 1))) (Zc h Qe7 ?_)))
 rintro _ H27 ⟨r26, rfl, h⟩
 refine Zv (OV.maxI rfl rfl) (Za (GL.nil_to (fun _ _ h => h) (GC.region (Zi (.int .i64 (w .i64 (x9.2 + 1))) (Zm ?_)))))
 exact Yj I3 ((if r26 > x9.1 then r26 else x9.1 : Int), (w .i64 (x9.2 + 1))) h
 exact GC.exit_jump (fun _ _ h => h) x9.1 h ⟨rfl, trivial⟩
 intro x4 H5 h
 replace h := hR6 x4 H5 h
 refine Zo (Zm (Zi (.int .i64 (w .i64 (x4 + 1))) (Za (GL.nil ?_))))
 exact Y1 I3 ⟨(w .i64 (x4 + 1)), rfl, h⟩
def Qc2 (C : Ctx) (p_v : Qa) (K : Bool → Bool → Heap → Prop) (H : Heap) : Prop :=
 nw (Qa.c p_v) (fun b1 H2 =>
 ldI H2 .i64 ((b1, 0).1, (b1, 0).2 + 1) fun x3 =>
 jn (α := Bool) (fun b5 H11 =>
 jn (α := Bool) (fun b12 H18 =>
 jn (α := Bool × Bool) (fun x20 H21 =>
 ldL H21 ((b1, 0).1, (b1, 0).2 + 3) fun x149 =>
 lp (α := Bool × Bool × Int) (x20.1, x20.2, 0) H21 (fun x151 J152 H153 =>
 ift (decide ((x151.2.2 : Int) < (Sl.len x149 : Int)))
 (ixa x149 x151.2.2 fun p155 =>
 ldT H153 Qa.c (p155.1, p155.2 + (x151.2.2 : Int).toNat * 4) fun x160 =>
 nw (Qa.c Qa.zero) (fun b162 H163 =>
 stT (b162, 0) (Qa.c x160) (fun H164 =>
 ldT H164 Qa.c (b162, 0) fun x165 =>
 Qx C x165 (fun r167 r168 H169 =>
 J152 ((x151.1 && r167), (x151.2.1 && r168), (w .i64 (x151.2.2 + 1))) H169) H164) H163) H153)
 (K x151.1 x151.2.1 H153)))
 (fun J19 => ldI H18 .u8 ((b1, 0).1, (b1, 0).2 + 0) fun x23 =>
 ift ((x23 : Int) == 1)
 (ldI H18 .i64 ((b1, 0).1, (b1, 0).2 + 1) fun x26 =>
 jn (α := Bool) (fun b28 H34 =>
 jn (α := Bool) (fun b35 H41 =>
 jn (α := Bool) (fun b42 H48 =>
 J19 (b42, true) H48)
 (fun J43 => ift b35
 (ldL H41 ((b1, 0).1, (b1, 0).2 + 3) fun x46 =>
 J43 (((Sl.len x46 : Int) : Int) == 0) H41)
 (J43 false H41)))
 (fun J36 => ift b28
 (ldS H34 ((b1, 0).1, (b1, 0).2 + 2) fun x39 =>
 J36 (x39 == ([] : Str)) H34)
 (J36 false H34)))
 (fun J29 => ift ((x26 : Int) == 0)
 (J29 true H18)
 (ldI H18 .i64 ((b1, 0).1, (b1, 0).2 + 1) fun x32 =>
 J29 ((x32 : Int) == 1) H18)))
 (ift ((x23 : Int) == 2)
 (ldS H18 ((b1, 0).1, (b1, 0).2 + 2) fun x50 =>
 jn (α := Bool) (fun b52 H58 =>
 J19 (b52, true) H58)
 (fun J53 => ift (x50 == ([] : Str))
 (ldL H18 ((b1, 0).1, (b1, 0).2 + 3) fun x56 =>
 J53 (((Sl.len x56 : Int) : Int) == 0) H18)
 (J53 false H18)))
 (ift ((x23 : Int) == 3)
 (ldS H18 ((b1, 0).1, (b1, 0).2 + 2) fun x60 =>
 Qda C x60 (fun r62 r63 H64 =>
 jn (α := Bool) (fun b65 H71 =>
 jn (α := Bool) (fun b72 H78 =>
 J19 (b72, (decide ((r62 : Int) ≤ 200))) H78)
 (fun J73 => ift b65
 (ldL H71 ((b1, 0).1, (b1, 0).2 + 3) fun x76 =>
 J73 (((Sl.len x76 : Int) : Int) == 0) H71)
 (J73 false H71)))
 (fun J66 => ift r63
 (ldI H64 .i64 ((b1, 0).1, (b1, 0).2 + 1) fun x69 =>
 J66 ((x69 : Int) == 0) H64)
 (J66 false H64))) H18)
 (ift ((x23 : Int) == 4)
 (jn (α := Bool × Bool) (fun x81 H82 =>
 J19 (x81.1, x81.2) H82)
 (fun J80 => dr H18 fun Hs84 =>
 ldI Hs84 .i64 ((b1, 0).1, (b1, 0).2 + 1) fun x86 =>
 ldS Hs84 ((b1, 0).1, (b1, 0).2 + 2) fun x88 =>
 ift ((x86 : Int) == 0)
 (ldL Hs84 ((b1, 0).1, (b1, 0).2 + 3) fun x91 =>
 J80 ((((Sl.len x91 : Int) : Int) == 0), (decide (((List.length x88 : Int) : Int) ≤ 4096))) H18)
 (J80 (false, (decide (((List.length x88 : Int) : Int) ≤ 4096))) H18)))
 (ift ((x23 : Int) == 5)
 (jn (α := Bool × Bool) (fun x95 H96 =>
 J19 (x95.1, x95.2) H96)
 (fun J94 => dr H18 fun Hs98 =>
 ldI Hs98 .i64 ((b1, 0).1, (b1, 0).2 + 1) fun x100 =>
 ldL Hs98 ((b1, 0).1, (b1, 0).2 + 3) fun x102 =>
 ift ((x100 : Int) == 0)
 (ldS Hs98 ((b1, 0).1, (b1, 0).2 + 2) fun x105 =>
 ift (x105 == ([] : Str))
 (ldL Hs98 ((b1, 0).1, (b1, 0).2 + 3) fun x108 =>
 J94 ((((Sl.len x108 : Int) : Int) != 1), (decide (((Sl.len x102 : Int) : Int) ≤ 16))) H18)
 (J94 (false, (decide (((Sl.len x102 : Int) : Int) ≤ 16))) H18))
 (J94 (false, (decide (((Sl.len x102 : Int) : Int) ≤ 16))) H18)))
 (ift ((x23 : Int) == 6)
 (ldS H18 ((b1, 0).1, (b1, 0).2 + 2) fun x111 =>
 QdG C x111 [46] (fun r113 r114 r115 H116 =>
 jn (α := Bool × Bool) (fun x118 H119 =>
 J19 (x118.1, x118.2) H119)
 (fun J117 => dr H116 fun Hs121 =>
 ldI Hs121 .i64 ((b1, 0).1, (b1, 0).2 + 1) fun x123 =>
 ldL Hs121 ((b1, 0).1, (b1, 0).2 + 3) fun x125 =>
 ift ((x123 : Int) == 0)
 (Qbx C r113 (fun r129 H130 =>
 Heap.le Hs121 H130 ∧
 ift r129
 (ift r115
 (Qbx C r114 (fun r134 H135 =>
 Heap.le Hs121 H135 ∧
 ift r134
 (J117 (true, (decide (((Sl.len x125 : Int) : Int) ≤ 8))) H135)
 (ift (!r115)
 (ldS Hs121 ((b1, 0).1, (b1, 0).2 + 2) fun x138 =>
 ift (!(x138 == ([116, 114, 117, 101] : Str)))
 (ldS Hs121 ((b1, 0).1, (b1, 0).2 + 2) fun x141 =>
 J117 ((!(x141 == ([102, 97, 108, 115, 101] : Str))), (decide (((Sl.len x125 : Int) : Int) ≤ 8))) H135)
 (J117 (false, (decide (((Sl.len x125 : Int) : Int) ≤ 8))) H135))
 (J117 (false, (decide (((Sl.len x125 : Int) : Int) ≤ 8))) H135))) H130)
 (ift (!r115)
 (ldS Hs121 ((b1, 0).1, (b1, 0).2 + 2) fun x144 =>
 ift (!(x144 == ([116, 114, 117, 101] : Str)))
 (ldS Hs121 ((b1, 0).1, (b1, 0).2 + 2) fun x147 =>
 J117 ((!(x147 == ([102, 97, 108, 115, 101] : Str))), (decide (((Sl.len x125 : Int) : Int) ≤ 8))) H130)
 (J117 (false, (decide (((Sl.len x125 : Int) : Int) ≤ 8))) H130))
 (J117 (false, (decide (((Sl.len x125 : Int) : Int) ≤ 8))) H130)))
 (J117 (false, (decide (((Sl.len x125 : Int) : Int) ≤ 8))) H130)) H116)
 (J117 (false, (decide (((Sl.len x125 : Int) : Int) ≤ 8))) H116))) H18)
 (J19 (false, true) H18))))))))
 (fun J13 => ift b5
 (ldL H11 ((b1, 0).1, (b1, 0).2 + 3) fun x16 =>
 J13 (((Sl.len x16 : Int) : Int) == 0) H11)
 (J13 false H11)))
 (fun J6 => ift ((x3 : Int) == 0)
 (ldS H2 ((b1, 0).1, (b1, 0).2 + 2) fun x9 =>
 J6 (x9 == ([] : Str)) H2)
 (J6 false H2))) H
theorem QfL (C p_v K H) (h : Qc2 C p_v K H) : Qx C p_v K H := by
 refine Ye Tryz.func94 rfl Tryz.ntmps94 [(0, .agg (Qa.c p_v).toArray)] (Zo (GL.box (v := .agg (Qa.c p_v).toArray) (cs := Qa.c p_v) h trivial rfl rfl rfl ?_))
 intro b1 H2 h
 refine Za (Za (GL.nil (Zo (Zf (Yl h fun x3 h => ?_)))))
 refine Zi (.bool ((x3 : Int) == 0)) (Zm ?_)
 obtain ⟨J6, h, hR7⟩ := h
 refine GL.cut (α := Bool) 4 J6 (fun b5 => [(20, .bool b5), (1, pv (some (b1, 0)))]) ?_ ?_
 rcases h.em with ⟨u8, h⟩ | ⟨u8, h⟩
 refine Zu u8 Yf ?_
 obtain ⟨x9, v10, h⟩ := h
 refine Zu u8 (Yo v10) (Zu u8 (OV.sbin (a := x9) (b := ([] : Str)) (v := .bool (x9 == ([] : Str))) rfl rfl rfl) (Zt u8 ?_))
 exact Yj I3 (x9 == ([] : Str)) h
 refine Zk u8 (Zk u8 (Zk u8 (Zn u8 ?_)))
 exact Yj I3 false h
 intro b5 H11 h
 replace h := hR7 b5 H11 h
 refine Zm ?_
 obtain ⟨J13, h, hR14⟩ := h
 refine GL.cut (α := Bool) 5 J13 (fun b12 => [(26, .bool b12), (1, pv (some (b1, 0)))]) ?_ ?_
 rcases h.em with ⟨u15, h⟩ | ⟨u15, h⟩
 refine Zu u15 Yf ?_
 obtain ⟨x16, v17, h⟩ := h
 refine Zu u15 (Yo v17) (Zu u15 (OV.lenSl rfl rfl) (Zu u15 (OV.ibin (v := .bool (((Sl.len x16 : Int) : Int) == 0)) rfl rfl rfl) (Zt u15 ?_)))
 exact Yj I3 (((Sl.len x16 : Int) : Int) == 0) h
 refine Zk u15 (Zk u15 (Zk u15 (Zk u15 (Zn u15 ?_))))
 exact Yj I3 false h
 intro b12 H18 h
 replace h := hR14 b12 H18 h
 refine Za (Za (GL.nil ?_))
 obtain ⟨J19, h, hR22⟩ := h
 refine GC.join (α := Bool × Bool) J19 (fun x20 => [(2, .bool x20.1), (3, .bool x20.2), (1, pv (some (b1, 0)))]) ?_ ?_
 refine Zo (Zf (Yl h fun x23 h => ?_))
 refine GL.nil (GC.block (Zo (Zi (.bool ((x23 : Int) == 1)) (Za (GL.nil (Yd h (fun u25 h => ?_) fun u25 h => ?_))))))
 refine GC.region (Zf (Yl h fun x26 h => ?_))
 refine Zi (.bool ((x26 : Int) == 0)) (Zm ?_)
 obtain ⟨J29, h, hR30⟩ := h
 refine GL.cut (α := Bool) 4 J29 (fun b28 => [(38, .bool b28), (1, pv (some (b1, 0))), (3, .bool true)]) ?_ ?_
 rcases h.em with ⟨u31, h⟩ | ⟨u31, h⟩
 refine Zk u31 (Zk u31 (Zk u31 (Zt u31 ?_)))
 exact Yj I3 true h
 refine Zu u31 Yf ?_
 obtain ⟨x32, v33, h⟩ := h
 refine Zu u31 (Yo v33) (Zu u31 (OV.ibin (v := .bool ((x32 : Int) == 1)) rfl rfl rfl) (Zn u31 ?_))
 exact Yj I3 ((x32 : Int) == 1) h
 intro b28 H34 h
 replace h := hR30 b28 H34 h
 refine Zm ?_
 obtain ⟨J36, h, hR37⟩ := h
 refine GL.cut (α := Bool) 4 J36 (fun b35 => [(43, .bool b35), (1, pv (some (b1, 0))), (3, .bool true)]) ?_ ?_
 rcases h.em with ⟨u38, h⟩ | ⟨u38, h⟩
 refine Zu u38 Yf ?_
 obtain ⟨x39, v40, h⟩ := h
 refine Zu u38 (Yo v40) (Zu u38 (OV.sbin (a := x39) (b := ([] : Str)) (v := .bool (x39 == ([] : Str))) rfl rfl rfl) (Zt u38 ?_))
 exact Yj I3 (x39 == ([] : Str)) h
 refine Zk u38 (Zk u38 (Zk u38 (Zn u38 ?_)))
 exact Yj I3 false h
 intro b35 H41 h
 replace h := hR37 b35 H41 h
 refine Zm ?_
 obtain ⟨J43, h, hR44⟩ := h
 refine GL.cut (α := Bool) 5 J43 (fun b42 => [(49, .bool b42), (1, pv (some (b1, 0))), (3, .bool true)]) ?_ ?_
 rcases h.em with ⟨u45, h⟩ | ⟨u45, h⟩
 refine Zu u45 Yf ?_
 obtain ⟨x46, v47, h⟩ := h
 refine Zu u45 (Yo v47) (Zu u45 (OV.lenSl rfl rfl) (Zu u45 (OV.ibin (v := .bool (((Sl.len x46 : Int) : Int) == 0)) rfl rfl rfl) (Zt u45 ?_)))
 exact Yj I3 (((Sl.len x46 : Int) : Int) == 0) h
 refine Zk u45 (Zk u45 (Zk u45 (Zk u45 (Zn u45 ?_))))
 exact Yj I3 false h
 intro b42 H48 h
 replace h := hR44 b42 H48 h
 refine Za ?_
 exact Yj I3 (b42, true) h
 refine Zo (Zi (.bool ((x23 : Int) == 2)) (Za (GL.nil (Yd h (fun u49 h => ?_) fun u49 h => ?_))))
 refine GC.region (Zf (Yl h fun x50 h => ?_))
 refine Zv (OV.sbin (a := x50) (b := ([] : Str)) (v := .bool (x50 == ([] : Str))) rfl rfl rfl) (Zm ?_)
 obtain ⟨J53, h, hR54⟩ := h
 refine GL.cut (α := Bool) 5 J53 (fun b52 => [(60, .bool b52), (1, pv (some (b1, 0))), (3, .bool true)]) ?_ ?_
 rcases h.em with ⟨u55, h⟩ | ⟨u55, h⟩
 refine Zu u55 Yf ?_
 obtain ⟨x56, v57, h⟩ := h
 refine Zu u55 (Yo v57) (Zu u55 (OV.lenSl rfl rfl) (Zu u55 (OV.ibin (v := .bool (((Sl.len x56 : Int) : Int) == 0)) rfl rfl rfl) (Zt u55 ?_)))
 exact Yj I3 (((Sl.len x56 : Int) : Int) == 0) h
 refine Zk u55 (Zk u55 (Zk u55 (Zk u55 (Zn u55 ?_))))
 exact Yj I3 false h
 intro b52 H58 h
 replace h := hR54 b52 H58 h
 refine Za ?_
 exact Yj I3 (b52, true) h
 refine Zo (Zi (.bool ((x23 : Int) == 3)) (Za (GL.nil (Yd h (fun u59 h => ?_) fun u59 h => ?_))))
 refine Zo (Zf (Yl h fun x60 h => ?_))
 refine Zc h QhO ?_
 rintro _ H64 ⟨r62, r63, rfl, h⟩
 refine Zm (Yv (.int .i64 r62) rfl rfl (Yv (.bool r63) rfl rfl (Za (Za (GL.nil (GC.region (Zm (Zm ?_))))))))
 obtain ⟨J66, h, hR67⟩ := h
 refine GL.cut (α := Bool) 4 J66 (fun b65 => [(74, .bool b65), (1, pv (some (b1, 0))), (4, .int .i64 r62)]) ?_ ?_
 rcases h.em with ⟨u68, h⟩ | ⟨u68, h⟩
 refine Zu u68 Yf ?_
 obtain ⟨x69, v70, h⟩ := h
 refine Zu u68 (Yo v70) (Zu u68 (OV.ibin (v := .bool ((x69 : Int) == 0)) rfl rfl rfl) (Zt u68 ?_))
 exact Yj I3 ((x69 : Int) == 0) h
 refine Zk u68 (Zk u68 (Zk u68 (Zn u68 ?_)))
 exact Yj I3 false h
 intro b65 H71 h
 replace h := hR67 b65 H71 h
 refine Zm ?_
 obtain ⟨J73, h, hR74⟩ := h
 refine GL.cut (α := Bool) 5 J73 (fun b72 => [(80, .bool b72), (1, pv (some (b1, 0))), (4, .int .i64 r62)]) ?_ ?_
 rcases h.em with ⟨u75, h⟩ | ⟨u75, h⟩
 refine Zu u75 Yf ?_
 obtain ⟨x76, v77, h⟩ := h
 refine Zu u75 (Yo v77) (Zu u75 (OV.lenSl rfl rfl) (Zu u75 (OV.ibin (v := .bool (((Sl.len x76 : Int) : Int) == 0)) rfl rfl rfl) (Zt u75 ?_)))
 exact Yj I3 (((Sl.len x76 : Int) : Int) == 0) h
 refine Zk u75 (Zk u75 (Zk u75 (Zk u75 (Zn u75 ?_))))
 exact Yj I3 false h
 intro b72 H78 h
 replace h := hR74 b72 H78 h
 refine Zm (Zi (.bool (decide ((r62 : Int) ≤ 200))) (Za (Za ?_)))
 exact Yj I3 (b72, (decide ((r62 : Int) ≤ 200))) h
 refine Zo (Zi (.bool ((x23 : Int) == 4)) (Za (GL.nil (Yd h (fun u79 h => ?_) fun u79 h => ?_))))
 obtain ⟨J80, h, hR83⟩ := h
 refine GC.meet (α := Bool × Bool) J80 (fun x81 => [(2, .bool x81.1), (3, .bool x81.2), (1, pv (some (b1, 0)))]) ?_ ?_
 obtain ⟨Hs84, hle85, h⟩ := h
 refine GC.any (Hs := Hs84) (by kernel_rfl) hle85 (Zp 0 rfl Yf ?_)
 obtain ⟨x86, v87, h⟩ := h
 refine Zp 1 rfl (Yo v87) (Zp 2 rfl (OV.ibin (v := .bool ((x86 : Int) == 0)) rfl rfl rfl) (Zp 3 rfl Ym (Zp 9 rfl Yf ?_)))
 obtain ⟨x88, v89, h⟩ := h
 refine Zp 10 rfl (Yo v89) (Zp 11 rfl (OV.lenStr rfl rfl) (Zp 12 rfl (OV.ibin (v := .bool (decide (((List.length x88 : Int) : Int) ≤ 4096))) rfl rfl rfl) ?_))
 rcases h.em with ⟨u90, h⟩ | ⟨u90, h⟩
 refine Zg 4 rfl (Yt u90) Yf ?_
 obtain ⟨x91, v92, h⟩ := h
 refine Zg 5 rfl (Yt u90) (Yo v92) (Zg 6 rfl (Yt u90) (OV.lenSl rfl rfl) (Zg 7 rfl (Yt u90) (OV.ibin (v := .bool (((Sl.len x91 : Int) : Int) == 0)) rfl rfl rfl) (Zp 8 rfl (OV.pickT rfl u90 rfl) (Zp 13 rfl Ya (Zp 14 rfl Ya (GA.done (by kernel_rfl) ?_))))))
 exact Yj I3 ((((Sl.len x91 : Int) : Int) == 0), (decide (((List.length x88 : Int) : Int) ≤ 4096))) h
 refine Zj 4 rfl (Yw u90) (Zj 5 rfl (Yw u90) (Zj 6 rfl (Yw u90) (Zj 7 rfl (Yw u90) (Zp 8 rfl (OV.pickF rfl u90 rfl) (Zp 13 rfl Ya (Zp 14 rfl Ya (GA.done (by kernel_rfl) ?_)))))))
 exact Yj I3 (false, (decide (((List.length x88 : Int) : Int) ≤ 4096))) h
 intro x81 H82 h
 replace h := hR83 x81 H82 h
 exact Yj I3 (x81.1, x81.2) h
 refine Zo (Zi (.bool ((x23 : Int) == 5)) (Za (GL.nil (Yd h (fun u93 h => ?_) fun u93 h => ?_))))
 obtain ⟨J94, h, hR97⟩ := h
 refine GC.meet (α := Bool × Bool) J94 (fun x95 => [(2, .bool x95.1), (3, .bool x95.2), (1, pv (some (b1, 0)))]) ?_ ?_
 obtain ⟨Hs98, hle99, h⟩ := h
 refine GC.any (Hs := Hs98) (by kernel_rfl) hle99 (Zp 0 rfl Yf ?_)
 obtain ⟨x100, v101, h⟩ := h
 refine Zp 1 rfl (Yo v101) (Zp 2 rfl (OV.ibin (v := .bool ((x100 : Int) == 0)) rfl rfl rfl) (Zp 3 rfl Ym (Zp 14 rfl Yf ?_)))
 obtain ⟨x102, v103, h⟩ := h
 refine Zp 15 rfl (Yo v103) (Zp 16 rfl (OV.lenSl rfl rfl) (Zp 17 rfl (OV.ibin (v := .bool (decide (((Sl.len x102 : Int) : Int) ≤ 16))) rfl rfl rfl) ?_))
 rcases h.em with ⟨u104, h⟩ | ⟨u104, h⟩
 refine Zg 4 rfl (Yt u104) Yf ?_
 obtain ⟨x105, v106, h⟩ := h
 refine Zg 5 rfl (Yt u104) (Yo v106) (Zg 6 rfl (Yt u104) (OV.sbin (a := x105) (b := ([] : Str)) (v := .bool (x105 == ([] : Str))) rfl rfl rfl) (Zp 7 rfl (OV.pickT rfl u104 rfl) (Zp 8 rfl Ym ?_)))
 rcases h.em with ⟨u107, h⟩ | ⟨u107, h⟩
 refine Zg 9 rfl (Yt u107) Yf ?_
 obtain ⟨x108, v109, h⟩ := h
 refine Zg 10 rfl (Yt u107) (Yo v109) (Zg 11 rfl (Yt u107) (OV.lenSl rfl rfl) (Zg 12 rfl (Yt u107) (OV.ibin (v := .bool (((Sl.len x108 : Int) : Int) != 1)) rfl rfl rfl) (Zp 13 rfl (OV.pickT rfl u107 rfl) (Zp 18 rfl Ya (Zp 19 rfl Ya (GA.done (by kernel_rfl) ?_))))))
 exact Yj I3 ((((Sl.len x108 : Int) : Int) != 1), (decide (((Sl.len x102 : Int) : Int) ≤ 16))) h
 refine Zj 9 rfl (Yw u107) (Zj 10 rfl (Yw u107) (Zj 11 rfl (Yw u107) (Zj 12 rfl (Yw u107) (Zp 13 rfl (OV.pickF rfl u107 rfl) (Zp 18 rfl Ya (Zp 19 rfl Ya (GA.done (by kernel_rfl) ?_)))))))
 exact Yj I3 (false, (decide (((Sl.len x102 : Int) : Int) ≤ 16))) h
 refine Zj 4 rfl (Yw u104) (Zj 5 rfl (Yw u104) (Zj 6 rfl (Yw u104) (Zp 7 rfl (OV.pickF rfl u104 rfl) (Zp 8 rfl Ym (Zj 9 rfl (Yw rfl) (Zj 10 rfl (Yw rfl) (Zj 11 rfl (Yw rfl) (Zj 12 rfl (Yw rfl) (Zp 13 rfl (OV.pickF rfl rfl rfl) (Zp 18 rfl Ya (Zp 19 rfl Ya (GA.done (by kernel_rfl) ?_))))))))))))
 exact Yj I3 (false, (decide (((Sl.len x102 : Int) : Int) ≤ 16))) h
 intro x95 H96 h
 replace h := hR97 x95 H96 h
 exact Yj I3 (x95.1, x95.2) h
 refine Zo (Zi (.bool ((x23 : Int) == 6)) (Za (GL.nil (Yd h (fun u110 h => ?_) fun u110 h => ?_))))
 refine Zo (Zf (Yl h fun x111 h => ?_))
 refine Zc h Qiq ?_
 rintro _ H116 ⟨r113, r114, r115, rfl, h⟩
 refine Zm (Yv (sv r113) rfl rfl (Yv (sv r114) rfl rfl (Yv (.bool r115) rfl rfl (Za (Za (Za (GL.nil ?_)))))))
 obtain ⟨J117, h, hR120⟩ := h
 refine GC.meet (α := Bool × Bool) J117 (fun x118 => [(2, .bool x118.1), (3, .bool x118.2), (1, pv (some (b1, 0)))]) ?_ ?_
 obtain ⟨Hs121, hle122, h⟩ := h
 refine GC.any (Hs := Hs121) (by kernel_rfl) hle122 (Zp 0 rfl Yf ?_)
 obtain ⟨x123, v124, h⟩ := h
 refine Zp 1 rfl (Yo v124) (Zp 2 rfl (OV.ibin (v := .bool ((x123 : Int) == 0)) rfl rfl rfl) (Zp 3 rfl Ym (Zp 28 rfl Yf ?_)))
 obtain ⟨x125, v126, h⟩ := h
 refine Zp 29 rfl (Yo v126) (Zp 30 rfl (OV.lenSl rfl rfl) (Zp 31 rfl (OV.ibin (v := .bool (decide (((Sl.len x125 : Int) : Int) ≤ 8))) rfl rfl rfl) ?_))
 rcases h.em with ⟨u127, h⟩ | ⟨u127, h⟩
 refine Zg 4 rfl (Yt u127) Ym (GA.eff 5 rfl (by kernel_rfl) (GL.call h (Yt u127) rfl Qf1 (vs := [sv r113]) rfl ?_))
 rintro _ H130 ⟨r129, rfl, h⟩
 obtain ⟨hle128, h⟩ := h
 refine GA.back hle128 (Zp 6 rfl (OV.pickT rfl u127 rfl) (Zp 7 rfl Ym ?_))
 rcases h.em with ⟨u131, h⟩ | ⟨u131, h⟩
 refine Zg 8 rfl (Yt u131) Ym (Zg 9 rfl (Yt u131) Ym ?_)
 rcases h.em with ⟨u132, h⟩ | ⟨u132, h⟩
 refine Zg 10 rfl (Yt u132) Ym (GA.eff 11 rfl (by kernel_rfl) (GL.call h (Yt u132) rfl Qf1 (vs := [sv r114]) rfl ?_))
 rintro _ H135 ⟨r134, rfl, h⟩
 obtain ⟨hle133, h⟩ := h
 refine GA.back hle133 (Zg 12 rfl (Yt u131) (OV.pickT rfl u132 rfl) (Zg 13 rfl (Yt u131) Ym ?_))
 rcases h.em with ⟨u136, h⟩ | ⟨u136, h⟩
 refine Zj 14 rfl (Yw u136) (Zj 15 rfl (Yw u136) (Zj 16 rfl (Yw u136) (Zj 17 rfl ⟨_, rfl, .inr rfl⟩ (Zj 18 rfl ⟨_, rfl, .inr rfl⟩ (Zj 19 rfl ⟨_, rfl, .inr rfl⟩ (Zj 20 rfl (Yw u136) (Zj 21 rfl (Yw u136) (Zj 22 rfl ⟨_, rfl, .inr rfl⟩ (Zj 23 rfl ⟨_, rfl, .inr rfl⟩ (Zj 24 rfl ⟨_, rfl, .inr rfl⟩ (Zj 25 rfl (Yw u136) (Zg 26 rfl (Yt u131) (OV.pickT rfl u136 rfl) (Zp 27 rfl (OV.pickT rfl u131 rfl) (Zp 32 rfl Ya (Zp 33 rfl Ya (GA.done (by kernel_rfl) ?_))))))))))))))))
 exact Yj I3 (true, (decide (((Sl.len x125 : Int) : Int) ≤ 8))) h
 refine Zg 14 rfl (Yt u136) Ym (Zg 15 rfl (Yt u136) (OV.not rfl) (Zg 16 rfl (Yt u136) Ym ?_))
 rcases h.em with ⟨u137, h⟩ | ⟨u137, h⟩
 refine Zg 17 rfl (Yt u137) Yf ?_
 obtain ⟨x138, v139, h⟩ := h
 refine Zg 18 rfl (Yt u137) (Yo v139) (Zg 19 rfl (Yt u137) (OV.sbin (a := x138) (b := ([116, 114, 117, 101] : Str)) (v := .bool (!(x138 == ([116, 114, 117, 101] : Str)))) rfl rfl rfl) (Zg 20 rfl (Yt u136) (OV.pickT rfl u137 rfl) (Zg 21 rfl (Yt u136) Ym ?_)))
 rcases h.em with ⟨u140, h⟩ | ⟨u140, h⟩
 refine Zg 22 rfl (Yt u140) Yf ?_
 obtain ⟨x141, v142, h⟩ := h
 refine Zg 23 rfl (Yt u140) (Yo v142) (Zg 24 rfl (Yt u140) (OV.sbin (a := x141) (b := ([102, 97, 108, 115, 101] : Str)) (v := .bool (!(x141 == ([102, 97, 108, 115, 101] : Str)))) rfl rfl rfl) (Zg 25 rfl (Yt u136) (OV.pickT rfl u140 rfl) (Zg 26 rfl (Yt u131) (OV.pickF rfl u136 rfl) (Zp 27 rfl (OV.pickT rfl u131 rfl) (Zp 32 rfl Ya (Zp 33 rfl Ya (GA.done (by kernel_rfl) ?_)))))))
 exact Yj I3 ((!(x141 == ([102, 97, 108, 115, 101] : Str))), (decide (((Sl.len x125 : Int) : Int) ≤ 8))) h
 refine Zj 22 rfl (Yw u140) (Zj 23 rfl (Yw u140) (Zj 24 rfl (Yw u140) (Zg 25 rfl (Yt u136) (OV.pickF rfl u140 rfl) (Zg 26 rfl (Yt u131) (OV.pickF rfl u136 rfl) (Zp 27 rfl (OV.pickT rfl u131 rfl) (Zp 32 rfl Ya (Zp 33 rfl Ya (GA.done (by kernel_rfl) ?_))))))))
 exact Yj I3 (false, (decide (((Sl.len x125 : Int) : Int) ≤ 8))) h
 refine Zj 17 rfl (Yw u137) (Zj 18 rfl (Yw u137) (Zj 19 rfl (Yw u137) (Zg 20 rfl (Yt u136) (OV.pickF rfl u137 rfl) (Zg 21 rfl (Yt u136) Ym (Zj 22 rfl (Yw rfl) (Zj 23 rfl (Yw rfl) (Zj 24 rfl (Yw rfl) (Zg 25 rfl (Yt u136) (OV.pickF rfl rfl rfl) (Zg 26 rfl (Yt u131) (OV.pickF rfl u136 rfl) (Zp 27 rfl (OV.pickT rfl u131 rfl) (Zp 32 rfl Ya (Zp 33 rfl Ya (GA.done (by kernel_rfl) ?_)))))))))))))
 exact Yj I3 (false, (decide (((Sl.len x125 : Int) : Int) ≤ 8))) h
 refine Zj 10 rfl (Yw u132) (Zj 11 rfl (Yw u132) (Zg 12 rfl (Yt u131) (OV.pickF rfl u132 rfl) (Zg 13 rfl (Yt u131) Ym (Zg 14 rfl (Yt rfl) Ym (Zg 15 rfl (Yt rfl) (OV.not rfl) (Zg 16 rfl (Yt rfl) Ym ?_))))))
 rcases h.em with ⟨u143, h⟩ | ⟨u143, h⟩
 refine Zg 17 rfl (Yt u143) Yf ?_
 obtain ⟨x144, v145, h⟩ := h
 refine Zg 18 rfl (Yt u143) (Yo v145) (Zg 19 rfl (Yt u143) (OV.sbin (a := x144) (b := ([116, 114, 117, 101] : Str)) (v := .bool (!(x144 == ([116, 114, 117, 101] : Str)))) rfl rfl rfl) (Zg 20 rfl (Yt rfl) (OV.pickT rfl u143 rfl) (Zg 21 rfl (Yt rfl) Ym ?_)))
 rcases h.em with ⟨u146, h⟩ | ⟨u146, h⟩
 refine Zg 22 rfl (Yt u146) Yf ?_
 obtain ⟨x147, v148, h⟩ := h
 refine Zg 23 rfl (Yt u146) (Yo v148) (Zg 24 rfl (Yt u146) (OV.sbin (a := x147) (b := ([102, 97, 108, 115, 101] : Str)) (v := .bool (!(x147 == ([102, 97, 108, 115, 101] : Str)))) rfl rfl rfl) (Zg 25 rfl (Yt rfl) (OV.pickT rfl u146 rfl) (Zg 26 rfl (Yt u131) (OV.pickF rfl rfl rfl) (Zp 27 rfl (OV.pickT rfl u131 rfl) (Zp 32 rfl Ya (Zp 33 rfl Ya (GA.done (by kernel_rfl) ?_)))))))
 exact Yj I3 ((!(x147 == ([102, 97, 108, 115, 101] : Str))), (decide (((Sl.len x125 : Int) : Int) ≤ 8))) h
 refine Zj 22 rfl (Yw u146) (Zj 23 rfl (Yw u146) (Zj 24 rfl (Yw u146) (Zg 25 rfl (Yt rfl) (OV.pickF rfl u146 rfl) (Zg 26 rfl (Yt u131) (OV.pickF rfl rfl rfl) (Zp 27 rfl (OV.pickT rfl u131 rfl) (Zp 32 rfl Ya (Zp 33 rfl Ya (GA.done (by kernel_rfl) ?_))))))))
 exact Yj I3 (false, (decide (((Sl.len x125 : Int) : Int) ≤ 8))) h
 refine Zj 17 rfl (Yw u143) (Zj 18 rfl (Yw u143) (Zj 19 rfl (Yw u143) (Zg 20 rfl (Yt rfl) (OV.pickF rfl u143 rfl) (Zg 21 rfl (Yt rfl) Ym (Zj 22 rfl (Yw rfl) (Zj 23 rfl (Yw rfl) (Zj 24 rfl (Yw rfl) (Zg 25 rfl (Yt rfl) (OV.pickF rfl rfl rfl) (Zg 26 rfl (Yt u131) (OV.pickF rfl rfl rfl) (Zp 27 rfl (OV.pickT rfl u131 rfl) (Zp 32 rfl Ya (Zp 33 rfl Ya (GA.done (by kernel_rfl) ?_)))))))))))))
 exact Yj I3 (false, (decide (((Sl.len x125 : Int) : Int) ≤ 8))) h
 refine Zj 8 rfl (Yw u131) (Zj 9 rfl (Yw u131) (Zj 10 rfl ⟨_, rfl, .inr rfl⟩ (Zj 11 rfl ⟨_, rfl, .inr rfl⟩ (Zj 12 rfl (Yw u131) (Zj 13 rfl (Yw u131) (Zj 14 rfl ⟨_, rfl, .inr rfl⟩ (Zj 15 rfl ⟨_, rfl, .inr rfl⟩ (Zj 16 rfl ⟨_, rfl, .inr rfl⟩ (Zj 17 rfl ⟨_, rfl, .inr rfl⟩ (Zj 18 rfl ⟨_, rfl, .inr rfl⟩ (Zj 19 rfl ⟨_, rfl, .inr rfl⟩ (Zj 20 rfl ⟨_, rfl, .inr rfl⟩ (Zj 21 rfl ⟨_, rfl, .inr rfl⟩ (Zj 22 rfl ⟨_, rfl, .inr rfl⟩ (Zj 23 rfl ⟨_, rfl, .inr rfl⟩ (Zj 24 rfl ⟨_, rfl, .inr rfl⟩ (Zj 25 rfl ⟨_, rfl, .inr rfl⟩ (Zj 26 rfl (Yw u131) (Zp 27 rfl (OV.pickF rfl u131 rfl) (Zp 32 rfl Ya (Zp 33 rfl Ya (GA.done (by kernel_rfl) ?_))))))))))))))))))))))
 exact Yj I3 (false, (decide (((Sl.len x125 : Int) : Int) ≤ 8))) h
 refine Zj 4 rfl (Yw u127) (Zj 5 rfl (Yw u127) (Zp 6 rfl (OV.pickF rfl u127 rfl) (Zp 7 rfl Ym (Zj 8 rfl (Yw rfl) (Zj 9 rfl (Yw rfl) (Zj 10 rfl ⟨_, rfl, .inr rfl⟩ (Zj 11 rfl ⟨_, rfl, .inr rfl⟩ (Zj 12 rfl (Yw rfl) (Zj 13 rfl (Yw rfl) (Zj 14 rfl ⟨_, rfl, .inr rfl⟩ (Zj 15 rfl ⟨_, rfl, .inr rfl⟩ (Zj 16 rfl ⟨_, rfl, .inr rfl⟩ (Zj 17 rfl ⟨_, rfl, .inr rfl⟩ (Zj 18 rfl ⟨_, rfl, .inr rfl⟩ (Zj 19 rfl ⟨_, rfl, .inr rfl⟩ (Zj 20 rfl ⟨_, rfl, .inr rfl⟩ (Zj 21 rfl ⟨_, rfl, .inr rfl⟩ (Zj 22 rfl ⟨_, rfl, .inr rfl⟩ (Zj 23 rfl ⟨_, rfl, .inr rfl⟩ (Zj 24 rfl ⟨_, rfl, .inr rfl⟩ (Zj 25 rfl ⟨_, rfl, .inr rfl⟩ (Zj 26 rfl (Yw rfl) (Zp 27 rfl (OV.pickF rfl rfl rfl) (Zp 32 rfl Ya (Zp 33 rfl Ya (GA.done (by kernel_rfl) ?_))))))))))))))))))))))))))
 exact Yj I3 (false, (decide (((Sl.len x125 : Int) : Int) ≤ 8))) h
 intro x118 H119 h
 replace h := hR120 x118 H119 h
 exact Yj I3 (x118.1, x118.2) h
 refine GC.region (Za ?_)
 exact Yj I3 (false, true) h
 intro x20 H21 h
 replace h := hR22 x20 H21 h
 refine GC.seq (Zo (Zf (Yl h fun x149 h => ?_)))
 refine Zq (Zm (GL.nil (GC.block (Yp h (fun x151 => [(2, .bool x151.1), (3, .bool x151.2.1), (162, .int .i64 x151.2.2), (160, slv x149), (161, .int .i64 (Sl.len x149 : Int))]) ?_))))
 intro x151 H153 J152 h
 refine Zo (Zi (.bool (decide ((x151.2.2 : Int) < (Sl.len x149 : Int)))) (GL.nil (GC.seq (Yd h (fun u154 h => ?_) fun u154 h => ?_))))
 refine GC.skip (GC.seq (GC.block (Zo (Yx h fun p155 h => ?_))))
 obtain ⟨x160, v161, h⟩ := h
 refine Zv (OV.loadT rfl rfl rfl v161) (GL.alloc (cs := Qa.c Qa.zero) h trivial rfl rfl rfl ?_)
 intro b162 H163 h
 refine GL.storeT (p := (b162, 0)) (vs := Qa.c x160) h trivial rfl rfl rfl rfl ?_
 intro H164 h
 refine GL.nil (Zo ?_)
 obtain ⟨x165, v166, h⟩ := h
 refine Zv (OV.loadT rfl rfl rfl v166) (Zc h QcS ?_)
 rintro _ H169 ⟨r167, r168, rfl, h⟩
 refine Zm (Yv (.bool r167) rfl rfl (Yv (.bool r168) rfl rfl (Za (Za (GL.nil (GC.region (Zm (Zm (GL.cut0 2 [(174, .bool (x151.1 && r167)), (3, .bool x151.2.1), (12, .bool r168), (160, slv x149), (161, .int .i64 (Sl.len x149 : Int)), (162, .int .i64 x151.2.2)] ?_ ?_)))))))))
 rcases Bool.eq_false_or_eq_true x151.1 with u170 | u170
 refine Zu u170 Ym (Zt u170 ?_)
 exact GL.jump0 (fun _ _ h => h) () rfl ⟨(by rw [u170]; rfl), rfl, rfl, rfl, rfl, rfl, trivial⟩
 refine Zk u170 (Zn u170 ?_)
 exact GL.jump0 (fun _ _ h => h) () rfl ⟨(by rw [u170]; rfl), rfl, rfl, rfl, rfl, rfl, trivial⟩
 refine Zm (Zm (GL.cut0 2 [(178, .bool (x151.2.1 && r168)), (160, slv x149), (161, .int .i64 (Sl.len x149 : Int)), (162, .int .i64 x151.2.2), (174, .bool (x151.1 && r167))] ?_ ?_))
 rcases Bool.eq_false_or_eq_true x151.2.1 with u171 | u171
 refine Zu u171 Ym (Zt u171 ?_)
 exact GL.jump0 (fun _ _ h => h) () rfl ⟨(by rw [u171]; rfl), rfl, rfl, rfl, rfl, trivial⟩
 refine Zk u171 (Zn u171 ?_)
 exact GL.jump0 (fun _ _ h => h) () rfl ⟨(by rw [u171]; rfl), rfl, rfl, rfl, rfl, trivial⟩
 refine Za (Za (GL.nil_to (fun _ _ h => h) (GC.region (Zi (.int .i64 (w .i64 (x151.2.2 + 1))) (Zm ?_)))))
 exact Yj I3 ((x151.1 && r167), (x151.2.1 && r168), (w .i64 (x151.2.2 + 1))) h
 refine GC.exit_to (fun _ _ h => h) (Zo (Zm (Zm (Za (Za (GL.nil ?_))))))
 exact Y2 I3 ⟨x151.1, x151.2.1, rfl, h⟩
def QeH (C : Ctx) (p_l : Sl) (v0 : Nat × Nat) (v1 : Nat × Nat) (K : Heap → Prop) (H : Heap) : Prop :=
 Qf C (some v0) 40 (fun r1 H2 =>
 lp (α := Int) 0 H2 (fun x3 J4 H5 =>
 ift (decide ((x3 : Int) < (Sl.len p_l : Int)))
 (ixa p_l x3 fun p7 =>
 ldT H5 Qa.c (p7.1, p7.2 + (x3 : Int).toNat * 4) fun x12 =>
 nw (Qa.c Qa.zero) (fun b14 H15 =>
 stT (b14, 0) (Qa.c x12) (fun H16 =>
 jn (α := Unit) (fun x18 H19 =>
 ldV H19 v1 fun x25 =>
 ldT H19 Qa.c (b14, 0) fun x27 =>
 callU Tryz.prog C x25 [.agg (Qa.c x27).toArray] H19 (fun v H29 => v = .tuple #[] ∧
 J4 (w .i64 (x3 + 1)) H29))
 (fun J17 => ift (decide ((x3 : Int) > 0))
 (Qh C (some v0) [44, 32] (fun r22 r23 H24 =>
 J17 () H24) H16)
 (J17 () H16))) H15) H5)
 (Qf C (some v0) 41 (fun r30 H31 =>
 K H31) H5))) H
theorem Qhp (C p_l v0 v1 K H) (h : QeH C p_l v0 v1 K H) : Qc9 C p_l v0 v1 K H := by
 refine Ye Tryz.func95 rfl Tryz.ntmps95 [(0, slv p_l), (1, pv (some v0)), (2, pv (some v1))] (Zo (Zc h Qj ?_))
 rintro _ H2 ⟨r1, rfl, h⟩
 refine GL.nil (GC.seq (Zo (Zm (Zq (Zm (GL.nil (GC.block (Yp h (fun x3 => [(9, .int .i64 x3), (1, pv (some v0)), (2, pv (some v1)), (7, slv p_l), (8, .int .i64 (Sl.len p_l : Int))]) ?_))))))))
 intro x3 H5 J4 h
 refine Zo (Zi (.bool (decide ((x3 : Int) < (Sl.len p_l : Int)))) (GL.nil (GC.seq (Yd h (fun u6 h => ?_) fun u6 h => ?_))))
 refine GC.skip (GC.seq (GC.block (Zo (Zm (Yx h fun p7 h => ?_)))))
 obtain ⟨x12, hr13, h⟩ := h
 refine Zv (OV.loadT rfl rfl rfl hr13) (GL.alloc (cs := Qa.c Qa.zero) h trivial rfl rfl rfl ?_)
 intro b14 H15 h
 refine Za (GL.storeT (p := (b14, 0)) (vs := Qa.c x12) h trivial rfl rfl rfl rfl ?_)
 intro H16 h
 refine GL.nil ?_
 obtain ⟨J17, h, hR20⟩ := h
 refine GC.join (α := Unit) J17 (fun _ => [(1, pv (some v0)), (2, pv (some v1)), (5, pv (some (b14, 0))), (7, slv p_l), (8, .int .i64 (Sl.len p_l : Int)), (9, .int .i64 x3)]) ?_ ?_
 refine Zo (Zm (Zi (.bool (decide ((x3 : Int) > 0))) (GL.nil (Yd h (fun u21 h => ?_) fun u21 h => ?_))))
 refine GC.region (Zc h Ql ?_)
 rintro _ H24 ⟨r22, r23, rfl, h⟩
 exact Yj I3 () h
 exact Yk I3 () h
 intro x18 H19 h
 replace h := hR20 x18 H19 h
 refine GC.region (Yl h fun x25 h => ?_)
 obtain ⟨x27, hr28, h⟩ := h
 refine Zv (OV.loadT rfl rfl rfl hr28) (GL.callU (xv := x25) (vs := [.agg (Qa.c x27).toArray]) h trivial rfl rfl rfl ?_)
 rintro _ H29 ⟨rfl, h⟩
 refine GL.nil_to (fun _ _ h => h) (GC.region (Zi (.int .i64 (w .i64 (x3 + 1))) (Zm ?_)))
 exact Yj I3 (w .i64 (x3 + 1)) h
 refine GC.exit_to (fun _ _ h => h) (GC.region (Zc h Qj ?_))
 rintro _ H31 ⟨r30, rfl, h⟩
 exact GL.ends (fun _ _ hf hs => Qy rfl hf hs ⟨rfl, h⟩)
def QaK (C : Ctx) (p_b : Option (Nat × Nat)) (p_c : Int) (K : Value → Heap → Prop) (H : Heap) : Prop :=
 QG C p_b (fun H1 =>
 nck p_b fun p2 =>
 ldL H1 (p2.1, p2.2 + 1) fun x4 =>
 apdG 5 ([.int .u8 0]) 1 x4 ([.int .u8 p_c]) 1 (fun r6 H7 =>
 nck p_b fun p8 =>
 sttG (p8.1, p8.2 + 1) (slv r6) (fun H10 =>
 K .nilIface H10) H7) H1) H
theorem Qck (C p_b p_c K H) (h : QaK C p_b p_c K H) : Qf C p_b p_c K H := by
 refine Ye Tryz.func96 rfl Tryz.ntmps96 [(0, pv p_b), (1, .int .u8 p_c)] (Zo (Za (GL.nil (Zo (Zm (Zc h QaI ?_))))))
 rintro _ H1 ⟨rfl, h⟩
 refine GL.nil (Zo (Zm (Zm ?_)))
 obtain ⟨p2, hp3, h⟩ := h
 refine Zv (OV.nilCheck (q := p_b) rfl hp3) (Zf (Yl h fun x4 h => ?_))
 refine Zm (GL.appendGLit (e := 5) (s := x4) (ys := [.int .u8 p_c]) (zc := [.int .u8 0]) (bytes := 1) h trivial rfl (fun _ => trivial) rfl (fun _ => rfl) (fun _ => rfl) (vs := [(0, .int .u8 p_c)]) rfl ⟨5, fun _ => by kernel_rfl⟩ ⟨⟨_, _, rfl, rfl, rfl, rfl, rfl, rfl⟩⟩ rfl rfl ?_)
 intro _ r6 H7 h
 obtain ⟨p8, hp9, h⟩ := h
 refine Zv (OV.nilCheck (q := p_b) rfl hp9) (Zf (GL.storeG (p := (p8.1, p8.2 + 1)) (v := slv r6) h trivial rfl rfl rfl rfl ?_))
 intro H10 h
 refine GL.nil (Zo (Za (GL.nil ?_)))
 exact Y1 I3 ⟨.nilIface, rfl, h⟩
def Qan (C : Ctx) (p_b : Option (Nat × Nat)) (p_s : Str) (K : Int → Value → Heap → Prop) (H : Heap) : Prop :=
 QG C p_b (fun H1 =>
 nck p_b fun p2 =>
 ldL H1 (p2.1, p2.2 + 1) fun x4 =>
 apdG 5 [.int .u8 0] 1 x4 (bytesV p_s) (List.length p_s) (fun r6 H7 =>
 nck p_b fun p8 =>
 sttG (p8.1, p8.2 + 1) (slv r6) (fun H10 =>
 K (List.length p_s : Int) .nilIface H10) H7) H1) H
theorem QbV (C p_b p_s K H) (h : Qan C p_b p_s K H) : Qh C p_b p_s K H := by
 refine Ye Tryz.func97 rfl Tryz.ntmps97 [(0, pv p_b), (1, sv p_s)] (Zo (Za (Za (GL.nil (Zo (Zm (Zc h QaI ?_)))))))
 rintro _ H1 ⟨rfl, h⟩
 refine GL.nil (Zo (Zm (Zm ?_)))
 obtain ⟨p2, hp3, h⟩ := h
 refine Zv (OV.nilCheck (q := p_b) rfl hp3) (Zf (Yl h fun x4 h => ?_))
 refine Zm (GL.appendGStr (e := 5) (s := x4) (u := p_s) (bytes := 1) h trivial rfl rfl rfl ⟨⟨_, _, rfl, rfl, rfl, rfl, rfl, rfl⟩⟩ rfl ?_)
 intro r6 H7 h
 obtain ⟨p8, hp9, h⟩ := h
 refine Zv (OV.nilCheck (q := p_b) rfl hp9) (Zf (GL.storeG (p := (p8.1, p8.2 + 1)) (v := slv r6) h trivial rfl rfl rfl rfl ?_))
 intro H10 h
 refine GL.nil (Zo (Zm (Zr (Za (Za (GL.nil ?_))))))
 exact Y2 I3 ⟨(List.length p_s : Int), .nilIface, rfl, h⟩
end
end Sx
end
