/-
  Texts of this family, one behind the other: Sh2.
-/
import Derived.Test.YtgmcalaliipajaaGreatDoorAC2
noncomputable section
set_option linter.unusedVariables false
set_option linter.unusedSimpArgs false
set_option maxRecDepth 10000
namespace Sx
section
set_option maxRecDepth 100000
open Go Go.Proofs
def Qcj (C : Ctx) (p_a : Sl) (p_da : Sl) (K : Sl → Int → Heap → Prop) (H : Heap) : Prop :=
 Qb7 C p_a p_da Sl.nil Sl.nil (fun r1 r2 r3 H4 =>
 nw (Qe.c Qe.zero) (fun b5 H6 =>
 nw (Qe.c Qe.zero) (fun b7 H8 =>
 stT (b5, 0) (Qe.c r1) (fun H9 =>
 stT (b7, 0) (Qe.c r2) (fun H10 =>
 ift ((r3 : Int) != 0)
 (K Sl.nil r3 H10)
 (mkM (fun b12 H13 =>
 nw (Qc.c Qc.zero) (fun b14 H15 =>
 stT (b14, 0) (Qc.c (⟨Sl.nil⟩ : Qc)) (fun H16 =>
 ldL H16 ((b5, 0).1, (b5, 0).2 + 1) fun x17 =>
 lp (α := Int) 0 H16 (fun x19 J20 H21 =>
 ift (decide ((x19 : Int) < (Sl.len x17 : Int)))
 (ixa x17 x19 fun p23 =>
 ldT H21 Qa.c (p23.1, p23.2 + (x19 : Int).toNat * 2) fun x28 =>
 nw (Qa.c Qa.zero) (fun b30 H31 =>
 stT (b30, 0) (Qa.c x28) (fun H32 =>
 ldT H32 Qc.c (b14, 0) fun x33 =>
 ldL H32 ((b30, 0).1, (b30, 0).2 + 0) fun x35 =>
 Qay C x33 x35 (fun r37 r38 H39 =>
 upM (fun x : Int => (.int .i64 x : Value)) (some b12) r37 0 (fun H40 =>
 J20 (w .i64 (x19 + 1)) H40) H39) H32) H31) H21)
 (ldL H21 ((b5, 0).1, (b5, 0).2 + 0) fun x41 =>
 lp (α := Int) 0 H21 (fun x43 J44 H45 =>
 ift (decide ((x43 : Int) < (Sl.len x41 : Int)))
 (jn (α := Unit) (fun x48 H49 =>
 J44 (w .i64 (x43 + 1)) H49)
 (fun J47 => ixa x41 x43 fun p51 =>
 ldT H45 Qa.c (p51.1, p51.2 + (x43 : Int).toNat * 2) fun x56 =>
 nw (Qa.c Qa.zero) (fun b58 H59 =>
 stT (b58, 0) (Qa.c x56) (fun H60 =>
 ldT H60 Qc.c (b14, 0) fun x61 =>
 ldL H60 ((b58, 0).1, (b58, 0).2 + 0) fun x63 =>
 Qay C x61 x63 (fun r65 r66 H67 =>
 lnM (some b12) (fun m68 =>
 ift (decide (((m68 : Int) : Int) > 0))
 (ldI H67 .i64 ((b58, 0).1, (b58, 0).2 + 1) fun x71 =>
 upM (fun x : Int => (.int .i64 x : Value)) (some b12) r65 x71 (fun H73 =>
 J47 () H73) H67)
 (J47 () H67)) H67) H60) H59) H45))
 (ldL H45 ((b5, 0).1, (b5, 0).2 + 1) fun x74 =>
 lp (α := Sl × Int) (Sl.nil, 0) H45 (fun x76 J77 H78 =>
 ift (decide ((x76.2 : Int) < (Sl.len x74 : Int)))
 (jn (α := Sl) (fun x81 H82 =>
 J77 (x81, (w .i64 (x76.2 + 1))) H82)
 (fun J80 => ixa x74 x76.2 fun p84 =>
 ldT H78 Qa.c (p84.1, p84.2 + (x76.2 : Int).toNat * 2) fun x89 =>
 nw (Qa.c Qa.zero) (fun b91 H92 =>
 stT (b91, 0) (Qa.c x89) (fun H93 =>
 ldT H93 Qc.c (b14, 0) fun x94 =>
 ldL H93 ((b91, 0).1, (b91, 0).2 + 0) fun x96 =>
 Qay C x94 x96 (fun r98 r99 H100 =>
 lkM (fun x : Int => (.int .i64 x : Value)) 0 (some b12) r98 (fun x101 is102 =>
 lkM (fun x : Int => (.int .i64 x : Value)) 0 (some b12) r98 (fun x104 is105 =>
 ldI H100 .i64 ((b91, 0).1, (b91, 0).2 + 1) fun x107 =>
 ift ((decide (((w .i64 (x104 + x107)) : Int) > 0)) && (!(decide ((x101 : Int) > 0))))
 (ldL H100 ((b91, 0).1, (b91, 0).2 + 0) fun x111 =>
 apd (Qa.c Qa.zero) 32 x76.1 ((Qa.c (⟨x111, 1⟩ : Qa)) ++ []) 1 (fun r113 H114 =>
 J80 r113 H114) H100)
 (ift ((decide ((x101 : Int) > 0)) && (!(decide (((w .i64 (x104 + x107)) : Int) > 0))))
 (ldL H100 ((b91, 0).1, (b91, 0).2 + 0) fun x117 =>
 apd (Qa.c Qa.zero) 32 x76.1 ((Qa.c (⟨x117, (-1)⟩ : Qa)) ++ []) 1 (fun r119 H120 =>
 J80 r119 H120) H100)
 (J80 x76.1 H100))) H100) H100) H93) H92) H78))
 (QI C x76.1 (fun r121 r122 H123 =>
 K r121 r122 H123) H78))))))) H15) H13) H10)) H9) H8) H6) H4) H
theorem Qd9 (C p_a p_da K H) (h : Qcj C p_a p_da K H) : Qat C p_a p_da K H := by
 refine Ye Tryz.func17 rfl Tryz.ntmps17 [(0, slv p_a), (1, slv p_da)] (Zo (Za (Za (GL.nil (Zo (Zm (Zm (Zc h QdS ?_))))))))
 rintro _ H4 ⟨r1, r2, r3, rfl, h⟩
 refine Zm (Yv (.agg (Qe.c r1).toArray) rfl rfl (Yv (.agg (Qe.c r2).toArray) rfl rfl (Yv (.int .i64 r3) rfl rfl (GL.alloc (cs := Qe.c Qe.zero) h trivial rfl rfl rfl ?_))))
 intro b5 H6 h
 refine GL.alloc (cs := Qe.c Qe.zero) h trivial rfl rfl rfl ?_
 intro b7 H8 h
 refine GL.storeT (p := (b5, 0)) (vs := Qe.c r1) h trivial rfl rfl rfl rfl ?_
 intro H9 h
 refine GL.storeT (p := (b7, 0)) (vs := Qe.c r2) h trivial rfl rfl rfl rfl ?_
 intro H10 h
 refine Za (GL.nil (GC.seq (Zo (Zm (Zi (.bool ((r3 : Int) != 0)) (GL.nil (Yd h (fun u11 h => ?_) fun u11 h => ?_)))))))
 refine Zo (Zm (Za (Za (GL.nil ?_))))
 exact Y2 I3 ⟨Sl.nil, r3, rfl, h⟩
 refine GC.skip (Zo (GL.makeMap h trivial rfl ?_))
 intro b12 H13 h
 refine Za (GL.nil (Zo (Zv (OV.build (vs := []) (v := .agg (Qc.c (⟨Sl.nil⟩ : Qc)).toArray) rfl (fun _ => by kernel_rfl)) (GL.alloc (cs := Qc.c Qc.zero) h trivial rfl rfl rfl ?_))))
 intro b14 H15 h
 refine GL.storeT (p := (b14, 0)) (vs := Qc.c (⟨Sl.nil⟩ : Qc)) h trivial rfl rfl rfl rfl ?_
 intro H16 h
 refine GL.nil (GC.seq (Zo (Zf (Yl h fun x17 h => ?_))))
 refine Zq (Zm (GL.nil (GC.block (Yp h (fun x19 => [(41, .int .i64 x19), (6, pv (some (b5, 0))), (9, mv (some b12)), (10, pv (some (b14, 0))), (39, slv x17), (40, .int .i64 (Sl.len x17 : Int))]) ?_))))
 intro x19 H21 J20 h
 refine Zo (Zi (.bool (decide ((x19 : Int) < (Sl.len x17 : Int)))) (GL.nil (GC.seq (Yd h (fun u22 h => ?_) fun u22 h => ?_))))
 refine GC.skip (GC.seq (GC.block (Zo (Yx h fun p23 h => ?_))))
 obtain ⟨x28, v29, h⟩ := h
 refine Zv (OV.loadT rfl rfl rfl v29) (GL.alloc (cs := Qa.c Qa.zero) h trivial rfl rfl rfl ?_)
 intro b30 H31 h
 refine GL.storeT (p := (b30, 0)) (vs := Qa.c x28) h trivial rfl rfl rfl rfl ?_
 intro H32 h
 refine GL.nil (Zo ?_)
 obtain ⟨x33, v34, h⟩ := h
 refine Zv (OV.loadT rfl rfl rfl v34) (Zf (Yl h fun x35 h => ?_))
 refine Zc h QbP ?_
 rintro _ H39 ⟨r37, r38, rfl, h⟩
 refine Zm (Yv (sv r37) rfl rfl (Yv (.bool r38) rfl rfl (Za (Za (GL.nil (GC.region (Zm (Zm (GL.mapUpdate (enc := (fun x : Int => (.int .i64 x : Value))) (q := (some b12)) (k := r37) (x := 0) h trivial rfl rfl rfl rfl rfl ?_)))))))))
 intro H40 h
 refine GL.nil_to (fun _ _ h => h) (GC.region (Zi (.int .i64 (w .i64 (x19 + 1))) (Zm ?_)))
 exact Yj I3 (w .i64 (x19 + 1)) h
 refine GC.exit_to (fun _ _ h => h) (GC.seq (Zo (Zf ?_)))
 refine Yl h fun x41 h => ?_
 refine Zq (Zm (GL.nil (GC.block (Yp h (fun x43 => [(58, .int .i64 x43), (6, pv (some (b5, 0))), (9, mv (some b12)), (10, pv (some (b14, 0))), (56, slv x41), (57, .int .i64 (Sl.len x41 : Int))]) ?_))))
 intro x43 H45 J44 h
 refine Zo (Zi (.bool (decide ((x43 : Int) < (Sl.len x41 : Int)))) (GL.nil (GC.seq (Yd h (fun u46 h => ?_) fun u46 h => ?_))))
 refine GC.skip ?_
 obtain ⟨J47, h, hR50⟩ := h
 refine GC.join (α := Unit) J47 (fun _ => [(6, pv (some (b5, 0))), (9, mv (some b12)), (10, pv (some (b14, 0))), (56, slv x41), (57, .int .i64 (Sl.len x41 : Int)), (58, .int .i64 x43)]) ?_ ?_
 refine GC.block (Zo (Yx h fun p51 h => ?_))
 obtain ⟨x56, v57, h⟩ := h
 refine Zv (OV.loadT rfl rfl rfl v57) (GL.alloc (cs := Qa.c Qa.zero) h trivial rfl rfl rfl ?_)
 intro b58 H59 h
 refine GL.storeT (p := (b58, 0)) (vs := Qa.c x56) h trivial rfl rfl rfl rfl ?_
 intro H60 h
 refine GL.nil (Zo ?_)
 obtain ⟨x61, v62, h⟩ := h
 refine Zv (OV.loadT rfl rfl rfl v62) (Zf (Yl h fun x63 h => ?_))
 refine Zc h QbP ?_
 rintro _ H67 ⟨r65, r66, rfl, h⟩
 refine Zm (Yv (sv r65) rfl rfl (Yv (.bool r66) rfl rfl (Za (Za (GL.nil (Zo (Zm ?_)))))))
 obtain ⟨m68, hm69, h⟩ := h
 refine Zv (OV.lenMap (q := (some b12)) (m := m68) hm69 rfl rfl) (Zi (.bool (decide (((m68 : Int) : Int) > 0))) (GL.nil (Yd h (fun u70 h => ?_) fun u70 h => ?_)))
 refine GC.region (Zm (Zm (Zf (Yl h fun x71 h => ?_))))
 refine GL.mapUpdate (enc := (fun x : Int => (.int .i64 x : Value))) (q := (some b12)) (k := r65) (x := x71) h trivial rfl rfl rfl rfl rfl ?_
 intro H73 h
 exact Yj I3 () h
 exact Yk I3 () h
 intro x48 H49 h
 replace h := hR50 x48 H49 h
 refine GC.region (Zi (.int .i64 (w .i64 (x43 + 1))) (Zm ?_))
 exact Yj I3 (w .i64 (x43 + 1)) h
 refine GC.exit_to (fun _ _ h => h) (Zo (Za (GL.nil (GC.seq (Zo (Zf ?_))))))
 refine Yl h fun x74 h => ?_
 refine Zq (Zm (GL.nil (GC.block (Yp h (fun x76 => [(19, slv x76.1), (80, .int .i64 x76.2), (9, mv (some b12)), (10, pv (some (b14, 0))), (78, slv x74), (79, .int .i64 (Sl.len x74 : Int))]) ?_))))
 intro x76 H78 J77 h
 refine Zo (Zi (.bool (decide ((x76.2 : Int) < (Sl.len x74 : Int)))) (GL.nil (GC.seq (Yd h (fun u79 h => ?_) fun u79 h => ?_))))
 refine GC.skip ?_
 obtain ⟨J80, h, hR83⟩ := h
 refine GC.join (α := Sl) J80 (fun x81 => [(19, slv x81), (9, mv (some b12)), (10, pv (some (b14, 0))), (78, slv x74), (79, .int .i64 (Sl.len x74 : Int)), (80, .int .i64 x76.2)]) ?_ ?_
 refine GC.block (Zo (Yx h fun p84 h => ?_))
 obtain ⟨x89, v90, h⟩ := h
 refine Zv (OV.loadT rfl rfl rfl v90) (GL.alloc (cs := Qa.c Qa.zero) h trivial rfl rfl rfl ?_)
 intro b91 H92 h
 refine GL.storeT (p := (b91, 0)) (vs := Qa.c x89) h trivial rfl rfl rfl rfl ?_
 intro H93 h
 refine GL.nil (Zo ?_)
 obtain ⟨x94, v95, h⟩ := h
 refine Zv (OV.loadT rfl rfl rfl v95) (Zf (Yl h fun x96 h => ?_))
 refine Zc h QbP ?_
 rintro _ H100 ⟨r98, r99, rfl, h⟩
 refine Zm (Yv (sv r98) rfl rfl (Yv (.bool r99) rfl rfl (Za (Za (GL.nil (GC.seq (GC.draw (by kernel_rfl) (by kernel_rfl) (GQ.val trivial rfl (OV.move (v := mv (some b12)) rfl) (GQ.val trivial rfl (OV.move (v := sv r98) rfl) ?_)))))))))
 obtain ⟨x101, is102, v103, h⟩ := h
 refine GQ.val trivial rfl (OV.lookup1 (v := .int .i64 x101) (enc := (fun x : Int => (.int .i64 x : Value))) (z := 0) (q := (some b12)) (k := r98) (x := x101) (b := is102) rfl v103 rfl rfl rfl rfl rfl) (GQ.val trivial rfl (OV.ibin (v := .bool (decide ((x101 : Int) > 0))) rfl rfl rfl) (GQ.val trivial rfl (OV.move (v := mv (some b12)) rfl) (GQ.val trivial rfl (OV.move (v := sv r98) rfl) ?_)))
 obtain ⟨x104, is105, v106, h⟩ := h
 refine GQ.val trivial rfl (OV.lookup1 (v := .int .i64 x104) (enc := (fun x : Int => (.int .i64 x : Value))) (z := 0) (q := (some b12)) (k := r98) (x := x104) (b := is105) rfl v106 rfl rfl rfl rfl rfl) (GQ.val trivial rfl (OV.fieldAddr (p := (b91, 0)) rfl rfl) ?_)
 obtain ⟨x107, v108, h⟩ := h
 refine GQ.val trivial rfl (OV.load (p := ((b91, 0).1, (b91, 0).2 + 1)) rfl rfl v108) (GQ.val trivial rfl (OV.ibin (v := .int .i64 (w .i64 (x104 + x107))) rfl rfl rfl) (GQ.val trivial rfl (OV.ibin (v := .bool (decide (((w .i64 (x104 + x107)) : Int) > 0))) rfl rfl rfl) (GQ.val trivial rfl (OV.assign (v := .bool (decide ((x101 : Int) > 0))) rfl) (GQ.val trivial rfl (OV.assign (v := .bool (decide (((w .i64 (x104 + x107)) : Int) > 0))) rfl) (GQ.nil (GL.nil (GC.block (Zo (Zm (Zm ?_))))))))))
 refine GL.cut0 3 [(107, .bool ((decide (((w .i64 (x104 + x107)) : Int) > 0)) && (!(decide ((x101 : Int) > 0))))), (9, mv (some b12)), (10, pv (some (b14, 0))), (19, slv x76.1), (21, pv (some (b91, 0))), (24, .bool (decide ((x101 : Int) > 0))), (25, .bool (decide (((w .i64 (x104 + x107)) : Int) > 0))), (78, slv x74), (79, .int .i64 (Sl.len x74 : Int)), (80, .int .i64 x76.2)] ?_ ?_
 rcases Zb (decide (((w .i64 (x104 + x107)) : Int) > 0)) with u109 | u109
 refine Zu u109 Ym (Zu u109 (OV.not rfl) (Zt u109 ?_))
 exact GL.jump0 (fun _ _ h => h) () rfl ⟨(by rw [u109]; rfl), rfl, rfl, rfl, rfl, rfl, rfl, rfl, rfl, rfl, trivial⟩
 refine Zk u109 (Zk u109 (Zn u109 ?_))
 exact GL.jump0 (fun _ _ h => h) () rfl ⟨(by rw [u109]; rfl), rfl, rfl, rfl, rfl, rfl, rfl, rfl, rfl, rfl, trivial⟩
 refine Za (GL.nil (Yd h (fun u110 h => ?_) fun u110 h => ?_))
 refine GC.region (Zm (Zf (Yl h fun x111 h => ?_)))
 refine Zv (OV.build (vs := [(0, slv x111), (1, .int .i64 1)]) (v := .agg (Qa.c (⟨x111, 1⟩ : Qa)).toArray) rfl (fun _ => by kernel_rfl)) (GL.appendLit (s := x76.1) (ys := (Qa.c (⟨x111, 1⟩ : Qa)) ++ []) (zc := Qa.c Qa.zero) (bytes := 32) h trivial rfl (fun _ => trivial) rfl (fun _ => rfl) (fun _ => rfl) (vs := [(0, .agg (Qa.c (⟨x111, 1⟩ : Qa)).toArray)]) rfl ⟨47, fun _ => by kernel_rfl⟩ ⟨⟨_, _, _, rfl, rfl, rfl, rfl, rfl, rfl⟩⟩ rfl rfl ?_)
 intro _ r113 H114 h
 refine Za ?_
 exact Yj I3 r113 h
 refine Zo (Zm (Zm (GL.cut0 3 [(119, .bool ((decide ((x101 : Int) > 0)) && (!(decide (((w .i64 (x104 + x107)) : Int) > 0))))), (9, mv (some b12)), (10, pv (some (b14, 0))), (19, slv x76.1), (21, pv (some (b91, 0))), (78, slv x74), (79, .int .i64 (Sl.len x74 : Int)), (80, .int .i64 x76.2)] ?_ ?_)))
 rcases Zb (decide ((x101 : Int) > 0)) with u115 | u115
 refine Zu u115 Ym (Zu u115 (OV.not rfl) (Zt u115 ?_))
 exact GL.jump0 (fun _ _ h => h) () rfl ⟨(by rw [u115]; rfl), rfl, rfl, rfl, rfl, rfl, rfl, rfl, trivial⟩
 refine Zk u115 (Zk u115 (Zn u115 ?_))
 exact GL.jump0 (fun _ _ h => h) () rfl ⟨(by rw [u115]; rfl), rfl, rfl, rfl, rfl, rfl, rfl, rfl, trivial⟩
 refine Za (GL.nil (Yd h (fun u116 h => ?_) fun u116 h => ?_))
 refine GC.region (Zm (Zf (Yl h fun x117 h => ?_)))
 refine Zv (OV.build (vs := [(0, slv x117), (1, .int .i64 (-1))]) (v := .agg (Qa.c (⟨x117, (-1)⟩ : Qa)).toArray) rfl (fun _ => by kernel_rfl)) (GL.appendLit (s := x76.1) (ys := (Qa.c (⟨x117, (-1)⟩ : Qa)) ++ []) (zc := Qa.c Qa.zero) (bytes := 32) h trivial rfl (fun _ => trivial) rfl (fun _ => rfl) (fun _ => rfl) (vs := [(0, .agg (Qa.c (⟨x117, (-1)⟩ : Qa)).toArray)]) rfl ⟨47, fun _ => by kernel_rfl⟩ ⟨⟨_, _, _, rfl, rfl, rfl, rfl, rfl, rfl⟩⟩ rfl rfl ?_)
 intro _ r119 H120 h
 refine Za ?_
 exact Yj I3 r119 h
 exact Yk I3 x76.1 h
 intro x81 H82 h
 replace h := hR83 x81 H82 h
 refine GC.region (Zi (.int .i64 (w .i64 (x76.2 + 1))) (Zm ?_))
 exact Yj I3 (x81, (w .i64 (x76.2 + 1))) h
 refine GC.exit_to (fun _ _ h => h) (Zo (Zm (Zc h Q0 ?_)))
 rintro _ H123 ⟨r121, r122, rfl, h⟩
 refine Yv (slv r121) rfl rfl (Yv (.int .i64 r122) rfl rfl (Za (Za (GL.nil ?_))))
 exact Y2 I3 ⟨r121, r122, rfl, h⟩
def Qck (C : Ctx) (p_a : Sl) (p_da : Sl) (K : Sl → Int → Heap → Prop) (H : Heap) : Prop :=
 Qcf C p_a p_da Sl.nil Sl.nil (fun r1 r2 r3 H4 =>
 ift ((r3 : Int) != 0)
 (K Sl.nil r3 H4)
 (QbK C p_a (fun r6 r7 H8 =>
 ift ((r7 : Int) != 0)
 (K Sl.nil r7 H8)
 (QbK C r1 (fun r10 r11 H12 =>
 ift ((r11 : Int) != 0)
 (K Sl.nil r11 H12)
 (QbU C r10 r6 (fun r14 r15 H16 =>
 K r14 r15 H16) H12)) H8)) H4)) H
theorem Qea (C p_a p_da K H) (h : Qck C p_a p_da K H) : Qa7 C p_a p_da K H := by
 refine Ye Tryz.func18 rfl Tryz.ntmps18 [(0, slv p_a), (1, slv p_da)] (Zo (Za (Za (GL.nil (Zo (Zm (Zm (Zc h QdU ?_))))))))
 rintro _ H4 ⟨r1, r2, r3, rfl, h⟩
 refine Zm (Yv (slv r1) rfl rfl (Yv (slv r2) rfl rfl (Yv (.int .i64 r3) rfl rfl (Za (Za (Za (GL.nil (GC.seq (Zo (Zm (Zi (.bool ((r3 : Int) != 0)) (GL.nil (Yd h (fun u5 h => ?_) fun u5 h => ?_)))))))))))))
 refine Zo (Zm (Za (Za (GL.nil ?_))))
 exact Y2 I3 ⟨Sl.nil, r3, rfl, h⟩
 refine GC.skip (Zo (Zm (Zc h Qd2 ?_)))
 rintro _ H8 ⟨r6, r7, rfl, h⟩
 refine Zm (Yv (slv r6) rfl rfl (Yv (.int .i64 r7) rfl rfl (Za (Za (GL.nil (GC.seq (Zo (Zm (Zi (.bool ((r7 : Int) != 0)) (GL.nil (Yd h (fun u9 h => ?_) fun u9 h => ?_)))))))))))
 refine Zo (Zm (Za (Za (GL.nil ?_))))
 exact Y2 I3 ⟨Sl.nil, r7, rfl, h⟩
 refine GC.skip (Zo (Zm (Zc h Qd2 ?_)))
 rintro _ H12 ⟨r10, r11, rfl, h⟩
 refine Zm (Yv (slv r10) rfl rfl (Yv (.int .i64 r11) rfl rfl (Za (Za (GL.nil (GC.seq (Zo (Zm (Zi (.bool ((r11 : Int) != 0)) (GL.nil (Yd h (fun u13 h => ?_) fun u13 h => ?_)))))))))))
 refine Zo (Zm (Za (Za (GL.nil ?_))))
 exact Y2 I3 ⟨Sl.nil, r11, rfl, h⟩
 refine GC.skip (Zo (Zm (Zm (Zc h Qet ?_))))
 rintro _ H16 ⟨r14, r15, rfl, h⟩
 refine Yv (slv r14) rfl rfl (Yv (.int .i64 r15) rfl rfl (Za (Za (GL.nil ?_))))
 exact Y2 I3 ⟨r14, r15, rfl, h⟩
def Qhe (C : Ctx) (p_a : Sl) (p_b : Sl) (K : Bool → Heap → Prop) (H : Heap) : Prop :=
 ift (((Sl.len p_a : Int) : Int) != (Sl.len p_b : Int))
 (K false H)
 (lp (α := Int) 0 H (fun x2 J3 H4 =>
 ift (decide ((x2 : Int) < (Sl.len p_a : Int)))
 (jn (α := Bool) (fun x7 H8 =>
 ift x7
 (K false H8)
 (J3 (w .i64 (x2 + 1)) H8))
 (fun J6 => dr H4 fun Hs10 =>
 ixa p_a x2 fun p12 =>
 ldI Hs10 .i64 ((p12.1, p12.2 + (x2 : Int).toNat * 2).1, (p12.1, p12.2 + (x2 : Int).toNat * 2).2 + 1) fun x17 =>
 ixa p_b x2 fun p19 =>
 ldI Hs10 .i64 ((p19.1, p19.2 + (x2 : Int).toNat * 2).1, (p19.1, p19.2 + (x2 : Int).toNat * 2).2 + 1) fun x24 =>
 ift ((x17 : Int) != x24)
 (J6 true H4)
 (ixa p_a x2 fun p27 =>
 ldL Hs10 ((p27.1, p27.2 + (x2 : Int).toNat * 2).1, (p27.1, p27.2 + (x2 : Int).toNat * 2).2 + 0) fun x32 =>
 ixa p_b x2 fun p34 =>
 ldL Hs10 ((p34.1, p34.2 + (x2 : Int).toNat * 2).1, (p34.1, p34.2 + (x2 : Int).toNat * 2).2 + 0) fun x39 =>
 Qbl C x32 x39 (fun r42 H43 =>
 Heap.le Hs10 H43 ∧
 J6 (!r42) H43) H4)))
 (K true H4)))
theorem Qkd (C p_a p_b K H) (h : Qhe C p_a p_b K H) : Qae C p_a p_b K H := by
 refine Ye Tryz.func19 rfl Tryz.ntmps19 [(0, slv p_a), (1, slv p_b)] (Zo (Za (GL.nil (GC.seq (Zo (Zm (Zq (Zm (Zq (Zi (.bool (((Sl.len p_a : Int) : Int) != (Sl.len p_b : Int))) (GL.nil (Yd h (fun u1 h => ?_) fun u1 h => ?_))))))))))))
 refine Zo (Za (GL.nil ?_))
 exact Y1 I3 ⟨false, rfl, h⟩
 refine GC.skip (GC.seq (Zo (Za (GL.nil (GC.block (Yp h (fun x2 => [(5, .int .i64 x2), (0, slv p_a), (1, slv p_b)]) ?_))))))
 intro x2 H4 J3 h
 refine GC.seq (Zo (Zm (Zm (Zq (Zi (.bool (decide ((x2 : Int) < (Sl.len p_a : Int)))) (GL.nil (Yd h (fun u5 h => ?_) fun u5 h => ?_)))))))
 refine GC.skip (GC.seq (GC.block (GC.seq ?_)))
 obtain ⟨J6, h, hR9⟩ := h
 refine GC.meet (α := Bool) J6 (fun x7 => [(41, .bool x7), (0, slv p_a), (1, slv p_b), (5, .int .i64 x2)]) ?_ ?_
 obtain ⟨Hs10, hle11, h⟩ := h
 refine GC.any (Hs := Hs10) (by kernel_rfl) hle11 (Zp 0 rfl Ym (Zp 1 rfl Ym ?_))
 obtain ⟨p12, ha13, hb14, u15, hd16, h⟩ := h
 refine Zp 2 rfl (OV.indexAddr rfl rfl rfl rfl ha13 hb14 u15 hd16) (Zp 3 rfl Yf ?_)
 obtain ⟨x17, v18, h⟩ := h
 refine Zp 4 rfl (Yo v18) (Zp 5 rfl Ym (Zp 6 rfl Ym ?_))
 obtain ⟨p19, ha20, hb21, u22, hd23, h⟩ := h
 refine Zp 7 rfl (OV.indexAddr rfl rfl rfl rfl ha20 hb21 u22 hd23) (Zp 8 rfl Yf ?_)
 obtain ⟨x24, v25, h⟩ := h
 refine Zp 9 rfl (Yo v25) (Zp 10 rfl (OV.ibin (v := .bool ((x17 : Int) != x24)) rfl rfl rfl) (Zp 11 rfl Ym ?_))
 rcases h.em with ⟨u26, h⟩ | ⟨u26, h⟩
 refine Zj 12 rfl (Yw u26) (Zj 13 rfl (Yw u26) (Zj 14 rfl (Yw u26) (Zj 15 rfl (Yw u26) (Zj 16 rfl (Yw u26) (Zj 17 rfl (Yw u26) (Zj 18 rfl (Yw u26) (Zj 19 rfl (Yw u26) (Zj 20 rfl (Yw u26) (Zj 21 rfl (Yw u26) (Zj 22 rfl (Yw u26) (Zj 23 rfl (Yw u26) (Zp 24 rfl (OV.pickT rfl u26 rfl) (GA.done (by kernel_rfl) ?_)))))))))))))
 exact Yj I3 true h
 refine Zg 12 rfl (Yt u26) Ym (Zg 13 rfl (Yt u26) Ym ?_)
 obtain ⟨p27, ha28, hb29, u30, hd31, h⟩ := h
 refine Zg 14 rfl (Yt u26) (OV.indexAddr rfl rfl rfl rfl ha28 hb29 u30 hd31) (Zg 15 rfl (Yt u26) Yf ?_)
 obtain ⟨x32, v33, h⟩ := h
 refine Zg 16 rfl (Yt u26) (Yo v33) (Zg 17 rfl (Yt u26) Ym (Zg 18 rfl (Yt u26) Ym ?_))
 obtain ⟨p34, ha35, hb36, u37, hd38, h⟩ := h
 refine Zg 19 rfl (Yt u26) (OV.indexAddr rfl rfl rfl rfl ha35 hb36 u37 hd38) (Zg 20 rfl (Yt u26) Yf ?_)
 obtain ⟨x39, v40, h⟩ := h
 refine Zg 21 rfl (Yt u26) (Yo v40) (GA.eff 22 rfl (by kernel_rfl) (GL.call h (Yt u26) rfl QeE (vs := [slv x32, slv x39]) rfl ?_))
 rintro _ H43 ⟨r42, rfl, h⟩
 obtain ⟨hle41, h⟩ := h
 refine GA.back hle41 (Zg 23 rfl (Yt u26) (OV.not rfl) (Zp 24 rfl (OV.pickF rfl u26 rfl) (GA.done (by kernel_rfl) ?_)))
 exact Yj I3 (!r42) h
 intro x7 H8 h
 replace h := hR9 x7 H8 h
 refine GL.nil (Yd h (fun u44 h => ?_) fun u44 h => ?_)
 refine Zo (Za (GL.nil ?_))
 exact Y1 I3 ⟨false, rfl, h⟩
 refine GC.skip_to (fun _ _ h => h) (GC.region (Zm (Zi (.int .i64 (w .i64 (x2 + 1))) (Za ?_))))
 exact Yj I3 (w .i64 (x2 + 1)) h
 refine GC.exit_to (fun _ _ h => h) (Zo (Za (GL.nil ?_)))
 exact Y1 I3 ⟨true, rfl, h⟩
def Qg4 (C : Ctx) (p_l : Sl) (K : Sl → Heap → Prop) (H : Heap) : Prop :=
 lp (α := Sl × Int) (Sl.nil, 0) H (fun x1 J2 H3 =>
 ift (decide ((x1.2 : Int) < (Sl.len p_l : Int)))
 (dr H3 fun Hs5 =>
 ixa p_l x1.2 fun p7 =>
 ldL Hs5 ((p7.1, p7.2 + (x1.2 : Int).toNat * 2).1, (p7.1, p7.2 + (x1.2 : Int).toNat * 2).2 + 0) fun x12 =>
 ixa p_l x1.2 fun p14 =>
 ldI Hs5 .i64 ((p14.1, p14.2 + (x1.2 : Int).toNat * 2).1, (p14.1, p14.2 + (x1.2 : Int).toNat * 2).2 + 1) fun x19 =>
 nw ((Qa.c (⟨x12, x19⟩ : Qa)) ++ []) (fun b22 H23 =>
 Heap.le Hs5 H23 ∧
 apS (Qa.c Qa.zero) 32 x1.1 (Sl.of (some (b22, 0)) 1 1) (fun r25 H26 =>
 Heap.le Hs5 H26 ∧
 J2 (r25, (w .i64 (x1.2 + 1))) H26) H23) H3)
 (K x1.1 H3))
theorem Qj3 (C p_l K H) (h : Qg4 C p_l K H) : Qbk C p_l K H := by
 refine Ye Tryz.func20 rfl Tryz.ntmps20 [(0, slv p_l)] (Zo (Za (GL.nil (Zo (Za (GL.nil (GC.seq (Zo (Za (GL.nil (GC.block (Yp h (fun x1 => [(3, slv x1.1), (4, .int .i64 x1.2), (0, slv p_l)]) ?_))))))))))))
 intro x1 H3 J2 h
 refine GC.seq (Zo (Zm (Zm (Zq (Zi (.bool (decide ((x1.2 : Int) < (Sl.len p_l : Int)))) (GL.nil (Yd h (fun u4 h => ?_) fun u4 h => ?_)))))))
 refine GC.skip (GC.seq (GC.block ?_))
 obtain ⟨Hs5, hle6, h⟩ := h
 refine GC.any (Hs := Hs5) (by kernel_rfl) hle6 (Zp 0 rfl Ym (Zp 1 rfl Ym (Zp 2 rfl Ym ?_)))
 obtain ⟨p7, ha8, hb9, u10, hd11, h⟩ := h
 refine Zp 3 rfl (OV.indexAddr rfl rfl rfl rfl ha8 hb9 u10 hd11) (Zp 4 rfl Yf ?_)
 obtain ⟨x12, v13, h⟩ := h
 refine Zp 5 rfl (Yo v13) (Zp 6 rfl Ym (Zp 7 rfl Ym ?_))
 obtain ⟨p14, ha15, hb16, u17, hd18, h⟩ := h
 refine Zp 8 rfl (OV.indexAddr rfl rfl rfl rfl ha15 hb16 u17 hd18) (Zp 9 rfl Yf ?_)
 obtain ⟨x19, v20, h⟩ := h
 refine Zp 10 rfl (Yo v20) (Zp 11 rfl (OV.build (vs := [(0, slv x12), (1, .int .i64 x19)]) (v := .agg (Qa.c (⟨x12, x19⟩ : Qa)).toArray) rfl (fun _ => by kernel_rfl)) (GA.eff 12 rfl (by kernel_rfl) (GL.buildSlice (cs := (Qa.c (⟨x12, x19⟩ : Qa)) ++ []) h trivial rfl (vs := [(0, .agg (Qa.c (⟨x12, x19⟩ : Qa)).toArray)]) rfl ⟨59, fun _ => by kernel_rfl⟩ ?_)))
 intro b22 H23 h
 obtain ⟨hle21, h⟩ := h
 refine GA.back hle21 (GA.eff 13 rfl (by kernel_rfl) (GL.appendS (s := x1.1) (s2 := (Sl.of (some (b22, 0)) 1 1)) (zc := Qa.c Qa.zero) (bytes := 32) h trivial rfl rfl rfl ⟨⟨_, _, _, rfl, rfl, rfl, rfl, rfl, rfl⟩⟩ rfl ?_))
 intro r25 H26 h
 obtain ⟨hle24, h⟩ := h
 refine GA.back hle24 (Zp 14 rfl Ya (GA.done (by kernel_rfl) (GL.nil_to (fun _ _ h => h) (GC.region (Zm (Zi (.int .i64 (w .i64 (x1.2 + 1))) (Za ?_)))))))
 exact Yj I3 (r25, (w .i64 (x1.2 + 1))) h
 refine GC.exit_to (fun _ _ h => h) (Zo (Zm (Za (GL.nil ?_))))
 exact Y1 I3 ⟨x1.1, rfl, h⟩
def Qg0 (C : Ctx) (p_a : Sl) (p_b : Sl) (p_on : Sl) (K : Sl → Int → Heap → Prop) (H : Heap) : Prop :=
 QI C p_a (fun r1 r2 H3 =>
 ift ((r2 : Int) != 0)
 (K Sl.nil r2 H3)
 (QI C p_b (fun r5 r6 H7 =>
 ift ((r6 : Int) != 0)
 (K Sl.nil r6 H7)
 (Qcv C r1 r5 p_on (fun r9 H10 =>
 QI C r9 (fun r11 r12 H13 =>
 K r11 r12 H13) H10) H7)) H3)) H
theorem QjZ (C p_a p_b p_on K H) (h : Qg0 C p_a p_b p_on K H) : QeX C p_a p_b p_on K H := by
 refine Ye Tryz.func22 rfl Tryz.ntmps22 [(0, slv p_a), (1, slv p_b), (2, slv p_on)] (Zo (Za (Za (GL.nil (Zo (Zm (Zc h Q0 ?_)))))))
 rintro _ H3 ⟨r1, r2, rfl, h⟩
 refine Zm (Yv (slv r1) rfl rfl (Yv (.int .i64 r2) rfl rfl (Za (Za (GL.nil (GC.seq (Zo (Zm (Zi (.bool ((r2 : Int) != 0)) (GL.nil (Yd h (fun u4 h => ?_) fun u4 h => ?_)))))))))))
 refine Zo (Zm (Za (Za (GL.nil ?_))))
 exact Y2 I3 ⟨Sl.nil, r2, rfl, h⟩
 refine GC.skip (Zo (Zm (Zc h Q0 ?_)))
 rintro _ H7 ⟨r5, r6, rfl, h⟩
 refine Zm (Yv (slv r5) rfl rfl (Yv (.int .i64 r6) rfl rfl (Za (Za (GL.nil (GC.seq (Zo (Zm (Zi (.bool ((r6 : Int) != 0)) (GL.nil (Yd h (fun u8 h => ?_) fun u8 h => ?_)))))))))))
 refine Zo (Zm (Za (Za (GL.nil ?_))))
 exact Y2 I3 ⟨Sl.nil, r6, rfl, h⟩
 refine GC.skip (Zo (Zm (Zm (Zm (Zc h Qep ?_)))))
 rintro _ H10 ⟨r9, rfl, h⟩
 refine Zc h Q0 ?_
 rintro _ H13 ⟨r11, r12, rfl, h⟩
 refine Yv (slv r11) rfl rfl (Yv (.int .i64 r12) rfl rfl (Za (Za (GL.nil ?_))))
 exact Y2 I3 ⟨r11, r12, rfl, h⟩
def QgZ (C : Ctx) (p_a : Sl) (p_b : Sl) (p_on : Sl) (K : Sl → Int → Heap → Prop) (H : Heap) : Prop :=
 QI C p_a (fun r1 r2 H3 =>
 ift ((r2 : Int) != 0)
 (K Sl.nil r2 H3)
 (QaL C p_b (fun r5 r6 H7 =>
 ift ((r6 : Int) != 0)
 (K Sl.nil r6 H7)
 (QbS C r1 r5 p_on (fun r9 H10 =>
 QI C r9 (fun r11 r12 H13 =>
 K r11 r12 H13) H10) H7)) H3)) H
theorem QjY (C p_a p_b p_on K H) (h : QgZ C p_a p_b p_on K H) : QeW C p_a p_b p_on K H := by
 refine Ye Tryz.func23 rfl Tryz.ntmps23 [(0, slv p_a), (1, slv p_b), (2, slv p_on)] (Zo (Za (Za (GL.nil (Zo (Zm (Zc h Q0 ?_)))))))
 rintro _ H3 ⟨r1, r2, rfl, h⟩
 refine Zm (Yv (slv r1) rfl rfl (Yv (.int .i64 r2) rfl rfl (Za (Za (GL.nil (GC.seq (Zo (Zm (Zi (.bool ((r2 : Int) != 0)) (GL.nil (Yd h (fun u4 h => ?_) fun u4 h => ?_)))))))))))
 refine Zo (Zm (Za (Za (GL.nil ?_))))
 exact Y2 I3 ⟨Sl.nil, r2, rfl, h⟩
 refine GC.skip (Zo (Zm (Zc h QcL ?_)))
 rintro _ H7 ⟨r5, r6, rfl, h⟩
 refine Zm (Yv (slv r5) rfl rfl (Yv (.int .i64 r6) rfl rfl (Za (Za (GL.nil (GC.seq (Zo (Zm (Zi (.bool ((r6 : Int) != 0)) (GL.nil (Yd h (fun u8 h => ?_) fun u8 h => ?_)))))))))))
 refine Zo (Zm (Za (Za (GL.nil ?_))))
 exact Y2 I3 ⟨Sl.nil, r6, rfl, h⟩
 refine GC.skip (Zo (Zm (Zm (Zm (Zc h Qeo ?_)))))
 rintro _ H10 ⟨r9, rfl, h⟩
 refine Zc h Q0 ?_
 rintro _ H13 ⟨r11, r12, rfl, h⟩
 refine Yv (slv r11) rfl rfl (Yv (.int .i64 r12) rfl rfl (Za (Za (GL.nil ?_))))
 exact Y2 I3 ⟨r11, r12, rfl, h⟩
def QeQ (C : Ctx) (p_l : Sl) (K : Sl → Int → Heap → Prop) (H : Heap) : Prop :=
 QI C p_l (fun r1 r2 H3 =>
 Qs C r1 (.func (.func 49) (List.toArray []) (List.toArray []) : Value) (fun r4 H5 =>
 lp (α := Int) 0 H5 (fun x6 J7 H8 =>
 ift (decide ((x6 : Int) < (Sl.len r4 : Int)))
 (ixa r4 x6 fun p10 =>
 st ((p10.1, p10.2 + (x6 : Int).toNat * 2).1, (p10.1, p10.2 + (x6 : Int).toNat * 2).2 + 1) (.int .i64 1) (fun H15 =>
 J7 (w .i64 (x6 + 1)) H15) H8)
 (K r4 r2 H8))) H3) H
theorem Qh7 (C p_l K H) (h : QeQ C p_l K H) : QaL C p_l K H := by
 refine Ye Tryz.func27 rfl Tryz.ntmps27 [(0, slv p_l)] (Zo (Za (Za (GL.nil (Zo (Zm (Zc h Q0 ?_)))))))
 rintro _ H3 ⟨r1, r2, rfl, h⟩
 refine Zm (Yv (slv r1) rfl rfl (Yv (.int .i64 r2) rfl rfl (Za (Za (GL.nil (Zo (Zm (Zc h Qa2 ?_))))))))
 rintro _ H5 ⟨r4, rfl, h⟩
 refine Za (GL.nil (GC.seq (Zo (Zm (Zq (Zm (GL.nil (GC.block (Yp h (fun x6 => [(16, .int .i64 x6), (4, slv r4), (5, .int .i64 r2), (15, .int .i64 (Sl.len r4 : Int))]) ?_)))))))))
 intro x6 H8 J7 h
 refine Zo (Zi (.bool (decide ((x6 : Int) < (Sl.len r4 : Int)))) (GL.nil (GC.seq (Yd h (fun u9 h => ?_) fun u9 h => ?_))))
 refine GC.skip (GC.seq (GC.block (Zo (Zm (Za (GL.nil (GC.region (Zm (Zm (Yx h fun p10 h => ?_))))))))))
 refine Zf (GL.store (p := ((p10.1, p10.2 + (x6 : Int).toNat * 2).1, (p10.1, p10.2 + (x6 : Int).toNat * 2).2 + 1)) (v := .int .i64 1) h trivial rfl rfl rfl rfl ?_)
 intro H15 h
 refine GL.nil_to (fun _ _ h => h) (GC.region (Zi (.int .i64 (w .i64 (x6 + 1))) (Zm ?_)))
 exact Yj I3 (w .i64 (x6 + 1)) h
 refine GC.exit_to (fun _ _ h => h) (Zo (Zm (Zm (Za (Za (GL.nil ?_))))))
 exact Y2 I3 ⟨r4, r2, rfl, h⟩
def QfP (C : Ctx) (p_l : Sl) (K : Bool → Heap → Prop) (H : Heap) : Prop :=
 lp (α := Int × Int) ((Sl.len p_l : Int), 0) H (fun x1 J2 H3 =>
 ift ((decide ((x1.2 : Int) < (Sl.len p_l : Int))) && (decide ((x1.1 : Int) < 120)))
 (ixa p_l x1.2 fun p6 =>
 ldL H3 ((p6.1, p6.2 + (x1.2 : Int).toNat * 2).1, (p6.1, p6.2 + (x1.2 : Int).toNat * 2).2 + 0) fun x11 =>
 lp (α := Int × Int) ((w .i64 (x1.1 + (Sl.len x11 : Int))), 0) H3 (fun x13 J14 H15 =>
 ixa p_l x1.2 fun p16 =>
 ldL H15 ((p16.1, p16.2 + (x1.2 : Int).toNat * 2).1, (p16.1, p16.2 + (x1.2 : Int).toNat * 2).2 + 0) fun x21 =>
 ift ((decide ((x13.2 : Int) < (Sl.len x21 : Int))) && (decide ((x13.1 : Int) < 120)))
 (ixa p_l x1.2 fun p25 =>
 ldL H15 ((p25.1, p25.2 + (x1.2 : Int).toNat * 2).1, (p25.1, p25.2 + (x1.2 : Int).toNat * 2).2 + 0) fun x30 =>
 ixa x30 x13.2 fun p32 =>
 ldT H15 Qb.c (p32.1, p32.2 + (x13.2 : Int).toNat * 4) fun x37 =>
 Qac C x37 120 (fun r39 H40 =>
 J14 ((w .i64 (x13.1 + r39)), (w .i64 (x13.2 + 1))) H40) H15)
 (J2 (x13.1, (w .i64 (x1.2 + 1))) H15)))
 (K (decide ((x1.1 : Int) ≥ 120)) H3))
theorem Qi9 (C p_l K H) (h : QfP C p_l K H) : Qbu C p_l K H := by
 refine Ye Tryz.func28 rfl Tryz.ntmps28 [(0, slv p_l)] (Zo (Za (GL.nil (Zo (Zm (Zq (Za (GL.nil (GC.seq (Zo (Za (GL.nil (GC.block (Yp h (fun x1 => [(3, .int .i64 x1.1), (4, .int .i64 x1.2), (0, slv p_l)]) ?_))))))))))))))
 intro x1 H3 J2 h
 refine GC.seq (Zo (Zm (Zm (Zq (Zi (.bool (decide ((x1.2 : Int) < (Sl.len p_l : Int)))) (Zm (GL.cut0 3 [(15, .bool ((decide ((x1.2 : Int) < (Sl.len p_l : Int))) && (decide ((x1.1 : Int) < 120)))), (0, slv p_l), (3, .int .i64 x1.1), (4, .int .i64 x1.2)] ?_ ?_)))))))
 rcases Zb (decide ((x1.2 : Int) < (Sl.len p_l : Int))) with u4 | u4
 refine Zu u4 Ym (Zu u4 (OV.ibin (v := .bool (decide ((x1.1 : Int) < 120))) rfl rfl rfl) (Zt u4 ?_))
 exact GL.jump0 (fun _ _ h => h) () rfl ⟨(by rw [u4]; rfl), rfl, rfl, rfl, trivial⟩
 refine Zk u4 (Zk u4 (Zn u4 ?_))
 exact GL.jump0 (fun _ _ h => h) () rfl ⟨(by rw [u4]; rfl), rfl, rfl, rfl, trivial⟩
 refine GL.nil (Yd h (fun u5 h => ?_) fun u5 h => ?_)
 refine GC.skip (GC.seq (GC.block (Zo (Zm (Zm (Zm (Yx h fun p6 h => ?_)))))))
 refine Zf (Yl h fun x11 h => ?_)
 refine Zq (Zi (.int .i64 (w .i64 (x1.1 + (Sl.len x11 : Int)))) (Za (GL.nil (Zo (Za (GL.nil (GC.block (Yp h (fun x13 => [(3, .int .i64 x13.1), (5, .int .i64 x13.2), (0, slv p_l), (4, .int .i64 x1.2)]) ?_))))))))
 intro x13 H15 J14 h
 refine GC.seq (Zo (Zm (Zm (Zm (Yx h fun p16 h => ?_)))))
 refine Zf (Yl h fun x21 h => ?_)
 refine Zq (Zi (.bool (decide ((x13.2 : Int) < (Sl.len x21 : Int)))) (Zm (GL.cut0 3 [(37, .bool ((decide ((x13.2 : Int) < (Sl.len x21 : Int))) && (decide ((x13.1 : Int) < 120)))), (0, slv p_l), (3, .int .i64 x13.1), (4, .int .i64 x1.2), (5, .int .i64 x13.2)] ?_ ?_)))
 rcases Zb (decide ((x13.2 : Int) < (Sl.len x21 : Int))) with u23 | u23
 refine Zu u23 Ym (Zu u23 (OV.ibin (v := .bool (decide ((x13.1 : Int) < 120))) rfl rfl rfl) (Zt u23 ?_))
 exact GL.jump0 (fun _ _ h => h) () rfl ⟨(by rw [u23]; rfl), rfl, rfl, rfl, rfl, trivial⟩
 refine Zk u23 (Zk u23 (Zn u23 ?_))
 exact GL.jump0 (fun _ _ h => h) () rfl ⟨(by rw [u23]; rfl), rfl, rfl, rfl, rfl, trivial⟩
 refine GL.nil (Yd h (fun u24 h => ?_) fun u24 h => ?_)
 refine GC.skip (GC.seq (GC.block (GC.region (Zm (Zm (Zm (Yx h fun p25 h => ?_)))))))
 refine Zf (Yl h fun x30 h => ?_)
 refine Zm (Yx h fun p32 h => ?_)
 obtain ⟨x37, v38, h⟩ := h
 refine Zv (OV.loadT rfl rfl rfl v38) (Zc h Qe6 ?_)
 rintro _ H40 ⟨r39, rfl, h⟩
 refine Zi (.int .i64 (w .i64 (x13.1 + r39))) (Za (GL.nil_to (fun _ _ h => h) (GC.region (Zm (Zi (.int .i64 (w .i64 (x13.2 + 1))) (Za ?_))))))
 exact Yj I3 ((w .i64 (x13.1 + r39)), (w .i64 (x13.2 + 1))) h
 refine GC.exit_to (fun _ _ h => h) (GC.region (Zm (Zi (.int .i64 (w .i64 (x1.2 + 1))) (Za ?_))))
 exact Yj I3 (x13.1, (w .i64 (x1.2 + 1))) h
 refine GC.exit_to (fun _ _ h => h) (Zo (Zm (Zi (.bool (decide ((x1.1 : Int) ≥ 120))) (Za (GL.nil ?_)))))
 exact Y1 I3 ⟨(decide ((x1.1 : Int) ≥ 120)), rfl, h⟩
def QeL (C : Ctx) (p_n : Int) (K : Qb → Heap → Prop) (H : Heap) : Prop :=
 nw (Qb.c Qb.zero) (fun b1 H2 =>
 stT (b1, 0) (Qb.c (⟨2, p_n, [], Sl.nil⟩ : Qb)) (fun H3 =>
 ldT H3 Qb.c (b1, 0) fun x4 =>
 K x4 H3) H2) H
theorem Qh2 (C p_n K H) (h : QeL C p_n K H) : Qar C p_n K H := by
 refine Ye Tryz.func29 rfl Tryz.ntmps29 [(0, .int .i64 p_n)] (Zo (GL.alloc (cs := Qb.c Qb.zero) h trivial rfl rfl rfl ?_))
 intro b1 H2 h
 refine GL.nil (Zo (Zm (Zv (OV.build (vs := [(0, .int .u8 2), (1, .int .i64 p_n)]) (v := .agg (Qb.c (⟨2, p_n, [], Sl.nil⟩ : Qb)).toArray) rfl (fun _ => by kernel_rfl)) (GL.storeT (p := (b1, 0)) (vs := Qb.c (⟨2, p_n, [], Sl.nil⟩ : Qb)) h trivial rfl rfl rfl rfl ?_))))
 intro H3 h
 refine GL.nil ?_
 obtain ⟨x4, v5, h⟩ := h
 exact GC.ret (fun _ _ hf hs => Qlu rfl (RV.cellT (p := (b1, 0)) (cs := Qb.c x4) rfl rfl rfl v5) hf hs ⟨x4, rfl, h⟩)
def QeM (C : Ctx) (p_s : Str) (K : Qb → Heap → Prop) (H : Heap) : Prop :=
 nw (Qb.c Qb.zero) (fun b1 H2 =>
 stT (b1, 0) (Qb.c (⟨4, 0, p_s, Sl.nil⟩ : Qb)) (fun H3 =>
 ldT H3 Qb.c (b1, 0) fun x4 =>
 K x4 H3) H2) H
theorem Qh3 (C p_s K H) (h : QeM C p_s K H) : Qbj C p_s K H := by
 refine Ye Tryz.func30 rfl Tryz.ntmps30 [(0, sv p_s)] (Zo (GL.alloc (cs := Qb.c Qb.zero) h trivial rfl rfl rfl ?_))
 intro b1 H2 h
 refine GL.nil (Zo (Zm (Zv (OV.build (vs := [(0, .int .u8 4), (2, sv p_s)]) (v := .agg (Qb.c (⟨4, 0, p_s, Sl.nil⟩ : Qb)).toArray) rfl (fun _ => by kernel_rfl)) (GL.storeT (p := (b1, 0)) (vs := Qb.c (⟨4, 0, p_s, Sl.nil⟩ : Qb)) h trivial rfl rfl rfl rfl ?_))))
 intro H3 h
 refine GL.nil ?_
 obtain ⟨x4, v5, h⟩ := h
 exact GC.ret (fun _ _ hf hs => Qlu rfl (RV.cellT (p := (b1, 0)) (cs := Qb.c x4) rfl rfl rfl v5) hf hs ⟨x4, rfl, h⟩)
def QhQ (C : Ctx) (p_l : Sl) (K : Sl → Heap → Prop) (H : Heap) : Prop :=
 lp (α := Sl × Int) (Sl.nil, 0) H (fun x1 J2 H3 =>
 ift (decide ((x1.2 : Int) < (Sl.len p_l : Int)))
 (ixa p_l x1.2 fun p5 =>
 ldT H3 Qb.c (p5.1, p5.2 + (x1.2 : Int).toNat * 4) fun x10 =>
 nw (Qb.c Qb.zero) (fun b12 H13 =>
 stT (b12, 0) (Qb.c x10) (fun H14 =>
 ldL H14 ((b12, 0).1, (b12, 0).2 + 3) fun x15 =>
 QaS C x15 (fun r17 H18 =>
 st ((b12, 0).1, (b12, 0).2 + 3) (slv r17) (fun H19 =>
 ldT H19 Qb.c (b12, 0) fun x20 =>
 apd (Qb.c Qb.zero) 56 x1.1 ((Qb.c x20) ++ []) 1 (fun r22 H23 =>
 J2 (r22, (w .i64 (x1.2 + 1))) H23) H19) H18) H14) H13) H3)
 (K x1.1 H3))
theorem Qk0 (C p_l K H) (h : QhQ C p_l K H) : QaS C p_l K H := by
 refine Ye Tryz.func31 rfl Tryz.ntmps31 [(0, slv p_l)] (Zo (Za (GL.nil (Zo (Za (GL.nil (GC.seq (Zo (Za (GL.nil (GC.block (Yp h (fun x1 => [(3, slv x1.1), (4, .int .i64 x1.2), (0, slv p_l)]) ?_))))))))))))
 intro x1 H3 J2 h
 refine GC.seq (Zo (Zm (Zm (Zq (Zi (.bool (decide ((x1.2 : Int) < (Sl.len p_l : Int)))) (GL.nil (Yd h (fun u4 h => ?_) fun u4 h => ?_)))))))
 refine GC.skip (GC.seq (GC.block (Zo (Zm (Zm (Yx h fun p5 h => ?_))))))
 obtain ⟨x10, v11, h⟩ := h
 refine Zv (OV.loadT rfl rfl rfl v11) (GL.alloc (cs := Qb.c Qb.zero) h trivial rfl rfl rfl ?_)
 intro b12 H13 h
 refine GL.storeT (p := (b12, 0)) (vs := Qb.c x10) h trivial rfl rfl rfl rfl ?_
 intro H14 h
 refine GL.nil (Zo (Zf (Yl h fun x15 h => ?_)))
 refine Zc h Qe7 ?_
 rintro _ H18 ⟨r17, rfl, h⟩
 refine Zf (GL.store (p := ((b12, 0).1, (b12, 0).2 + 3)) (v := slv r17) h trivial rfl rfl rfl rfl ?_)
 intro H19 h
 refine GL.nil (GC.region (Zm ?_))
 obtain ⟨x20, v21, h⟩ := h
 refine Zv (OV.loadT rfl rfl rfl v21) (GL.appendLit (s := x1.1) (ys := (Qb.c x20) ++ []) (zc := Qb.c Qb.zero) (bytes := 56) h trivial rfl (fun _ => trivial) rfl (fun _ => rfl) (fun _ => rfl) (vs := [(0, .agg (Qb.c x20).toArray)]) rfl ⟨44, fun _ => by kernel_rfl⟩ ⟨⟨_, _, _, rfl, rfl, rfl, rfl, rfl, rfl⟩⟩ rfl rfl ?_)
 intro _ r22 H23 h
 refine Za (GL.nil_to (fun _ _ h => h) (GC.region (Zm (Zi (.int .i64 (w .i64 (x1.2 + 1))) (Za ?_)))))
 exact Yj I3 (r22, (w .i64 (x1.2 + 1))) h
 refine GC.exit_to (fun _ _ h => h) (Zo (Zm (Za (GL.nil ?_))))
 exact Y1 I3 ⟨x1.1, rfl, h⟩
def QfL (C : Ctx) (p_a : Sl) (p_da : Sl) (p_b : Sl) (p_db : Sl) (K : Qe → Qe → Int → Heap → Prop) (H : Heap) : Prop :=
 nw (Qe.c Qe.zero) (fun b1 H2 =>
 nw (Qe.c Qe.zero) (fun b3 H4 =>
 nw ((Qd.c (⟨p_a, (some ((b1, 0).1, (b1, 0).2 + 0))⟩ : Qd)) ++ (Qd.c (⟨p_da, (some ((b1, 0).1, (b1, 0).2 + 1))⟩ : Qd)) ++ (Qd.c (⟨p_b, (some ((b3, 0).1, (b3, 0).2 + 0))⟩ : Qd)) ++ (Qd.c (⟨p_db, (some ((b3, 0).1, (b3, 0).2 + 1))⟩ : Qd)) ++ []) (fun b5 H6 =>
 lp (α := Int) 0 H6 (fun x7 J8 H9 =>
 ift (decide ((x7 : Int) < (Sl.len (Sl.of (some (b5, 0)) 4 4) : Int)))
 (ixa (Sl.of (some (b5, 0)) 4 4) x7 fun p11 =>
 ldT H9 Qd.c (p11.1, p11.2 + (x7 : Int).toNat * 2) fun x16 =>
 nw (Qd.c Qd.zero) (fun b18 H19 =>
 stT (b18, 0) (Qd.c x16) (fun H20 =>
 dr H20 fun Hs21 =>
 ldP Hs21 ((b18, 0).1, (b18, 0).2 + 1) fun x23 =>
 ldL Hs21 ((b18, 0).1, (b18, 0).2 + 0) fun x25 =>
 QI C x25 (fun r28 r29 H30 =>
 Heap.le Hs21 H30 ∧
 nck x23 fun p31 =>
 st p31 (slv r28) (fun H34 =>
 Heap.le Hs21 H34 ∧
 ift ((r29 : Int) != 0)
 (ldT H34 Qe.c (b1, 0) fun x36 =>
 ldT H34 Qe.c (b3, 0) fun x38 =>
 stT (b1, 0) (Qe.c x36) (fun H40 =>
 stT (b3, 0) (Qe.c x38) (fun H41 =>
 ldT H41 Qe.c (b1, 0) fun x42 => ldT H41 Qe.c (b3, 0) fun x44 =>
 K x42 x44 r29 H41) H40) H34)
 (J8 (w .i64 (x7 + 1)) H34)) H30) H20) H19) H9)
 (QcZ C p_a p_da (fun r46 r47 H48 =>
 st ((b1, 0).1, (b1, 0).2 + 2) (slv r46) (fun H49 =>
 ift ((r47 : Int) != 0)
 (ldT H49 Qe.c (b1, 0) fun x51 =>
 ldT H49 Qe.c (b3, 0) fun x53 =>
 stT (b1, 0) (Qe.c x51) (fun H55 =>
 stT (b3, 0) (Qe.c x53) (fun H56 =>
 ldT H56 Qe.c (b1, 0) fun x57 => ldT H56 Qe.c (b3, 0) fun x59 =>
 K x57 x59 r47 H56) H55) H49)
 (QcZ C p_b p_db (fun r61 r62 H63 =>
 st ((b3, 0).1, (b3, 0).2 + 2) (slv r61) (fun H64 =>
 ldT H64 Qe.c (b1, 0) fun x65 =>
 ldT H64 Qe.c (b3, 0) fun x67 =>
 stT (b1, 0) (Qe.c x65) (fun H69 =>
 stT (b3, 0) (Qe.c x67) (fun H70 =>
 ldT H70 Qe.c (b1, 0) fun x71 => ldT H70 Qe.c (b3, 0) fun x73 =>
 K x71 x73 r62 H70) H69) H64) H63) H49)) H48) H9))) H4) H2) H
theorem Qi5 (C p_a p_da p_b p_db K H) (h : QfL C p_a p_da p_b p_db K H) : Qb7 C p_a p_da p_b p_db K H := by
 refine Ye Tryz.func32 rfl Tryz.ntmps32 [(0, slv p_a), (1, slv p_da), (2, slv p_b), (3, slv p_db)] (Zo (GL.alloc (cs := Qe.c Qe.zero) h trivial rfl rfl rfl ?_))
 intro b1 H2 h
 refine GL.alloc (cs := Qe.c Qe.zero) h trivial rfl rfl rfl ?_
 intro b3 H4 h
 refine Za (GL.nil (GC.seq (Zo (Zm (Zf (Zv (OV.build (vs := [(0, slv p_a), (1, pv (some ((b1, 0).1, (b1, 0).2 + 0)))]) (v := .agg (Qd.c (⟨p_a, (some ((b1, 0).1, (b1, 0).2 + 0))⟩ : Qd)).toArray) rfl (fun _ => by kernel_rfl)) (Zm (Zf (Zv (OV.build (vs := [(0, slv p_da), (1, pv (some ((b1, 0).1, (b1, 0).2 + 1)))]) (v := .agg (Qd.c (⟨p_da, (some ((b1, 0).1, (b1, 0).2 + 1))⟩ : Qd)).toArray) rfl (fun _ => by kernel_rfl)) (Zm (Zf ?_)))))))))))
 refine Zv (OV.build (vs := [(0, slv p_b), (1, pv (some ((b3, 0).1, (b3, 0).2 + 0)))]) (v := .agg (Qd.c (⟨p_b, (some ((b3, 0).1, (b3, 0).2 + 0))⟩ : Qd)).toArray) rfl (fun _ => by kernel_rfl)) (Zm (Zf (Zv (OV.build (vs := [(0, slv p_db), (1, pv (some ((b3, 0).1, (b3, 0).2 + 1)))]) (v := .agg (Qd.c (⟨p_db, (some ((b3, 0).1, (b3, 0).2 + 1))⟩ : Qd)).toArray) rfl (fun _ => by kernel_rfl)) (GL.buildSlice (cs := (Qd.c (⟨p_a, (some ((b1, 0).1, (b1, 0).2 + 0))⟩ : Qd)) ++ (Qd.c (⟨p_da, (some ((b1, 0).1, (b1, 0).2 + 1))⟩ : Qd)) ++ (Qd.c (⟨p_b, (some ((b3, 0).1, (b3, 0).2 + 0))⟩ : Qd)) ++ (Qd.c (⟨p_db, (some ((b3, 0).1, (b3, 0).2 + 1))⟩ : Qd)) ++ []) h trivial rfl (vs := [(0, .agg (Qd.c (⟨p_a, (some ((b1, 0).1, (b1, 0).2 + 0))⟩ : Qd)).toArray), (1, .agg (Qd.c (⟨p_da, (some ((b1, 0).1, (b1, 0).2 + 1))⟩ : Qd)).toArray), (2, .agg (Qd.c (⟨p_b, (some ((b3, 0).1, (b3, 0).2 + 0))⟩ : Qd)).toArray), (3, .agg (Qd.c (⟨p_db, (some ((b3, 0).1, (b3, 0).2 + 1))⟩ : Qd)).toArray)]) rfl ⟨84, fun _ => by kernel_rfl⟩ ?_))))
 intro b5 H6 h
 refine Zq (Zm (GL.nil (GC.block (Yp h (fun x7 => [(27, .int .i64 x7), (0, slv p_a), (1, slv p_da), (2, slv p_b), (3, slv p_db), (8, pv (some (b1, 0))), (9, pv (some (b3, 0))), (25, slv (Sl.of (some (b5, 0)) 4 4)), (26, .int .i64 (Sl.len (Sl.of (some (b5, 0)) 4 4) : Int))]) ?_))))
 intro x7 H9 J8 h
 refine Zo (Zi (.bool (decide ((x7 : Int) < (Sl.len (Sl.of (some (b5, 0)) 4 4) : Int)))) (GL.nil (GC.seq (Yd h (fun u10 h => ?_) fun u10 h => ?_))))
 refine GC.skip (GC.seq (GC.block (Zo (Yx h fun p11 h => ?_))))
 obtain ⟨x16, v17, h⟩ := h
 refine Zv (OV.loadT rfl rfl rfl v17) (GL.alloc (cs := Qd.c Qd.zero) h trivial rfl rfl rfl ?_)
 intro b18 H19 h
 refine GL.storeT (p := (b18, 0)) (vs := Qd.c x16) h trivial rfl rfl rfl rfl ?_
 intro H20 h
 refine GL.nil (GC.seq ?_)
 obtain ⟨Hs21, hle22, h⟩ := h
 refine GC.any (Hs := Hs21) (by kernel_rfl) hle22 (Zp 0 rfl Yf ?_)
 obtain ⟨x23, v24, h⟩ := h
 refine Zp 1 rfl (Yo v24) (Zp 2 rfl Yf ?_)
 obtain ⟨x25, v26, h⟩ := h
 refine Zp 3 rfl (Yo v26) (GA.eff 4 rfl (by kernel_rfl) (Zc h Q0 ?_))
 rintro _ H30 ⟨r28, r29, rfl, h⟩
 obtain ⟨hle27, h⟩ := h
 refine GA.back hle27 (Zp 5 rfl Ym (Zp 6 rfl (OV.extract (v := slv r28) rfl rfl) (Zp 7 rfl (OV.extract (v := .int .i64 r29) rfl rfl) ?_)))
 obtain ⟨p31, hp32, h⟩ := h
 refine Zp 8 rfl (OV.nilCheck (q := x23) rfl hp32) (GA.eff 9 rfl (by kernel_rfl) (GL.store (p := p31) (v := slv r28) h trivial rfl rfl rfl rfl ?_))
 intro H34 h
 obtain ⟨hle33, h⟩ := h
 refine GA.back hle33 (Zp 10 rfl Ya (GA.done (by kernel_rfl) (GL.nil (Zo (Zm (Zi (.bool ((r29 : Int) != 0)) (GL.nil (Yd h (fun u35 h => ?_) fun u35 h => ?_))))))))
 refine Zo ?_
 obtain ⟨x36, v37, h⟩ := h
 refine Zv (OV.loadT rfl rfl rfl v37) ?_
 obtain ⟨x38, v39, h⟩ := h
 refine Zv (OV.loadT rfl rfl rfl v39) (Zm (GL.storeT (p := (b1, 0)) (vs := Qe.c x36) h trivial rfl rfl rfl rfl ?_))
 intro H40 h
 refine GL.storeT (p := (b3, 0)) (vs := Qe.c x38) h trivial rfl rfl rfl rfl ?_
 intro H41 h
 refine Za (GL.nil ?_)
 obtain ⟨x42, v43, h⟩ := h
 obtain ⟨x44, v45, h⟩ := h
 exact GC.ret (fun _ _ hf hs => QiR rfl (RV.cellT (p := (b1, 0)) (cs := Qe.c x42) rfl rfl rfl v43) (RV.cellT (p := (b3, 0)) (cs := Qe.c x44) rfl rfl rfl v45) (RV.tmp rfl) hf hs ⟨x42, x44, r29, rfl, h⟩)
 refine GC.skip_to (fun _ _ h => h) (GC.region (Zi (.int .i64 (w .i64 (x7 + 1))) (Zm ?_)))
 exact Yj I3 (w .i64 (x7 + 1)) h
 refine GC.exit_to (fun _ _ h => h) (GC.seq (Zo (Zm (Zm (Zc h QiM ?_)))))
 rintro _ H48 ⟨r46, r47, rfl, h⟩
 refine Zm (Yv (slv r46) rfl rfl (Yv (.int .i64 r47) rfl rfl (Zf (GL.store (p := ((b1, 0).1, (b1, 0).2 + 2)) (v := slv r46) h trivial rfl rfl rfl rfl ?_))))
 intro H49 h
 refine Za (GL.nil (Zo (Zm (Zi (.bool ((r47 : Int) != 0)) (GL.nil (Yd h (fun u50 h => ?_) fun u50 h => ?_))))))
 refine Zo ?_
 obtain ⟨x51, v52, h⟩ := h
 refine Zv (OV.loadT rfl rfl rfl v52) ?_
 obtain ⟨x53, v54, h⟩ := h
 refine Zv (OV.loadT rfl rfl rfl v54) (Zm (GL.storeT (p := (b1, 0)) (vs := Qe.c x51) h trivial rfl rfl rfl rfl ?_))
 intro H55 h
 refine GL.storeT (p := (b3, 0)) (vs := Qe.c x53) h trivial rfl rfl rfl rfl ?_
 intro H56 h
 refine Za (GL.nil ?_)
 obtain ⟨x57, v58, h⟩ := h
 obtain ⟨x59, v60, h⟩ := h
 exact GC.ret (fun _ _ hf hs => QiR rfl (RV.cellT (p := (b1, 0)) (cs := Qe.c x57) rfl rfl rfl v58) (RV.cellT (p := (b3, 0)) (cs := Qe.c x59) rfl rfl rfl v60) (RV.tmp rfl) hf hs ⟨x57, x59, r47, rfl, h⟩)
 refine GC.skip (Zo (Zm (Zm (Zc h QiM ?_))))
 rintro _ H63 ⟨r61, r62, rfl, h⟩
 refine Zm (Yv (slv r61) rfl rfl (Yv (.int .i64 r62) rfl rfl (Zf (GL.store (p := ((b3, 0).1, (b3, 0).2 + 2)) (v := slv r61) h trivial rfl rfl rfl rfl ?_))))
 intro H64 h
 refine Za (GL.nil (Zo ?_))
 obtain ⟨x65, v66, h⟩ := h
 refine Zv (OV.loadT rfl rfl rfl v66) ?_
 obtain ⟨x67, v68, h⟩ := h
 refine Zv (OV.loadT rfl rfl rfl v68) (Zm (GL.storeT (p := (b1, 0)) (vs := Qe.c x65) h trivial rfl rfl rfl rfl ?_))
 intro H69 h
 refine GL.storeT (p := (b3, 0)) (vs := Qe.c x67) h trivial rfl rfl rfl rfl ?_
 intro H70 h
 refine Za (GL.nil ?_)
 obtain ⟨x71, v72, h⟩ := h
 obtain ⟨x73, v74, h⟩ := h
 exact GC.ret (fun _ _ hf hs => QiR rfl (RV.cellT (p := (b1, 0)) (cs := Qe.c x71) rfl rfl rfl v72) (RV.cellT (p := (b3, 0)) (cs := Qe.c x73) rfl rfl rfl v74) (RV.tmp rfl) hf hs ⟨x71, x73, r62, rfl, h⟩)
def Qhn (C : Ctx) (p_l : Sl) (K : Sl → Int → Heap → Prop) (H : Heap) : Prop :=
 nw ((Qf.c (⟨p_l, (.func (.func 52) (List.toArray []) (List.toArray []) : Value)⟩ : Qf)) ++ []) (fun b1 H2 =>
 Qc7 C (Sl.of (some (b1, 0)) 1 1) (fun r3 r4 H5 =>
 K r3 r4 H5) H2) H
theorem Qkm (C p_l K H) (h : Qhn C p_l K H) : QI C p_l K H := by
 refine Ye Tryz.func33 rfl Tryz.ntmps33 [(0, slv p_l)] (Zo (Za (Za (GL.nil (Zo (Zm (Zv (OV.build (vs := [(0, slv p_l), (1, .func (.func 52) (List.toArray []) (List.toArray []))]) (v := .agg (Qf.c (⟨p_l, (.func (.func 52) (List.toArray []) (List.toArray []) : Value)⟩ : Qf)).toArray) rfl (fun _ => by kernel_rfl)) (GL.buildSlice (cs := (Qf.c (⟨p_l, (.func (.func 52) (List.toArray []) (List.toArray []) : Value)⟩ : Qf)) ++ []) h trivial rfl (vs := [(0, .agg (Qf.c (⟨p_l, (.func (.func 52) (List.toArray []) (List.toArray []) : Value)⟩ : Qf)).toArray)]) rfl ⟨89, fun _ => by kernel_rfl⟩ ?_))))))))
 intro b1 H2 h
 refine Zc h Qfc ?_
 rintro _ H5 ⟨r3, r4, rfl, h⟩
 refine Yv (slv r3) rfl rfl (Yv (.int .i64 r4) rfl rfl (Za (Za (GL.nil ?_))))
 exact Y2 I3 ⟨r3, r4, rfl, h⟩
def Qg3 (C : Ctx) (p_a : Sl) (p_b : Sl) (p_on : Sl) (K : Sl → Heap → Prop) (H : Heap) : Prop :=
 QcU C p_on (fun r1 r2 H3 =>
 nw (Qc.c Qc.zero) (fun b4 H5 =>
 nw (Qc.c Qc.zero) (fun b6 H7 =>
 stT (b4, 0) (Qc.c r1) (fun H8 =>
 stT (b6, 0) (Qc.c r2) (fun H9 =>
 ldT H9 Qc.c (b6, 0) fun x10 =>
 Qb8 C x10 p_b (fun r12 H13 =>
 lp (α := Sl × Int) (Sl.nil, 0) H13 (fun x14 J15 H16 =>
 ift (decide ((x14.2 : Int) < (Sl.len p_a : Int)))
 (jn (α := Sl) (fun x19 H20 =>
 J15 (x19, (w .i64 (x14.2 + 1))) H20)
 (fun J18 => ixa p_a x14.2 fun p22 =>
 ldT H16 Qa.c (p22.1, p22.2 + (x14.2 : Int).toNat * 2) fun x27 =>
 nw (Qa.c Qa.zero) (fun b29 H30 =>
 stT (b29, 0) (Qa.c x27) (fun H31 =>
 ldT H31 Qc.c (b4, 0) fun x32 =>
 ldL H31 ((b29, 0).1, (b29, 0).2 + 0) fun x34 =>
 Qax C x32 x34 (fun r36 r37 H38 =>
 ift (!r37)
 (J18 x14.1 H38)
 (lkM (fun x : Sl => (slv x : Value)) Sl.nil r12 r36 (fun x40 is41 =>
 lp (α := Sl × Int) (x14.1, 0) H38 (fun x43 J44 H45 =>
 ift (decide ((x43.2 : Int) < (Sl.len x40 : Int)))
 (ixa x40 x43.2 fun p47 =>
 ldT H45 Qa.c (p47.1, p47.2 + (x43.2 : Int).toNat * 2) fun x52 =>
 nw (Qa.c Qa.zero) (fun b54 H55 =>
 stT (b54, 0) (Qa.c x52) (fun H56 =>
 dr H56 fun Hs57 =>
 ldL Hs57 ((b29, 0).1, (b29, 0).2 + 0) fun x59 =>
 ldL Hs57 ((b29, 0).1, (b29, 0).2 + 0) fun x61 =>
 ldL Hs57 ((b29, 0).1, (b29, 0).2 + 0) fun x63 =>
 slL x59 0 (Sl.len x61 : Int) (Sl.len x63 : Int) 4 fun t65 =>
 ldL Hs57 ((b54, 0).1, (b54, 0).2 + 0) fun x71 =>
 apS (Qb.c Qb.zero) 56 t65 x71 (fun r74 H75 =>
 Heap.le Hs57 H75 ∧
 ldI H75 .i64 ((b29, 0).1, (b29, 0).2 + 1) fun x76 =>
 ldI H75 .i64 ((b54, 0).1, (b54, 0).2 + 1) fun x78 =>
 apd (Qa.c Qa.zero) 32 x43.1 ((Qa.c (⟨r74, (w .i64 (x76 * x78))⟩ : Qa)) ++ []) 1 (fun r80 H81 =>
 J44 (r80, (w .i64 (x43.2 + 1))) H81) H75) H56) H55) H45)
 (J18 x43.1 H45))) H38)) H31) H30) H16))
 (K x14.1 H16))) H9) H8) H7) H5) H3) H
theorem Qj2 (C p_a p_b p_on K H) (h : Qg3 C p_a p_b p_on K H) : Qcv C p_a p_b p_on K H := by
 refine Ye Tryz.func34 rfl Tryz.ntmps34 [(0, slv p_a), (1, slv p_b), (2, slv p_on)] (Zo (Za (GL.nil (Zo (Zm (Zc h QfF ?_))))))
 rintro _ H3 ⟨r1, r2, rfl, h⟩
 refine Zm (Yv (.agg (Qc.c r1).toArray) rfl rfl (Yv (.agg (Qc.c r2).toArray) rfl rfl (GL.alloc (cs := Qc.c Qc.zero) h trivial rfl rfl rfl ?_)))
 intro b4 H5 h
 refine GL.alloc (cs := Qc.c Qc.zero) h trivial rfl rfl rfl ?_
 intro b6 H7 h
 refine GL.storeT (p := (b4, 0)) (vs := Qc.c r1) h trivial rfl rfl rfl rfl ?_
 intro H8 h
 refine GL.storeT (p := (b6, 0)) (vs := Qc.c r2) h trivial rfl rfl rfl rfl ?_
 intro H9 h
 refine GL.nil (Zo ?_)
 obtain ⟨x10, v11, h⟩ := h
 refine Zv (OV.loadT rfl rfl rfl v11) (Zm (Zc h QeC ?_))
 rintro _ H13 ⟨r12, rfl, h⟩
 refine Za (GL.nil (Zo (Za (GL.nil (GC.seq (Zo (Zm (Zq (Zm (GL.nil (GC.block (Yp h (fun x14 => [(10, slv x14.1), (28, .int .i64 x14.2), (7, pv (some (b4, 0))), (9, mv r12), (26, slv p_a), (27, .int .i64 (Sl.len p_a : Int))]) ?_))))))))))))
 intro x14 H16 J15 h
 refine Zo (Zi (.bool (decide ((x14.2 : Int) < (Sl.len p_a : Int)))) (GL.nil (GC.seq (Yd h (fun u17 h => ?_) fun u17 h => ?_))))
 refine GC.skip ?_
 obtain ⟨J18, h, hR21⟩ := h
 refine GC.join (α := Sl) J18 (fun x19 => [(10, slv x19), (7, pv (some (b4, 0))), (9, mv r12), (26, slv p_a), (27, .int .i64 (Sl.len p_a : Int)), (28, .int .i64 x14.2)]) ?_ ?_
 refine GC.block (Zo (Yx h fun p22 h => ?_))
 obtain ⟨x27, v28, h⟩ := h
 refine Zv (OV.loadT rfl rfl rfl v28) (GL.alloc (cs := Qa.c Qa.zero) h trivial rfl rfl rfl ?_)
 intro b29 H30 h
 refine GL.storeT (p := (b29, 0)) (vs := Qa.c x27) h trivial rfl rfl rfl rfl ?_
 intro H31 h
 refine GL.nil (Zo ?_)
 obtain ⟨x32, v33, h⟩ := h
 refine Zv (OV.loadT rfl rfl rfl v33) (Zf (Yl h fun x34 h => ?_))
 refine Zc h Qbw ?_
 rintro _ H38 ⟨r36, r37, rfl, h⟩
 refine Zm (Yv (sv r36) rfl rfl (Yv (.bool r37) rfl rfl (Za (Za (GL.nil (GC.seq (Zo (Zm (Zv (OV.not rfl) (GL.nil (Yd h (fun u39 h => ?_) fun u39 h => ?_)))))))))))
 exact GC.exit_jump (fun _ _ h => h) x14.1 h ⟨rfl, rfl, rfl, rfl, rfl, rfl, trivial⟩
 refine GC.skip (Zo (Zm (Zm ?_)))
 obtain ⟨x40, is41, v42, h⟩ := h
 refine Zv (OV.lookup1 (v := slv x40) (enc := (fun x : Sl => (slv x : Value))) (z := Sl.nil) (q := r12) (k := r36) (x := x40) (b := is41) rfl v42 rfl rfl rfl rfl rfl) (Zq (Zm (GL.nil (GC.block (Yp h (fun x43 => [(10, slv x43.1), (45, .int .i64 x43.2), (7, pv (some (b4, 0))), (9, mv r12), (12, pv (some (b29, 0))), (26, slv p_a), (27, .int .i64 (Sl.len p_a : Int)), (28, .int .i64 x14.2), (43, slv x40), (44, .int .i64 (Sl.len x40 : Int))]) ?_)))))
 intro x43 H45 J44 h
 refine Zo (Zi (.bool (decide ((x43.2 : Int) < (Sl.len x40 : Int)))) (GL.nil (GC.seq (Yd h (fun u46 h => ?_) fun u46 h => ?_))))
 refine GC.skip (GC.seq (GC.block (Zo (Yx h fun p47 h => ?_))))
 obtain ⟨x52, v53, h⟩ := h
 refine Zv (OV.loadT rfl rfl rfl v53) (GL.alloc (cs := Qa.c Qa.zero) h trivial rfl rfl rfl ?_)
 intro b54 H55 h
 refine GL.storeT (p := (b54, 0)) (vs := Qa.c x52) h trivial rfl rfl rfl rfl ?_
 intro H56 h
 refine GL.nil (GC.seq ?_)
 obtain ⟨Hs57, hle58, h⟩ := h
 refine GC.any (Hs := Hs57) (by kernel_rfl) hle58 (Zp 0 rfl Yf ?_)
 obtain ⟨x59, v60, h⟩ := h
 refine Zp 1 rfl (Yo v60) (Zp 2 rfl Yf ?_)
 obtain ⟨x61, v62, h⟩ := h
 refine Zp 3 rfl (Yo v62) (Zp 4 rfl (OV.lenSl rfl rfl) (Zp 5 rfl Yf ?_))
 obtain ⟨x63, v64, h⟩ := h
 refine Zp 6 rfl (Yo v64) (Zp 7 rfl (OV.lenSl rfl rfl) ?_)
 obtain ⟨h66, h67, h68, h69, t65, h70, h⟩ := h
 refine Zp 8 rfl (OV.sliceSl (s := x59) h66 h67 h68 h69 h70 rfl rfl rfl rfl rfl rfl rfl (fun h => by first | rfl | cases h) rfl rfl) (Zp 9 rfl Yf ?_)
 obtain ⟨x71, v72, h⟩ := h
 refine Zp 10 rfl (Yo v72) (GA.eff 11 rfl (by kernel_rfl) (GL.appendS (s := t65) (s2 := x71) (zc := Qb.c Qb.zero) (bytes := 56) h trivial rfl rfl rfl ⟨⟨_, _, _, rfl, rfl, rfl, rfl, rfl, rfl⟩⟩ rfl ?_))
 intro r74 H75 h
 obtain ⟨hle73, h⟩ := h
 refine GA.back hle73 (Zp 12 rfl Ya (GA.done (by kernel_rfl) (GL.nil (GC.region (Zm (Zm (Zf (Yl h fun x76 h => ?_))))))))
 refine Zf (Yl h fun x78 h => ?_)
 refine Zi (.int .i64 (w .i64 (x76 * x78))) (Zv (OV.build (vs := [(0, slv r74), (1, .int .i64 (w .i64 (x76 * x78)))]) (v := .agg (Qa.c (⟨r74, (w .i64 (x76 * x78))⟩ : Qa)).toArray) rfl (fun _ => by kernel_rfl)) (GL.appendLit (s := x43.1) (ys := (Qa.c (⟨r74, (w .i64 (x76 * x78))⟩ : Qa)) ++ []) (zc := Qa.c Qa.zero) (bytes := 32) h trivial rfl (fun _ => trivial) rfl (fun _ => rfl) (fun _ => rfl) (vs := [(0, .agg (Qa.c (⟨r74, (w .i64 (x76 * x78))⟩ : Qa)).toArray)]) rfl ⟨47, fun _ => by kernel_rfl⟩ ⟨⟨_, _, _, rfl, rfl, rfl, rfl, rfl, rfl⟩⟩ rfl rfl ?_))
 intro _ r80 H81 h
 refine Za (GL.nil_to (fun _ _ h => h) (GC.region (Zi (.int .i64 (w .i64 (x43.2 + 1))) (Zm ?_))))
 exact Yj I3 (r80, (w .i64 (x43.2 + 1))) h
 exact GC.exit_jump (fun _ _ h => h) x43.1 h ⟨rfl, rfl, rfl, rfl, rfl, rfl, trivial⟩
 intro x19 H20 h
 replace h := hR21 x19 H20 h
 refine GC.region (Zi (.int .i64 (w .i64 (x14.2 + 1))) (Zm ?_))
 exact Yj I3 (x19, (w .i64 (x14.2 + 1))) h
 refine GC.exit_to (fun _ _ h => h) (Zo (Zm (Za (GL.nil ?_))))
 exact Y1 I3 ⟨x14.1, rfl, h⟩
def QhW (C : Ctx) (p_a : Sl) (p_b : Sl) (K : Sl → Int → Heap → Prop) (H : Heap) : Prop :=
 nw ((Qf.c (⟨p_a, (.func (.func 52) (List.toArray []) (List.toArray []) : Value)⟩ : Qf)) ++ (Qf.c (⟨p_b, (.func (.func 56) (List.toArray []) (List.toArray []) : Value)⟩ : Qf)) ++ []) (fun b1 H2 =>
 Qc7 C (Sl.of (some (b1, 0)) 2 2) (fun r3 r4 H5 =>
 K r3 r4 H5) H2) H
theorem Qk6 (C p_a p_b K H) (h : QhW C p_a p_b K H) : Qej C p_a p_b K H := by
 refine Ye Tryz.func35 rfl Tryz.ntmps35 [(0, slv p_a), (1, slv p_b)] (Zo (Za (Za (GL.nil (Zo (Zm (Zv (OV.build (vs := [(0, slv p_a), (1, .func (.func 52) (List.toArray []) (List.toArray []))]) (v := .agg (Qf.c (⟨p_a, (.func (.func 52) (List.toArray []) (List.toArray []) : Value)⟩ : Qf)).toArray) rfl (fun _ => by kernel_rfl)) (Zm (Zv (OV.build (vs := [(0, slv p_b), (1, .func (.func 56) (List.toArray []) (List.toArray []))]) (v := .agg (Qf.c (⟨p_b, (.func (.func 56) (List.toArray []) (List.toArray []) : Value)⟩ : Qf)).toArray) rfl (fun _ => by kernel_rfl)) (GL.buildSlice (cs := (Qf.c (⟨p_a, (.func (.func 52) (List.toArray []) (List.toArray []) : Value)⟩ : Qf)) ++ (Qf.c (⟨p_b, (.func (.func 56) (List.toArray []) (List.toArray []) : Value)⟩ : Qf)) ++ []) h trivial rfl (vs := [(0, .agg (Qf.c (⟨p_a, (.func (.func 52) (List.toArray []) (List.toArray []) : Value)⟩ : Qf)).toArray), (1, .agg (Qf.c (⟨p_b, (.func (.func 56) (List.toArray []) (List.toArray []) : Value)⟩ : Qf)).toArray)]) rfl ⟨89, fun _ => by kernel_rfl⟩ ?_))))))))))
 intro b1 H2 h
 refine Zc h Qfc ?_
 rintro _ H5 ⟨r3, r4, rfl, h⟩
 refine Yv (slv r3) rfl rfl (Yv (.int .i64 r4) rfl rfl (Za (Za (GL.nil ?_))))
 exact Y2 I3 ⟨r3, r4, rfl, h⟩
def QfX (C : Ctx) (p_a : Sl) (p_da : Sl) (p_b : Sl) (p_db : Sl) (K : Sl → Sl → Int → Heap → Prop) (H : Heap) : Prop :=
 nw ([slv p_a, slv p_da, slv p_b, slv p_db]) (fun b1 H2 =>
 lp (α := Int) 0 H2 (fun x3 J4 H5 =>
 ift (decide ((x3 : Int) < (Sl.len (Sl.of (some (b1, 0)) 4 4) : Int)))
 (ixa (Sl.of (some (b1, 0)) 4 4) x3 fun p7 =>
 ldL H5 (p7.1, p7.2 + (x3 : Int).toNat * 1) fun x12 =>
 QP C x12 (fun r14 r15 H16 =>
 ift ((r15 : Int) != 0)
 (K Sl.nil Sl.nil r15 H16)
 (J4 (w .i64 (x3 + 1)) H16)) H5)
 (Qc4 C p_a p_da (fun r18 r19 H20 =>
 ift ((r19 : Int) != 0)
 (K Sl.nil Sl.nil r19 H20)
 (Qc4 C p_b p_db (fun r22 r23 H24 =>
 K r18 r22 r23 H24) H20)) H5))) H
theorem Qjh (C p_a p_da p_b p_db K H) (h : QfX C p_a p_da p_b p_db K H) : Qcf C p_a p_da p_b p_db K H := by
 refine Ye Tryz.func36 rfl Tryz.ntmps36 [(0, slv p_a), (1, slv p_da), (2, slv p_b), (3, slv p_db)] (Zo (Za (Za (Za (GL.nil (Zo (Zm (Zm (Zm (Zm (GL.buildSlice (cs := [slv p_a, slv p_da, slv p_b, slv p_db]) h trivial rfl (vs := [(0, slv p_a), (1, slv p_da), (2, slv p_b), (3, slv p_db)]) rfl ⟨22, fun _ => by kernel_rfl⟩ ?_)))))))))))
 intro b1 H2 h
 refine Za (GL.nil (GC.seq (Zo (Za (GL.nil (GC.block (Yp h (fun x3 => [(12, .int .i64 x3), (0, slv p_a), (1, slv p_da), (2, slv p_b), (3, slv p_db), (11, slv (Sl.of (some (b1, 0)) 4 4))]) ?_)))))))
 intro x3 H5 J4 h
 refine GC.seq (Zo (Zm (Zm (Zq (Zi (.bool (decide ((x3 : Int) < (Sl.len (Sl.of (some (b1, 0)) 4 4) : Int)))) (GL.nil (Yd h (fun u6 h => ?_) fun u6 h => ?_)))))))
 refine GC.skip (GC.seq (GC.block (Zo (Zm (Zm (Yx h fun p7 h => ?_))))))
 refine Yl h fun x12 h => ?_
 refine Zc h Qan ?_
 rintro _ H16 ⟨r14, r15, rfl, h⟩
 refine Zm (Yv (slv r14) rfl rfl (Yv (.int .i64 r15) rfl rfl (Za (Za (GL.nil (Zo (Zm (Zi (.bool ((r15 : Int) != 0)) (GL.nil (Yd h (fun u17 h => ?_) fun u17 h => ?_))))))))))
 refine Zo (Zm (Za (Za (Za (GL.nil ?_)))))
 exact Y3 I3 ⟨Sl.nil, Sl.nil, r15, rfl, h⟩
 refine GC.skip_to (fun _ _ h => h) (GC.region (Zm (Zi (.int .i64 (w .i64 (x3 + 1))) (Za ?_))))
 exact Yj I3 (w .i64 (x3 + 1)) h
 refine GC.exit_to (fun _ _ h => h) (Zo (Zm (Zm (Zc h QhM ?_))))
 rintro _ H20 ⟨r18, r19, rfl, h⟩
 refine Zm (Yv (slv r18) rfl rfl (Yv (.int .i64 r19) rfl rfl (Za (Za (GL.nil (GC.seq (Zo (Zm (Zi (.bool ((r19 : Int) != 0)) (GL.nil (Yd h (fun u21 h => ?_) fun u21 h => ?_)))))))))))
 refine Zo (Zm (Za (Za (Za (GL.nil ?_)))))
 exact Y3 I3 ⟨Sl.nil, Sl.nil, r19, rfl, h⟩
 refine GC.skip (Zo (Zm (Zm (Zc h QhM ?_))))
 rintro _ H24 ⟨r22, r23, rfl, h⟩
 refine Zm (Yv (slv r22) rfl rfl (Yv (.int .i64 r23) rfl rfl (Za (Za (GL.nil (Zo (Zm (Zm (Zm (Za (Za (Za (GL.nil ?_)))))))))))))
 exact Y3 I3 ⟨r18, r22, r23, rfl, h⟩
def Qhh (C : Ctx) (p_a : Sl) (p_b : Sl) (p_on : Sl) (K : Sl → Int → Heap → Prop) (H : Heap) : Prop :=
 Qdy C p_a p_b (fun r1 r2 r3 H4 =>
 ift ((r3 : Int) != 0)
 (K Sl.nil r3 H4)
 (lp (α := Sl × Int) (Sl.nil, 0) H4 (fun x6 J7 H8 =>
 ift (decide ((x6.2 : Int) < (Sl.len r1 : Int)))
 (lp (α := Sl × Int) (x6.1, 0) H8 (fun x10 J11 H12 =>
 ift (decide ((x10.2 : Int) < (Sl.len r2 : Int)))
 (jn (α := Sl) (fun x15 H16 =>
 J11 (x15, (w .i64 (x10.2 + 1))) H16)
 (fun J14 => dr H12 fun Hs18 =>
 ixa r1 x6.2 fun p20 =>
 ldL Hs18 ((p20.1, p20.2 + (x6.2 : Int).toNat * 2).1, (p20.1, p20.2 + (x6.2 : Int).toNat * 2).2 + 0) fun x25 =>
 ixa r2 x10.2 fun p27 =>
 ldL Hs18 ((p27.1, p27.2 + (x10.2 : Int).toNat * 2).1, (p27.1, p27.2 + (x10.2 : Int).toNat * 2).2 + 0) fun x32 =>
 Qbm C x25 x32 p_on (fun r35 H36 =>
 Heap.le Hs18 H36 ∧
 ift r35
 (nw ([]) (fun b38 H39 =>
 ixa r1 x6.2 fun p40 =>
 ldL H39 ((p40.1, p40.2 + (x6.2 : Int).toNat * 2).1, (p40.1, p40.2 + (x6.2 : Int).toNat * 2).2 + 0) fun x45 =>
 apS (Qb.c Qb.zero) 56 (Sl.of (some (b38, 0)) 0 0) x45 (fun r47 H48 =>
 ixa r2 x10.2 fun p49 =>
 ldL H48 ((p49.1, p49.2 + (x10.2 : Int).toNat * 2).1, (p49.1, p49.2 + (x10.2 : Int).toNat * 2).2 + 0) fun x54 =>
 apS (Qb.c Qb.zero) 56 r47 x54 (fun r56 H57 =>
 dr H57 fun Hs58 =>
 ixa r1 x6.2 fun p60 =>
 ldI Hs58 .i64 ((p60.1, p60.2 + (x6.2 : Int).toNat * 2).1, (p60.1, p60.2 + (x6.2 : Int).toNat * 2).2 + 1) fun x65 =>
 ixa r2 x10.2 fun p67 =>
 ldI Hs58 .i64 ((p67.1, p67.2 + (x10.2 : Int).toNat * 2).1, (p67.1, p67.2 + (x10.2 : Int).toNat * 2).2 + 1) fun x72 =>
 nw ((Qa.c (⟨r56, (w .i64 (x65 * x72))⟩ : Qa)) ++ []) (fun b75 H76 =>
 Heap.le Hs58 H76 ∧
 apS (Qa.c Qa.zero) 32 x10.1 (Sl.of (some (b75, 0)) 1 1) (fun r78 H79 =>
 Heap.le Hs58 H79 ∧
 J14 r78 H79) H76) H57) H48) H39) H36)
 (J14 x10.1 H36)) H12))
 (J7 (x10.1, (w .i64 (x6.2 + 1))) H12)))
 (QP C x6.1 (fun r80 r81 H82 =>
 K r80 r81 H82) H8)))) H
theorem Qkg (C p_a p_b p_on K H) (h : Qhh C p_a p_b p_on K H) : Qdx C p_a p_b p_on K H := by
 refine Ye Tryz.func37 rfl Tryz.ntmps37 [(0, slv p_a), (1, slv p_b), (2, slv p_on)] (Zo (Za (Za (GL.nil (Zo (Zm (Zm (Zc h QgQ ?_))))))))
 rintro _ H4 ⟨r1, r2, r3, rfl, h⟩
 refine Zm (Yv (slv r1) rfl rfl (Yv (slv r2) rfl rfl (Yv (.int .i64 r3) rfl rfl (Za (Za (Za (GL.nil (GC.seq (Zo (Zm (Zi (.bool ((r3 : Int) != 0)) (GL.nil (Yd h (fun u5 h => ?_) fun u5 h => ?_)))))))))))))
 refine Zo (Zm (Za (Za (GL.nil ?_))))
 exact Y2 I3 ⟨Sl.nil, r3, rfl, h⟩
 refine GC.skip (Zo (Za (GL.nil (GC.seq (Zo (Za (GL.nil (GC.block (Yp h (fun x6 => [(11, slv x6.1), (12, .int .i64 x6.2), (2, slv p_on), (8, slv r1), (9, slv r2)]) ?_)))))))))
 intro x6 H8 J7 h
 refine GC.seq (Zo (Zm (Zm (Zq (Zi (.bool (decide ((x6.2 : Int) < (Sl.len r1 : Int)))) (GL.nil (Yd h (fun u9 h => ?_) fun u9 h => ?_)))))))
 refine GC.skip (GC.seq (GC.block (Zo (Za (GL.nil (GC.block (Yp h (fun x10 => [(11, slv x10.1), (13, .int .i64 x10.2), (2, slv p_on), (8, slv r1), (9, slv r2), (12, .int .i64 x6.2)]) ?_)))))))
 intro x10 H12 J11 h
 refine GC.seq (Zo (Zm (Zm (Zq (Zi (.bool (decide ((x10.2 : Int) < (Sl.len r2 : Int)))) (GL.nil (Yd h (fun u13 h => ?_) fun u13 h => ?_)))))))
 refine GC.skip ?_
 obtain ⟨J14, h, hR17⟩ := h
 refine GC.join (α := Sl) J14 (fun x15 => [(11, slv x15), (2, slv p_on), (8, slv r1), (9, slv r2), (12, .int .i64 x6.2), (13, .int .i64 x10.2)]) ?_ ?_
 refine GC.block (GC.seq ?_)
 obtain ⟨Hs18, hle19, h⟩ := h
 refine GC.any (Hs := Hs18) (by kernel_rfl) hle19 (Zp 0 rfl Ym (Zp 1 rfl Ym ?_))
 obtain ⟨p20, ha21, hb22, u23, hd24, h⟩ := h
 refine Zp 2 rfl (OV.indexAddr rfl rfl rfl rfl ha21 hb22 u23 hd24) (Zp 3 rfl Yf ?_)
 obtain ⟨x25, v26, h⟩ := h
 refine Zp 4 rfl (Yo v26) (Zp 5 rfl Ym (Zp 6 rfl Ym ?_))
 obtain ⟨p27, ha28, hb29, u30, hd31, h⟩ := h
 refine Zp 7 rfl (OV.indexAddr rfl rfl rfl rfl ha28 hb29 u30 hd31) (Zp 8 rfl Yf ?_)
 obtain ⟨x32, v33, h⟩ := h
 refine Zp 9 rfl (Yo v33) (Zp 10 rfl Ym (GA.eff 11 rfl (by kernel_rfl) (Zc h QhN ?_)))
 rintro _ H36 ⟨r35, rfl, h⟩
 obtain ⟨hle34, h⟩ := h
 refine GA.back hle34 (GA.done (by kernel_rfl) (GL.nil (Yd h (fun u37 h => ?_) fun u37 h => ?_)))
 refine Zo (GL.buildSlice (cs := []) h trivial rfl (vs := []) rfl ⟨44, fun _ => by kernel_rfl⟩ ?_)
 intro b38 H39 h
 refine Zm (Zm (Yx h fun p40 h => ?_))
 refine Zf (Yl h fun x45 h => ?_)
 refine GL.appendS (s := (Sl.of (some (b38, 0)) 0 0)) (s2 := x45) (zc := Qb.c Qb.zero) (bytes := 56) h trivial rfl rfl rfl ⟨⟨_, _, _, rfl, rfl, rfl, rfl, rfl, rfl⟩⟩ rfl ?_
 intro r47 H48 h
 refine Za (GL.nil (Zo (Zm (Zm (Zm (Yx h fun p49 h => ?_))))))
 refine Zf (Yl h fun x54 h => ?_)
 refine GL.appendS (s := r47) (s2 := x54) (zc := Qb.c Qb.zero) (bytes := 56) h trivial rfl rfl rfl ⟨⟨_, _, _, rfl, rfl, rfl, rfl, rfl, rfl⟩⟩ rfl ?_
 intro r56 H57 h
 refine Za (GL.nil ?_)
 obtain ⟨Hs58, hle59, h⟩ := h
 refine GC.any (Hs := Hs58) (by kernel_rfl) hle59 (Zp 0 rfl Ym (Zp 1 rfl Ym (Zp 2 rfl Ym (Zp 3 rfl Ym ?_))))
 obtain ⟨p60, ha61, hb62, u63, hd64, h⟩ := h
 refine Zp 4 rfl (OV.indexAddr rfl rfl rfl rfl ha61 hb62 u63 hd64) (Zp 5 rfl Yf ?_)
 obtain ⟨x65, v66, h⟩ := h
 refine Zp 6 rfl (Yo v66) (Zp 7 rfl Ym (Zp 8 rfl Ym ?_))
 obtain ⟨p67, ha68, hb69, u70, hd71, h⟩ := h
 refine Zp 9 rfl (OV.indexAddr rfl rfl rfl rfl ha68 hb69 u70 hd71) (Zp 10 rfl Yf ?_)
 obtain ⟨x72, v73, h⟩ := h
 refine Zp 11 rfl (Yo v73) (Zp 12 rfl (OV.ibin (v := .int .i64 (w .i64 (x65 * x72))) rfl rfl rfl) (Zp 13 rfl (OV.build (vs := [(0, slv r56), (1, .int .i64 (w .i64 (x65 * x72)))]) (v := .agg (Qa.c (⟨r56, (w .i64 (x65 * x72))⟩ : Qa)).toArray) rfl (fun _ => by kernel_rfl)) (GA.eff 14 rfl (by kernel_rfl) (GL.buildSlice (cs := (Qa.c (⟨r56, (w .i64 (x65 * x72))⟩ : Qa)) ++ []) h trivial rfl (vs := [(0, .agg (Qa.c (⟨r56, (w .i64 (x65 * x72))⟩ : Qa)).toArray)]) rfl ⟨59, fun _ => by kernel_rfl⟩ ?_))))
 intro b75 H76 h
 obtain ⟨hle74, h⟩ := h
 refine GA.back hle74 (GA.eff 15 rfl (by kernel_rfl) (GL.appendS (s := x10.1) (s2 := (Sl.of (some (b75, 0)) 1 1)) (zc := Qa.c Qa.zero) (bytes := 32) h trivial rfl rfl rfl ⟨⟨_, _, _, rfl, rfl, rfl, rfl, rfl, rfl⟩⟩ rfl ?_))
 intro r78 H79 h
 obtain ⟨hle77, h⟩ := h
 refine GA.back hle77 (Zp 16 rfl Ya (GA.done (by kernel_rfl) ?_))
 exact Yj I3 r78 h
 exact Yk I3 x10.1 h
 intro x15 H16 h
 replace h := hR17 x15 H16 h
 refine GC.region (Zm (Zi (.int .i64 (w .i64 (x10.2 + 1))) (Za ?_)))
 exact Yj I3 (x15, (w .i64 (x10.2 + 1))) h
 refine GC.exit_to (fun _ _ h => h) (GC.region (Zm (Zi (.int .i64 (w .i64 (x6.2 + 1))) (Za ?_))))
 exact Yj I3 (x10.1, (w .i64 (x6.2 + 1))) h
 refine GC.exit_to (fun _ _ h => h) (Zo (Zm (Zc h Qan ?_)))
 rintro _ H82 ⟨r80, r81, rfl, h⟩
 refine Yv (slv r80) rfl rfl (Yv (.int .i64 r81) rfl rfl (Za (Za (GL.nil ?_))))
 exact Y2 I3 ⟨r80, r81, rfl, h⟩
def Qhd (C : Ctx) (p_a : Sl) (p_b : Sl) (K : Sl → Int → Heap → Prop) (H : Heap) : Prop :=
 Qdv C p_a p_b true (fun r1 H2 =>
 QP C r1 (fun r3 r4 H5 =>
 K r3 r4 H5) H2) H
theorem Qkc (C p_a p_b K H) (h : Qhd C p_a p_b K H) : QbU C p_a p_b K H := by
 refine Ye Tryz.func38 rfl Tryz.ntmps38 [(0, slv p_a), (1, slv p_b)] (Zo (Za (Za (GL.nil (Zo (Zm (Zm (Zc h QgN ?_))))))))
 rintro _ H2 ⟨r1, rfl, h⟩
 refine Zc h Qan ?_
 rintro _ H5 ⟨r3, r4, rfl, h⟩
 refine Yv (slv r3) rfl rfl (Yv (.int .i64 r4) rfl rfl (Za (Za (GL.nil ?_))))
 exact Y2 I3 ⟨r3, r4, rfl, h⟩
def QdY (C : Ctx) (p_l : Sl) (K : Heap → Prop) (H : Heap) : Prop :=
 lp (α := Int) 0 H (fun x1 J2 H3 =>
 ift (decide ((x1 : Int) < (Sl.len p_l : Int)))
 (ixa p_l x1 fun p5 =>
 ldL H3 ((p5.1, p5.2 + (x1 : Int).toNat * 4).1, (p5.1, p5.2 + (x1 : Int).toNat * 4).2 + 3) fun x10 =>
 Qca C x10 (fun H12 =>
 ixa p_l x1 fun p13 =>
 stT (p13.1, p13.2 + (x1 : Int).toNat * 4) (Qb.c (⟨9, 0, [115, 112, 111, 105, 108, 116], Sl.nil⟩ : Qb)) (fun H18 =>
 J2 (w .i64 (x1 + 1)) H18) H12) H3)
 (K H3))
theorem QfE (C p_l K H) (h : QdY C p_l K H) : Qca C p_l K H := by
 refine Ye Tryz.func39 rfl Tryz.ntmps39 [(0, slv p_l)] (Zo (Za (GL.nil (GC.block (Yp h (fun x1 => [(2, .int .i64 x1), (0, slv p_l)]) ?_)))))
 intro x1 H3 J2 h
 refine GC.seq (Zo (Zm (Zm (Zq (Zi (.bool (decide ((x1 : Int) < (Sl.len p_l : Int)))) (GL.nil (Yd h (fun hc4 h => ?_) fun hc4 h => ?_)))))))
 refine GC.skip (GC.seq (GC.block (Zo (Zm (Zm (Yx h fun p5 h => ?_))))))
 refine Zf (Yl h fun x10 h => ?_)
 refine Zc h QfH ?_
 rintro _ H12 ⟨rfl, h⟩
 refine GL.nil (GC.region (Zm (Zm (Zv (OV.build (vs := [(0, .int .u8 9), (2, sv [115, 112, 111, 105, 108, 116])]) (v := .agg (Qb.c (⟨9, 0, [115, 112, 111, 105, 108, 116], Sl.nil⟩ : Qb)).toArray) rfl (fun _ => by kernel_rfl)) (Yx h fun p13 h => ?_)))))
 refine GL.storeT (p := (p13.1, p13.2 + (x1 : Int).toNat * 4)) (vs := Qb.c (⟨9, 0, [115, 112, 111, 105, 108, 116], Sl.nil⟩ : Qb)) h trivial rfl rfl rfl rfl ?_
 intro H18 h
 refine GL.nil_to (fun _ _ h => h) (GC.region (Zm (Zi (.int .i64 (w .i64 (x1 + 1))) (Za ?_))))
 exact Yj I3 (w .i64 (x1 + 1)) h
 exact GC.exit_ends (fun _ _ hf hs => QJ rfl hf hs ⟨rfl, h⟩)
def Qg2 (C : Ctx) (p_a : Sl) (p_b : Sl) (p_on : Sl) (K : Sl → Heap → Prop) (H : Heap) : Prop :=
 QcU C p_on (fun r1 r2 H3 =>
 nw (Qc.c Qc.zero) (fun b4 H5 =>
 nw (Qc.c Qc.zero) (fun b6 H7 =>
 stT (b4, 0) (Qc.c r1) (fun H8 =>
 stT (b6, 0) (Qc.c r2) (fun H9 =>
 ldT H9 Qc.c (b6, 0) fun x10 =>
 Qb8 C x10 p_b (fun r12 H13 =>
 lp (α := Sl × Int) (Sl.nil, 0) H13 (fun x14 J15 H16 =>
 ift (decide ((x14.2 : Int) < (Sl.len p_a : Int)))
 (jn (α := Sl) (fun x19 H20 =>
 J15 (x19, (w .i64 (x14.2 + 1))) H20)
 (fun J18 => ixa p_a x14.2 fun p22 =>
 ldT H16 Qa.c (p22.1, p22.2 + (x14.2 : Int).toNat * 2) fun x27 =>
 nw (Qa.c Qa.zero) (fun b29 H30 =>
 stT (b29, 0) (Qa.c x27) (fun H31 =>
 ldT H31 Qc.c (b4, 0) fun x32 =>
 ldL H31 ((b29, 0).1, (b29, 0).2 + 0) fun x34 =>
 Qax C x32 x34 (fun r36 r37 H38 =>
 jn (α := Bool) (fun b39 H46 =>
 ift b39
 (ldT H46 Qa.c (b29, 0) fun x48 =>
 apd (Qa.c Qa.zero) 32 x14.1 ((Qa.c x48) ++ []) 1 (fun r50 H51 =>
 J18 r50 H51) H46)
 (J18 x14.1 H46))
 (fun J40 => ift (!r37)
 (J40 true H38)
 (lkM (fun x : Sl => (slv x : Value)) Sl.nil r12 r36 (fun x43 is44 =>
 J40 (((Sl.len x43 : Int) : Int) == 0) H38) H38))) H31) H30) H16))
 (K x14.1 H16))) H9) H8) H7) H5) H3) H
theorem Qj1 (C p_a p_b p_on K H) (h : Qg2 C p_a p_b p_on K H) : QbS C p_a p_b p_on K H := by
 refine Ye Tryz.func40 rfl Tryz.ntmps40 [(0, slv p_a), (1, slv p_b), (2, slv p_on)] (Zo (Za (GL.nil (Zo (Zm (Zc h QfF ?_))))))
 rintro _ H3 ⟨r1, r2, rfl, h⟩
 refine Zm (Yv (.agg (Qc.c r1).toArray) rfl rfl (Yv (.agg (Qc.c r2).toArray) rfl rfl (GL.alloc (cs := Qc.c Qc.zero) h trivial rfl rfl rfl ?_)))
 intro b4 H5 h
 refine GL.alloc (cs := Qc.c Qc.zero) h trivial rfl rfl rfl ?_
 intro b6 H7 h
 refine GL.storeT (p := (b4, 0)) (vs := Qc.c r1) h trivial rfl rfl rfl rfl ?_
 intro H8 h
 refine GL.storeT (p := (b6, 0)) (vs := Qc.c r2) h trivial rfl rfl rfl rfl ?_
 intro H9 h
 refine GL.nil (Zo ?_)
 obtain ⟨x10, v11, h⟩ := h
 refine Zv (OV.loadT rfl rfl rfl v11) (Zm (Zc h QeC ?_))
 rintro _ H13 ⟨r12, rfl, h⟩
 refine Za (GL.nil (Zo (Za (GL.nil (GC.seq (Zo (Zm (Zq (Zm (GL.nil (GC.block (Yp h (fun x14 => [(10, slv x14.1), (25, .int .i64 x14.2), (7, pv (some (b4, 0))), (9, mv r12), (23, slv p_a), (24, .int .i64 (Sl.len p_a : Int))]) ?_))))))))))))
 intro x14 H16 J15 h
 refine Zo (Zi (.bool (decide ((x14.2 : Int) < (Sl.len p_a : Int)))) (GL.nil (GC.seq (Yd h (fun u17 h => ?_) fun u17 h => ?_))))
 refine GC.skip ?_
 obtain ⟨J18, h, hR21⟩ := h
 refine GC.join (α := Sl) J18 (fun x19 => [(10, slv x19), (7, pv (some (b4, 0))), (9, mv r12), (23, slv p_a), (24, .int .i64 (Sl.len p_a : Int)), (25, .int .i64 x14.2)]) ?_ ?_
 refine GC.block (Zo (Yx h fun p22 h => ?_))
 obtain ⟨x27, v28, h⟩ := h
 refine Zv (OV.loadT rfl rfl rfl v28) (GL.alloc (cs := Qa.c Qa.zero) h trivial rfl rfl rfl ?_)
 intro b29 H30 h
 refine GL.storeT (p := (b29, 0)) (vs := Qa.c x27) h trivial rfl rfl rfl rfl ?_
 intro H31 h
 refine GL.nil (Zo ?_)
 obtain ⟨x32, v33, h⟩ := h
 refine Zv (OV.loadT rfl rfl rfl v33) (Zf (Yl h fun x34 h => ?_))
 refine Zc h Qbw ?_
 rintro _ H38 ⟨r36, r37, rfl, h⟩
 refine Zm (Yv (sv r36) rfl rfl (Yv (.bool r37) rfl rfl (Za (Za (GL.nil (Zo (Zm (Zv (OV.not rfl) (Zm ?_)))))))))
 obtain ⟨J40, h, hR41⟩ := h
 refine GL.cut (α := Bool) 6 J40 (fun b39 => [(44, .bool b39), (7, pv (some (b4, 0))), (9, mv r12), (10, slv x14.1), (12, pv (some (b29, 0))), (23, slv p_a), (24, .int .i64 (Sl.len p_a : Int)), (25, .int .i64 x14.2)]) ?_ ?_
 rcases h.em with ⟨u42, h⟩ | ⟨u42, h⟩
 refine Zk u42 (Zk u42 (Zk u42 (Zk u42 (Zk u42 (Zt u42 ?_)))))
 exact Yj I3 true h
 refine Zu u42 Ym (Zu u42 Ym ?_)
 obtain ⟨x43, is44, v45, h⟩ := h
 refine Zu u42 (OV.lookup1 (v := slv x43) (enc := (fun x : Sl => (slv x : Value))) (z := Sl.nil) (q := r12) (k := r36) (x := x43) (b := is44) rfl v45 rfl rfl rfl rfl rfl) (Zu u42 (OV.lenSl rfl rfl) (Zu u42 (OV.ibin (v := .bool (((Sl.len x43 : Int) : Int) == 0)) rfl rfl rfl) (Zn u42 ?_)))
 exact Yj I3 (((Sl.len x43 : Int) : Int) == 0) h
 intro b39 H46 h
 replace h := hR41 b39 H46 h
 refine GL.nil (Yd h (fun u47 h => ?_) fun u47 h => ?_)
 refine GC.region (Zm ?_)
 obtain ⟨x48, v49, h⟩ := h
 refine Zv (OV.loadT rfl rfl rfl v49) (GL.appendLit (s := x14.1) (ys := (Qa.c x48) ++ []) (zc := Qa.c Qa.zero) (bytes := 32) h trivial rfl (fun _ => trivial) rfl (fun _ => rfl) (fun _ => rfl) (vs := [(0, .agg (Qa.c x48).toArray)]) rfl ⟨47, fun _ => by kernel_rfl⟩ ⟨⟨_, _, _, rfl, rfl, rfl, rfl, rfl, rfl⟩⟩ rfl rfl ?_)
 intro _ r50 H51 h
 refine Za ?_
 exact Yj I3 r50 h
 exact Yk I3 x14.1 h
 intro x19 H20 h
 replace h := hR21 x19 H20 h
 refine GC.region (Zi (.int .i64 (w .i64 (x14.2 + 1))) (Zm ?_))
 exact Yj I3 (x19, (w .i64 (x14.2 + 1))) h
 refine GC.exit_to (fun _ _ h => h) (Zo (Zm (Za (GL.nil ?_))))
 exact Y1 I3 ⟨x14.1, rfl, h⟩
def Qg1 (C : Ctx) (p_l : Sl) (K : Sl → Heap → Prop) (H : Heap) : Prop :=
 lp (α := Sl × Int) (Sl.nil, 0) H (fun x1 J2 H3 =>
 ift (decide ((x1.2 : Int) < (Sl.len p_l : Int)))
 (ixa p_l x1.2 fun p5 =>
 ldT H3 Qa.c (p5.1, p5.2 + (x1.2 : Int).toNat * 2) fun x10 =>
 nw (Qa.c Qa.zero) (fun b12 H13 =>
 stT (b12, 0) (Qa.c x10) (fun H14 =>
 ldL H14 ((b12, 0).1, (b12, 0).2 + 0) fun x15 =>
 ldI H14 .i64 ((b12, 0).1, (b12, 0).2 + 1) fun x17 =>
 apd (Qa.c Qa.zero) 32 x1.1 ((Qa.c (⟨x15, (w .i64 (0 - x17))⟩ : Qa)) ++ []) 1 (fun r19 H20 =>
 J2 (r19, (w .i64 (x1.2 + 1))) H20) H14) H13) H3)
 (K x1.1 H3))
theorem Qj0 (C p_l K H) (h : Qg1 C p_l K H) : QeY C p_l K H := by
 refine Ye Tryz.func41 rfl Tryz.ntmps41 [(0, slv p_l)] (Zo (Za (GL.nil (Zo (Za (GL.nil (GC.seq (Zo (Zm (Zq (Zm (GL.nil (GC.block (Yp h (fun x1 => [(3, slv x1.1), (8, .int .i64 x1.2), (6, slv p_l), (7, .int .i64 (Sl.len p_l : Int))]) ?_))))))))))))))
 intro x1 H3 J2 h
 refine Zo (Zi (.bool (decide ((x1.2 : Int) < (Sl.len p_l : Int)))) (GL.nil (GC.seq (Yd h (fun u4 h => ?_) fun u4 h => ?_))))
 refine GC.skip (GC.seq (GC.block (Zo (Yx h fun p5 h => ?_))))
 obtain ⟨x10, v11, h⟩ := h
 refine Zv (OV.loadT rfl rfl rfl v11) (GL.alloc (cs := Qa.c Qa.zero) h trivial rfl rfl rfl ?_)
 intro b12 H13 h
 refine GL.storeT (p := (b12, 0)) (vs := Qa.c x10) h trivial rfl rfl rfl rfl ?_
 intro H14 h
 refine GL.nil (GC.region (Zm (Zf (Yl h fun x15 h => ?_))))
 refine Zf (Yl h fun x17 h => ?_)
 refine Zv (OV.iun (v := .int .i64 (w .i64 (0 - x17))) rfl rfl) (Zv (OV.build (vs := [(0, slv x15), (1, .int .i64 (w .i64 (0 - x17)))]) (v := .agg (Qa.c (⟨x15, (w .i64 (0 - x17))⟩ : Qa)).toArray) rfl (fun _ => by kernel_rfl)) (GL.appendLit (s := x1.1) (ys := (Qa.c (⟨x15, (w .i64 (0 - x17))⟩ : Qa)) ++ []) (zc := Qa.c Qa.zero) (bytes := 32) h trivial rfl (fun _ => trivial) rfl (fun _ => rfl) (fun _ => rfl) (vs := [(0, .agg (Qa.c (⟨x15, (w .i64 (0 - x17))⟩ : Qa)).toArray)]) rfl ⟨47, fun _ => by kernel_rfl⟩ ⟨⟨_, _, _, rfl, rfl, rfl, rfl, rfl, rfl⟩⟩ rfl rfl ?_))
 intro _ r19 H20 h
 refine Za (GL.nil_to (fun _ _ h => h) (GC.region (Zi (.int .i64 (w .i64 (x1.2 + 1))) (Zm ?_))))
 exact Yj I3 (r19, (w .i64 (x1.2 + 1))) h
 refine GC.exit_to (fun _ _ h => h) (Zo (Zm (Za (GL.nil ?_))))
 exact Y1 I3 ⟨x1.1, rfl, h⟩
def Qhg (C : Ctx) (p_a : Sl) (p_b : Sl) (p_on : Sl) (K : Sl → Int → Heap → Prop) (H : Heap) : Prop :=
 Qdy C p_a p_b (fun r1 r2 r3 H4 =>
 ift ((r3 : Int) != 0)
 (K Sl.nil r3 H4)
 (lp (α := Sl × Int) (Sl.nil, 0) H4 (fun x6 J7 H8 =>
 ift (decide ((x6.2 : Int) < (Sl.len r1 : Int)))
 (jn (α := Sl) (fun x11 H12 =>
 J7 (x11, (w .i64 (x6.2 + 1))) H12)
 (fun J10 => lp (α := Bool × Int) (false, 0) H8 (fun x14 J15 H16 =>
 ift (decide ((x14.2 : Int) < (Sl.len r2 : Int)))
 (jn (α := Bool) (fun x19 H20 =>
 J15 (x19, (w .i64 (x14.2 + 1))) H20)
 (fun J18 => dr H16 fun Hs22 =>
 ift x14.1
 (J18 true H16)
 (ixa r2 x14.2 fun p25 =>
 ldI Hs22 .i64 ((p25.1, p25.2 + (x14.2 : Int).toNat * 2).1, (p25.1, p25.2 + (x14.2 : Int).toNat * 2).2 + 1) fun x30 =>
 ift (decide ((x30 : Int) > 0))
 (ixa r1 x6.2 fun p33 =>
 ldL Hs22 ((p33.1, p33.2 + (x6.2 : Int).toNat * 2).1, (p33.1, p33.2 + (x6.2 : Int).toNat * 2).2 + 0) fun x38 =>
 ixa r2 x14.2 fun p40 =>
 ldL Hs22 ((p40.1, p40.2 + (x14.2 : Int).toNat * 2).1, (p40.1, p40.2 + (x14.2 : Int).toNat * 2).2 + 0) fun x45 =>
 Qbm C x38 x45 p_on (fun r48 H49 =>
 Heap.le Hs22 H49 ∧
 J18 r48 H49) H16)
 (J18 false H16))))
 (ift (!x14.1)
 (ixa r1 x6.2 fun p51 =>
 ldT H16 Qa.c (p51.1, p51.2 + (x6.2 : Int).toNat * 2) fun x56 =>
 apd (Qa.c Qa.zero) 32 x6.1 ((Qa.c x56) ++ []) 1 (fun r58 H59 =>
 J10 r58 H59) H16)
 (J10 x6.1 H16)))))
 (QP C x6.1 (fun r60 r61 H62 =>
 K r60 r61 H62) H8)))) H
theorem Qkf (C p_a p_b p_on K H) (h : Qhg C p_a p_b p_on K H) : Qdw C p_a p_b p_on K H := by
 refine Ye Tryz.func42 rfl Tryz.ntmps42 [(0, slv p_a), (1, slv p_b), (2, slv p_on)] (Zo (Za (Za (GL.nil (Zo (Zm (Zm (Zc h QgQ ?_))))))))
 rintro _ H4 ⟨r1, r2, r3, rfl, h⟩
 refine Zm (Yv (slv r1) rfl rfl (Yv (slv r2) rfl rfl (Yv (.int .i64 r3) rfl rfl (Za (Za (Za (GL.nil (GC.seq (Zo (Zm (Zi (.bool ((r3 : Int) != 0)) (GL.nil (Yd h (fun u5 h => ?_) fun u5 h => ?_)))))))))))))
 refine Zo (Zm (Za (Za (GL.nil ?_))))
 exact Y2 I3 ⟨Sl.nil, r3, rfl, h⟩
 refine GC.skip (Zo (Za (GL.nil (GC.seq (Zo (Za (GL.nil (GC.block (Yp h (fun x6 => [(11, slv x6.1), (12, .int .i64 x6.2), (2, slv p_on), (8, slv r1), (9, slv r2)]) ?_)))))))))
 intro x6 H8 J7 h
 refine GC.seq (Zo (Zm (Zm (Zq (Zi (.bool (decide ((x6.2 : Int) < (Sl.len r1 : Int)))) (GL.nil (Yd h (fun u9 h => ?_) fun u9 h => ?_)))))))
 refine GC.skip ?_
 obtain ⟨J10, h, hR13⟩ := h
 refine GC.join (α := Sl) J10 (fun x11 => [(11, slv x11), (2, slv p_on), (8, slv r1), (9, slv r2), (12, .int .i64 x6.2)]) ?_ ?_
 refine GC.block (Zo (Za (GL.nil (GC.seq (Zo (Za (GL.nil (GC.block (Yp h (fun x14 => [(13, .bool x14.1), (14, .int .i64 x14.2), (2, slv p_on), (8, slv r1), (9, slv r2), (11, slv x6.1), (12, .int .i64 x6.2)]) ?_)))))))))
 intro x14 H16 J15 h
 refine GC.seq (Zo (Zm (Zm (Zq (Zi (.bool (decide ((x14.2 : Int) < (Sl.len r2 : Int)))) (GL.nil (Yd h (fun u17 h => ?_) fun u17 h => ?_)))))))
 refine GC.skip (GC.seq (GC.block ?_))
 obtain ⟨J18, h, hR21⟩ := h
 refine GC.meet (α := Bool) J18 (fun x19 => [(13, .bool x19), (2, slv p_on), (8, slv r1), (9, slv r2), (11, slv x6.1), (12, .int .i64 x6.2), (14, .int .i64 x14.2)]) ?_ ?_
 obtain ⟨Hs22, hle23, h⟩ := h
 refine GC.any (Hs := Hs22) (by kernel_rfl) hle23 (Zp 0 rfl Ym (Zp 1 rfl Ym ?_))
 rcases h.em with ⟨u24, h⟩ | ⟨u24, h⟩
 refine Zj 2 rfl (Yw u24) (Zj 3 rfl (Yw u24) (Zj 4 rfl (Yw u24) (Zj 5 rfl (Yw u24) (Zj 6 rfl (Yw u24) (Zj 7 rfl (Yw u24) (Zj 8 rfl (Yw u24) (Zj 9 rfl ⟨_, rfl, .inr rfl⟩ (Zj 10 rfl ⟨_, rfl, .inr rfl⟩ (Zj 11 rfl ⟨_, rfl, .inr rfl⟩ (Zj 12 rfl ⟨_, rfl, .inr rfl⟩ (Zj 13 rfl ⟨_, rfl, .inr rfl⟩ (Zj 14 rfl ⟨_, rfl, .inr rfl⟩ (Zj 15 rfl ⟨_, rfl, .inr rfl⟩ (Zj 16 rfl ⟨_, rfl, .inr rfl⟩ (Zj 17 rfl ⟨_, rfl, .inr rfl⟩ (Zj 18 rfl ⟨_, rfl, .inr rfl⟩ (Zj 19 rfl ⟨_, rfl, .inr rfl⟩ (Zj 20 rfl ⟨_, rfl, .inr rfl⟩ (Zj 21 rfl (Yw u24) (Zp 22 rfl (OV.pickT rfl u24 rfl) (Zp 23 rfl Ya (GA.done (by kernel_rfl) ?_))))))))))))))))))))))
 exact Yj I3 true h
 refine Zg 2 rfl (Yt u24) Ym (Zg 3 rfl (Yt u24) Ym ?_)
 obtain ⟨p25, ha26, hb27, u28, hd29, h⟩ := h
 refine Zg 4 rfl (Yt u24) (OV.indexAddr rfl rfl rfl rfl ha26 hb27 u28 hd29) (Zg 5 rfl (Yt u24) Yf ?_)
 obtain ⟨x30, v31, h⟩ := h
 refine Zg 6 rfl (Yt u24) (Yo v31) (Zg 7 rfl (Yt u24) (OV.ibin (v := .bool (decide ((x30 : Int) > 0))) rfl rfl rfl) (Zg 8 rfl (Yt u24) Ym ?_))
 rcases h.em with ⟨u32, h⟩ | ⟨u32, h⟩
 refine Zg 9 rfl (Yt u32) Ym (Zg 10 rfl (Yt u32) Ym ?_)
 obtain ⟨p33, ha34, hb35, u36, hd37, h⟩ := h
 refine Zg 11 rfl (Yt u32) (OV.indexAddr rfl rfl rfl rfl ha34 hb35 u36 hd37) (Zg 12 rfl (Yt u32) Yf ?_)
 obtain ⟨x38, v39, h⟩ := h
 refine Zg 13 rfl (Yt u32) (Yo v39) (Zg 14 rfl (Yt u32) Ym (Zg 15 rfl (Yt u32) Ym ?_))
 obtain ⟨p40, ha41, hb42, u43, hd44, h⟩ := h
 refine Zg 16 rfl (Yt u32) (OV.indexAddr rfl rfl rfl rfl ha41 hb42 u43 hd44) (Zg 17 rfl (Yt u32) Yf ?_)
 obtain ⟨x45, v46, h⟩ := h
 refine Zg 18 rfl (Yt u32) (Yo v46) (Zg 19 rfl (Yt u32) Ym (GA.eff 20 rfl (by kernel_rfl) (GL.call h (Yt u32) rfl QhN (vs := [slv x38, slv x45, slv p_on]) rfl ?_)))
 rintro _ H49 ⟨r48, rfl, h⟩
 obtain ⟨hle47, h⟩ := h
 refine GA.back hle47 (Zg 21 rfl (Yt u24) (OV.pickT rfl u32 rfl) (Zp 22 rfl (OV.pickF rfl u24 rfl) (Zp 23 rfl Ya (GA.done (by kernel_rfl) ?_))))
 exact Yj I3 r48 h
 refine Zj 9 rfl (Yw u32) (Zj 10 rfl (Yw u32) (Zj 11 rfl (Yw u32) (Zj 12 rfl (Yw u32) (Zj 13 rfl (Yw u32) (Zj 14 rfl (Yw u32) (Zj 15 rfl (Yw u32) (Zj 16 rfl (Yw u32) (Zj 17 rfl (Yw u32) (Zj 18 rfl (Yw u32) (Zj 19 rfl (Yw u32) (Zj 20 rfl (Yw u32) (Zg 21 rfl (Yt u24) (OV.pickF rfl u32 rfl) (Zp 22 rfl (OV.pickF rfl u24 rfl) (Zp 23 rfl Ya (GA.done (by kernel_rfl) ?_)))))))))))))))
 exact Yj I3 false h
 intro x19 H20 h
 replace h := hR21 x19 H20 h
 refine GL.nil_to (fun _ _ h => h) (GC.region (Zm (Zi (.int .i64 (w .i64 (x14.2 + 1))) (Za ?_))))
 exact Yj I3 (x19, (w .i64 (x14.2 + 1))) h
 refine GC.exit_to (fun _ _ h => h) (Zo (Zm (Zv (OV.not rfl) (GL.nil ?_))))
 refine Yd h (fun u50 h => ?_) fun u50 h => ?_
 refine GC.region (Zm (Zm (Zm (Yx h fun p51 h => ?_))))
 obtain ⟨x56, v57, h⟩ := h
 refine Zv (OV.loadT rfl rfl rfl v57) (GL.appendLit (s := x6.1) (ys := (Qa.c x56) ++ []) (zc := Qa.c Qa.zero) (bytes := 32) h trivial rfl (fun _ => trivial) rfl (fun _ => rfl) (fun _ => rfl) (vs := [(0, .agg (Qa.c x56).toArray)]) rfl ⟨59, fun _ => by kernel_rfl⟩ ⟨⟨_, _, _, rfl, rfl, rfl, rfl, rfl, rfl⟩⟩ rfl rfl ?_)
 intro _ r58 H59 h
 refine Za ?_
 exact Yj I3 r58 h
 exact Yk I3 x6.1 h
 intro x11 H12 h
 replace h := hR13 x11 H12 h
 refine GC.region (Zm (Zi (.int .i64 (w .i64 (x6.2 + 1))) (Za ?_)))
 exact Yj I3 (x11, (w .i64 (x6.2 + 1))) h
 refine GC.exit_to (fun _ _ h => h) (Zo (Zm (Zc h Qan ?_)))
 rintro _ H62 ⟨r60, r61, rfl, h⟩
 refine Yv (slv r60) rfl rfl (Yv (.int .i64 r61) rfl rfl (Za (Za (GL.nil ?_))))
 exact Y2 I3 ⟨r60, r61, rfl, h⟩
def Qdl (C : Ctx) (p_s : Qc) (p_row : Sl) (K : Str → Bool → Heap → Prop) (H : Heap) : Prop :=
 nw (Qc.c p_s) (fun b1 H2 =>
 lp (α := Int) 0 H2 (fun x3 J4 H5 =>
 ift (decide ((x3 : Int) < (Sl.len p_row : Int)))
 (ldL H5 ((b1, 0).1, (b1, 0).2 + 0) fun x7 =>
 ldL H5 ((b1, 0).1, (b1, 0).2 + 0) fun x9 =>
 ldL H5 ((b1, 0).1, (b1, 0).2 + 0) fun x11 =>
 slL x7 0 (Sl.len x9 : Int) (Sl.len x11 : Int) 1 fun t13 =>
 apd ([.int .i64 0]) 8 t13 ([.int .i64 x3]) 1 (fun r19 H20 =>
 st ((b1, 0).1, (b1, 0).2 + 0) (slv r19) (fun H21 =>
 J4 (w .i64 (x3 + 1)) H21) H20) H5)
 (ldT H5 Qc.c (b1, 0) fun x22 =>
 Qax C x22 p_row (fun r24 r25 H26 =>
 K r24 r25 H26) H5))) H
theorem Qga (C p_s p_row K H) (h : Qdl C p_s p_row K H) : Qay C p_s p_row K H := by
 refine Ye Tryz.func43 rfl Tryz.ntmps43 [(0, .agg (Qc.c p_s).toArray), (1, slv p_row)] (Zo (GL.box (v := .agg (Qc.c p_s).toArray) (cs := Qc.c p_s) h trivial rfl rfl rfl ?_))
 intro b1 H2 h
 refine Za (Za (GL.nil (GC.seq (Zo (Zm (Zq (Zm (GL.nil (GC.block (Yp h (fun x3 => [(9, .int .i64 x3), (1, slv p_row), (2, pv (some (b1, 0))), (8, .int .i64 (Sl.len p_row : Int))]) ?_))))))))))
 intro x3 H5 J4 h
 refine Zo (Zi (.bool (decide ((x3 : Int) < (Sl.len p_row : Int)))) (GL.nil (GC.seq (Yd h (fun u6 h => ?_) fun u6 h => ?_))))
 refine GC.skip (GC.seq (GC.block (Zo (Zm (Za (GL.nil (GC.region (Zf (Yl h fun x7 h => ?_)))))))))
 refine Zf (Yl h fun x9 h => ?_)
 refine Zq (Zf (Yl h fun x11 h => ?_))
 refine Zq ?_
 obtain ⟨h14, h15, h16, h17, t13, h18, h⟩ := h
 refine Zv (OV.sliceSl (s := x7) h14 h15 h16 h17 h18 rfl rfl rfl rfl rfl rfl rfl (fun h => by first | rfl | cases h) rfl rfl) (Zm (GL.appendLit (s := t13) (ys := [.int .i64 x3]) (zc := [.int .i64 0]) (bytes := 8) h trivial rfl (fun _ => trivial) rfl (fun _ => rfl) (fun _ => rfl) (vs := [(0, .int .i64 x3)]) rfl ⟨3, fun _ => by kernel_rfl⟩ ⟨⟨_, _, _, rfl, rfl, rfl, rfl, rfl, rfl⟩⟩ rfl rfl ?_))
 intro _ r19 H20 h
 refine Zf (GL.store (p := ((b1, 0).1, (b1, 0).2 + 0)) (v := slv r19) h trivial rfl rfl rfl rfl ?_)
 intro H21 h
 refine GL.nil_to (fun _ _ h => h) (GC.region (Zi (.int .i64 (w .i64 (x3 + 1))) (Zm ?_)))
 exact Yj I3 (w .i64 (x3 + 1)) h
 refine GC.exit_to (fun _ _ h => h) (Zo ?_)
 obtain ⟨x22, v23, h⟩ := h
 refine Zv (OV.loadT rfl rfl rfl v23) (Zm (Zc h Qbw ?_))
 rintro _ H26 ⟨r24, r25, rfl, h⟩
 refine Yv (sv r24) rfl rfl (Yv (.bool r25) rfl rfl (Za (Za (GL.nil ?_))))
 exact Y2 I3 ⟨r24, r25, rfl, h⟩
def Qd7 (C : Ctx) (p_l : Sl) (K : Sl → Int → Heap → Prop) (H : Heap) : Prop :=
 QP C p_l (fun r1 r2 H3 =>
 lp (α := Sl × Int) (Sl.nil, 0) H3 (fun x4 J5 H6 =>
 ift (decide ((x4.2 : Int) < (Sl.len r1 : Int)))
 (jn (α := Sl) (fun x9 H10 =>
 J5 (x9, (w .i64 (x4.2 + 1))) H10)
 (fun J8 => ixa r1 x4.2 fun p12 =>
 ldI H6 .i64 ((p12.1, p12.2 + (x4.2 : Int).toNat * 2).1, (p12.1, p12.2 + (x4.2 : Int).toNat * 2).2 + 1) fun x17 =>
 ift (decide ((x17 : Int) > 0))
 (ixa r1 x4.2 fun p20 =>
 ldL H6 ((p20.1, p20.2 + (x4.2 : Int).toNat * 2).1, (p20.1, p20.2 + (x4.2 : Int).toNat * 2).2 + 0) fun x25 =>
 apd (Qa.c Qa.zero) 32 x4.1 ((Qa.c (⟨x25, 1⟩ : Qa)) ++ []) 1 (fun r27 H28 =>
 J8 r27 H28) H6)
 (J8 x4.1 H6)))
 (K x4.1 r2 H6))) H
theorem Qhs (C p_l K H) (h : Qd7 C p_l K H) : QbK C p_l K H := by
 refine Ye Tryz.func44 rfl Tryz.ntmps44 [(0, slv p_l)] (Zo (Za (Za (GL.nil (Zo (Zm (Zc h Qan ?_)))))))
 rintro _ H3 ⟨r1, r2, rfl, h⟩
 refine Zm (Yv (slv r1) rfl rfl (Yv (.int .i64 r2) rfl rfl (Za (Za (GL.nil (Zo (Za (GL.nil (GC.seq (Zo (Za (GL.nil (GC.block (Yp h (fun x4 => [(6, slv x4.1), (7, .int .i64 x4.2), (4, slv r1), (5, .int .i64 r2)]) ?_))))))))))))))
 intro x4 H6 J5 h
 refine GC.seq (Zo (Zm (Zm (Zq (Zi (.bool (decide ((x4.2 : Int) < (Sl.len r1 : Int)))) (GL.nil (Yd h (fun u7 h => ?_) fun u7 h => ?_)))))))
 refine GC.skip ?_
 obtain ⟨J8, h, hR11⟩ := h
 refine GC.join (α := Sl) J8 (fun x9 => [(6, slv x9), (4, slv r1), (5, .int .i64 r2), (7, .int .i64 x4.2)]) ?_ ?_
 refine GC.block (Zo (Zm (Zm (Yx h fun p12 h => ?_))))
 refine Zf (Yl h fun x17 h => ?_)
 refine Zi (.bool (decide ((x17 : Int) > 0))) (GL.nil (Yd h (fun u19 h => ?_) fun u19 h => ?_))
 refine GC.region (Zm (Zm (Zm (Yx h fun p20 h => ?_))))
 refine Zf (Yl h fun x25 h => ?_)
 refine Zv (OV.build (vs := [(0, slv x25), (1, .int .i64 1)]) (v := .agg (Qa.c (⟨x25, 1⟩ : Qa)).toArray) rfl (fun _ => by kernel_rfl)) (GL.appendLit (s := x4.1) (ys := (Qa.c (⟨x25, 1⟩ : Qa)) ++ []) (zc := Qa.c Qa.zero) (bytes := 32) h trivial rfl (fun _ => trivial) rfl (fun _ => rfl) (fun _ => rfl) (vs := [(0, .agg (Qa.c (⟨x25, 1⟩ : Qa)).toArray)]) rfl ⟨59, fun _ => by kernel_rfl⟩ ⟨⟨_, _, _, rfl, rfl, rfl, rfl, rfl, rfl⟩⟩ rfl rfl ?_)
 intro _ r27 H28 h
 refine Za ?_
 exact Yj I3 r27 h
 exact Yk I3 x4.1 h
 intro x9 H10 h
 replace h := hR11 x9 H10 h
 refine GC.region (Zm (Zi (.int .i64 (w .i64 (x4.2 + 1))) (Za ?_)))
 exact Yj I3 (x9, (w .i64 (x4.2 + 1))) h
 refine GC.exit_to (fun _ _ h => h) (Zo (Zm (Zm (Za (Za (GL.nil ?_))))))
 exact Y2 I3 ⟨x4.1, r2, rfl, h⟩
def QeO (C : Ctx) (p_a : Sl) (p_b : Sl) (K : Bool → Heap → Prop) (H : Heap) : Prop :=
 ift (((Sl.len p_a : Int) : Int) != (Sl.len p_b : Int))
 (K false H)
 (lp (α := Int) 0 H (fun x2 J3 H4 =>
 ift (decide ((x2 : Int) < (Sl.len p_a : Int)))
 (dr H4 fun Hs6 =>
 ixa p_a x2 fun p8 =>
 ldT Hs6 Qb.c (p8.1, p8.2 + (x2 : Int).toNat * 4) fun x13 =>
 ixa p_b x2 fun p15 =>
 ldT Hs6 Qb.c (p15.1, p15.2 + (x2 : Int).toNat * 4) fun x20 =>
 Qam C x13 x20 (fun r23 H24 =>
 Heap.le Hs6 H24 ∧
 ift (!r23)
 (K false H24)
 (J3 (w .i64 (x2 + 1)) H24)) H4)
 (K true H4)))
theorem Qh5 (C p_a p_b K H) (h : QeO C p_a p_b K H) : Qbl C p_a p_b K H := by
 refine Ye Tryz.func45 rfl Tryz.ntmps45 [(0, slv p_a), (1, slv p_b)] (Zo (Za (GL.nil (GC.seq (Zo (Zm (Zq (Zm (Zq (Zi (.bool (((Sl.len p_a : Int) : Int) != (Sl.len p_b : Int))) (GL.nil (Yd h (fun u1 h => ?_) fun u1 h => ?_))))))))))))
 refine Zo (Za (GL.nil ?_))
 exact Y1 I3 ⟨false, rfl, h⟩
 refine GC.skip (GC.seq (Zo (Za (GL.nil (GC.block (Yp h (fun x2 => [(5, .int .i64 x2), (0, slv p_a), (1, slv p_b)]) ?_))))))
 intro x2 H4 J3 h
 refine GC.seq (Zo (Zm (Zm (Zq (Zi (.bool (decide ((x2 : Int) < (Sl.len p_a : Int)))) (GL.nil (Yd h (fun u5 h => ?_) fun u5 h => ?_)))))))
 refine GC.skip (GC.seq (GC.block (GC.seq ?_)))
 obtain ⟨Hs6, hle7, h⟩ := h
 refine GC.any (Hs := Hs6) (by kernel_rfl) hle7 (Zp 0 rfl Ym (Zp 1 rfl Ym ?_))
 obtain ⟨p8, ha9, hb10, u11, hd12, h⟩ := h
 refine Zp 2 rfl (OV.indexAddr rfl rfl rfl rfl ha9 hb10 u11 hd12) ?_
 obtain ⟨x13, v14, h⟩ := h
 refine Zp 3 rfl (OV.loadT rfl rfl rfl v14) (Zp 4 rfl Ym (Zp 5 rfl Ym ?_))
 obtain ⟨p15, ha16, hb17, u18, hd19, h⟩ := h
 refine Zp 6 rfl (OV.indexAddr rfl rfl rfl rfl ha16 hb17 u18 hd19) ?_
 obtain ⟨x20, v21, h⟩ := h
 refine Zp 7 rfl (OV.loadT rfl rfl rfl v21) (GA.eff 8 rfl (by kernel_rfl) (Zc h QgK ?_))
 rintro _ H24 ⟨r23, rfl, h⟩
 obtain ⟨hle22, h⟩ := h
 refine GA.back hle22 (Zp 9 rfl (OV.not rfl) (GA.done (by kernel_rfl) (GL.nil (Yd h (fun u25 h => ?_) fun u25 h => ?_))))
 refine Zo (Za (GL.nil ?_))
 exact Y1 I3 ⟨false, rfl, h⟩
 refine GC.skip_to (fun _ _ h => h) (GC.region (Zm (Zi (.int .i64 (w .i64 (x2 + 1))) (Za ?_))))
 exact Yj I3 (w .i64 (x2 + 1)) h
 refine GC.exit_to (fun _ _ h => h) (Zo (Za (GL.nil ?_)))
 exact Y1 I3 ⟨true, rfl, h⟩
def QfZ (C : Ctx) (p_v : Qb) (K : Int → Heap → Prop) (H : Heap) : Prop :=
 nw (Qb.c p_v) (fun b1 H2 =>
 ldT H2 Qb.c (b1, 0) fun x3 =>
 Qal C x3 65 (fun r5 H6 =>
 ift (decide ((r5 : Int) > 64))
 (K 65 H6)
 (ldT H6 Qb.c (b1, 0) fun x8 =>
 QM C x8 (fun r10 r11 H12 =>
 ift (!r10)
 (K 4 H12)
 (ift (!r11)
 (K 40 H12)
 (K 0 H12))) H6)) H2) H
theorem Qjj (C p_v K H) (h : QfZ C p_v K H) : Qak C p_v K H := by
 refine Ye Tryz.func46 rfl Tryz.ntmps46 [(0, .agg (Qb.c p_v).toArray)] (Zo (GL.box (v := .agg (Qb.c p_v).toArray) (cs := Qb.c p_v) h trivial rfl rfl rfl ?_))
 intro b1 H2 h
 refine Za (GL.nil (GC.seq (Zo ?_)))
 obtain ⟨x3, v4, h⟩ := h
 refine Zv (OV.loadT rfl rfl rfl v4) (Zc h QfJ ?_)
 rintro _ H6 ⟨r5, rfl, h⟩
 refine Zi (.bool (decide ((r5 : Int) > 64))) (GL.nil (Yd h (fun u7 h => ?_) fun u7 h => ?_))
 refine Zo (Za (GL.nil ?_))
 exact Y1 I3 ⟨65, rfl, h⟩
 refine GC.skip (GC.seq (Zo ?_))
 obtain ⟨x8, v9, h⟩ := h
 refine Zv (OV.loadT rfl rfl rfl v9) (Zc h QdC ?_)
 rintro _ H12 ⟨r10, r11, rfl, h⟩
 refine Zm (Yv (.bool r10) rfl rfl (Yv (.bool r11) rfl rfl (Za (Za (GL.nil (GC.block (Zo (Zm (Zv (OV.not rfl) (Za (GL.nil (Yd h (fun u13 h => ?_) fun u13 h => ?_))))))))))))
 refine Zo (Za (GL.nil ?_))
 exact Y1 I3 ⟨4, rfl, h⟩
 refine Zo (Zm (Zv (OV.not rfl) (Za (GL.nil (Yd h (fun u14 h => ?_) fun u14 h => ?_)))))
 refine Zo (Za (GL.nil ?_))
 exact Y1 I3 ⟨40, rfl, h⟩
 refine GC.skip_to (fun _ _ h => h) (Zo (Za (GL.nil ?_)))
 exact Y1 I3 ⟨0, rfl, h⟩
def QiX (C : Ctx) (p_a : Sl) (p_b : Sl) (K : Sl → Int → Heap → Prop) (H : Heap) : Prop :=
 nw ((Qf.c (⟨p_a, (.func (.func 52) (List.toArray []) (List.toArray []) : Value)⟩ : Qf)) ++ (Qf.c (⟨p_b, (.func (.func 52) (List.toArray []) (List.toArray []) : Value)⟩ : Qf)) ++ []) (fun b1 H2 =>
 Qc7 C (Sl.of (some (b1, 0)) 2 2) (fun r3 r4 H5 =>
 K r3 r4 H5) H2) H
theorem QlK (C p_a p_b K H) (h : QiX C p_a p_b K H) : QcZ C p_a p_b K H := by
 refine Ye Tryz.func47 rfl Tryz.ntmps47 [(0, slv p_a), (1, slv p_b)] (Zo (Za (Za (GL.nil (Zo (Zm (Zv (OV.build (vs := [(0, slv p_a), (1, .func (.func 52) (List.toArray []) (List.toArray []))]) (v := .agg (Qf.c (⟨p_a, (.func (.func 52) (List.toArray []) (List.toArray []) : Value)⟩ : Qf)).toArray) rfl (fun _ => by kernel_rfl)) (Zm (Zv (OV.build (vs := [(0, slv p_b), (1, .func (.func 52) (List.toArray []) (List.toArray []))]) (v := .agg (Qf.c (⟨p_b, (.func (.func 52) (List.toArray []) (List.toArray []) : Value)⟩ : Qf)).toArray) rfl (fun _ => by kernel_rfl)) (GL.buildSlice (cs := (Qf.c (⟨p_a, (.func (.func 52) (List.toArray []) (List.toArray []) : Value)⟩ : Qf)) ++ (Qf.c (⟨p_b, (.func (.func 52) (List.toArray []) (List.toArray []) : Value)⟩ : Qf)) ++ []) h trivial rfl (vs := [(0, .agg (Qf.c (⟨p_a, (.func (.func 52) (List.toArray []) (List.toArray []) : Value)⟩ : Qf)).toArray), (1, .agg (Qf.c (⟨p_b, (.func (.func 52) (List.toArray []) (List.toArray []) : Value)⟩ : Qf)).toArray)]) rfl ⟨89, fun _ => by kernel_rfl⟩ ?_))))))))))
 intro b1 H2 h
 refine Zc h Qfc ?_
 rintro _ H5 ⟨r3, r4, rfl, h⟩
 refine Yv (slv r3) rfl rfl (Yv (.int .i64 r4) rfl rfl (Za (Za (GL.nil ?_))))
 exact Y2 I3 ⟨r3, r4, rfl, h⟩
def QC (C : Ctx) (p_s : Sl) (p_del : Value) (K : Sl → Heap → Prop) (H : Heap) : Prop :=
 QG C p_s p_del (fun r1 H2 =>
 ift ((r1 : Int) == (-1))
 (K p_s H2)
 (lp (α := Int × Int) (r1, (w .i64 (r1 + 1))) H2 (fun x4 J5 H6 =>
 ift (decide ((x4.2 : Int) < (Sl.len p_s : Int)))
 (jn (α := Int) (fun x9 H10 =>
 J5 (x9, (w .i64 (x4.2 + 1))) H10)
 (fun J8 => ixa p_s x4.2 fun p12 =>
 ldT H6 Qa.c (p12.1, p12.2 + (x4.2 : Int).toNat * 2) fun x17 =>
 nw (Qa.c Qa.zero) (fun b19 H20 =>
 stT (b19, 0) (Qa.c x17) (fun H21 =>
 ldT H21 Qa.c (b19, 0) fun x22 =>
 callU Tryz.prog C p_del [.agg (Qa.c x22).toArray] H21 (fun v H25 => ∃ (r24 : Bool), v = .bool r24 ∧
 ift (!r24)
 (ldT H25 Qa.c (b19, 0) fun x27 =>
 ixa p_s x4.1 fun p29 =>
 stT (p29.1, p29.2 + (x4.1 : Int).toNat * 2) (Qa.c x27) (fun H34 =>
 J8 (w .i64 (x4.1 + 1)) H34) H25)
 (J8 x4.1 H25))) H20) H6))
 (slL p_s x4.1 (Sl.len p_s : Int) (Sl.cap p_s : Int) 2 fun t35 =>
 clr (Qa.c Qa.zero) t35 (fun H41 =>
 slL p_s 0 x4.1 (Sl.cap p_s : Int) 2 fun t42 =>
 K t42 H41) H6)))) H
theorem Q2 (C p_s p_del K H) (h : QC C p_s p_del K H) : Qs C p_s p_del K H := by
 refine Ye Tryz.func48 rfl Tryz.ntmps48 [(0, slv p_s), (1, p_del)] (Zo (Za (GL.nil (Zo (Zm (Zm (Zc h Qa9 ?_)))))))
 rintro _ H2 ⟨r1, rfl, h⟩
 refine Za (GL.nil (GC.seq (Zo (Zm (Zi (.bool ((r1 : Int) == (-1))) (GL.nil (Yd h (fun u3 h => ?_) fun u3 h => ?_)))))))
 refine Zo (Zm (Za (GL.nil ?_)))
 exact Y1 I3 ⟨p_s, rfl, h⟩
 refine GC.skip (GC.seq (Zo (Zm (Zi (.int .i64 (w .i64 (r1 + 1))) (Za (GL.nil (GC.block (Yp h (fun x4 => [(5, .int .i64 x4.1), (6, .int .i64 x4.2), (0, slv p_s), (1, p_del)]) ?_))))))))
 intro x4 H6 J5 h
 refine GC.seq (Zo (Zm (Zm (Zq (Zi (.bool (decide ((x4.2 : Int) < (Sl.len p_s : Int)))) (GL.nil (Yd h (fun u7 h => ?_) fun u7 h => ?_)))))))
 refine GC.skip ?_
 obtain ⟨J8, h, hR11⟩ := h
 refine GC.join (α := Int) J8 (fun x9 => [(5, .int .i64 x9), (0, slv p_s), (1, p_del), (6, .int .i64 x4.2)]) ?_ ?_
 refine GC.block (Zo (Zm (Zm (Yx h fun p12 h => ?_))))
 obtain ⟨x17, v18, h⟩ := h
 refine Zv (OV.loadT rfl rfl rfl v18) (GL.alloc (cs := Qa.c Qa.zero) h trivial rfl rfl rfl ?_)
 intro b19 H20 h
 refine GL.storeT (p := (b19, 0)) (vs := Qa.c x17) h trivial rfl rfl rfl rfl ?_
 intro H21 h
 refine GL.nil (Zo (Zm ?_))
 obtain ⟨x22, v23, h⟩ := h
 refine Zv (OV.loadT rfl rfl rfl v23) (GL.callU (xv := p_del) (vs := [.agg (Qa.c x22).toArray]) h trivial rfl rfl rfl ?_)
 rintro _ H25 ⟨r24, rfl, h⟩
 refine Zv (OV.not rfl) (GL.nil (Yd h (fun u26 h => ?_) fun u26 h => ?_))
 refine Zo (Zm (Zm ?_))
 obtain ⟨x27, v28, h⟩ := h
 refine Zv (OV.loadT rfl rfl rfl v28) (Yx h fun p29 h => ?_)
 refine GL.storeT (p := (p29.1, p29.2 + (x4.1 : Int).toNat * 2)) (vs := Qa.c x27) h trivial rfl rfl rfl rfl ?_
 intro H34 h
 refine GL.nil (GC.region (Zm (Zi (.int .i64 (w .i64 (x4.1 + 1))) (Za ?_))))
 exact Yj I3 (w .i64 (x4.1 + 1)) h
 exact Yk I3 x4.1 h
 intro x9 H10 h
 replace h := hR11 x9 H10 h
 refine GC.region (Zm (Zi (.int .i64 (w .i64 (x4.2 + 1))) (Za ?_)))
 exact Yj I3 (x9, (w .i64 (x4.2 + 1))) h
 refine GC.exit_to (fun _ _ h => h) (Zo (Zm (Zm ?_)))
 obtain ⟨h36, h37, h38, h39, t35, h40, h⟩ := h
 refine Zv (OV.sliceSl (s := p_s) h36 h37 h38 h39 h40 rfl rfl rfl rfl rfl rfl rfl (fun h => by first | rfl | cases h) rfl rfl) (GL.clear (s := t35) (zc := Qa.c Qa.zero) (bytes := 32) h trivial rfl ⟨⟨_, _, _, rfl, rfl, rfl, rfl, rfl, rfl⟩⟩ rfl ?_)
 intro H41 h
 refine GL.nil (Zo (Zm (Zm ?_)))
 obtain ⟨h43, h44, h45, h46, t42, h47, h⟩ := h
 refine Zv (OV.sliceSl (s := p_s) h43 h44 h45 h46 h47 rfl rfl rfl rfl rfl rfl rfl (fun h => by first | rfl | cases h) rfl rfl) (Za (GL.nil ?_))
 exact Y1 I3 ⟨t42, rfl, h⟩
def QdI (C : Ctx) (p_x : Qa) (K : Bool → Heap → Prop) (H : Heap) : Prop :=
 nw (Qa.c p_x) (fun b1 H2 =>
 ldI H2 .i64 ((b1, 0).1, (b1, 0).2 + 1) fun x3 =>
 K (decide ((x3 : Int) < 0)) H2) H
theorem Qgw (C p_x K H) (h : QdI C p_x K H) : Qap C p_x K H := by
 refine Ye Tryz.func49 rfl Tryz.ntmps49 [(0, .agg (Qa.c p_x).toArray)] (Zo (GL.box (v := .agg (Qa.c p_x).toArray) (cs := Qa.c p_x) h trivial rfl rfl rfl ?_))
 intro b1 H2 h
 refine Za (GL.nil (Zo (Zf (Yl h fun x3 h => ?_))))
 refine Zi (.bool (decide ((x3 : Int) < 0))) (Za (GL.nil ?_))
 exact Y1 I3 ⟨(decide ((x3 : Int) < 0)), rfl, h⟩
def Qff (C : Ctx) (p_v : Qb) (p_most : Int) (K : Int → Heap → Prop) (H : Heap) : Prop :=
 nw (Qb.c p_v) (fun b1 H2 =>
 ldS H2 ((b1, 0).1, (b1, 0).2 + 2) fun x3 =>
 lp (α := Int × Int) ((w .i64 (1 + (w .i64 (Int.tdiv (List.length x3 : Int) 50)))), 0) H2 (fun x5 J6 H7 =>
 ldL H7 ((b1, 0).1, (b1, 0).2 + 3) fun x8 =>
 ift ((decide ((x5.2 : Int) < (Sl.len x8 : Int))) && (decide ((x5.1 : Int) < p_most)))
 (ldL H7 ((b1, 0).1, (b1, 0).2 + 3) fun x12 =>
 ixa x12 x5.2 fun p14 =>
 ldT H7 Qb.c (p14.1, p14.2 + (x5.2 : Int).toNat * 4) fun x19 =>
 Qac C x19 (w .i64 (p_most - x5.1)) (fun r21 H22 =>
 J6 ((w .i64 (x5.1 + r21)), (w .i64 (x5.2 + 1))) H22) H7)
 (K x5.1 H7))) H
theorem Qik (C p_v p_most K H) (h : Qff C p_v p_most K H) : Qac C p_v p_most K H := by
 refine Ye Tryz.func50 rfl Tryz.ntmps50 [(0, .agg (Qb.c p_v).toArray), (1, .int .i64 p_most)] (Zo (GL.box (v := .agg (Qb.c p_v).toArray) (cs := Qb.c p_v) h trivial rfl rfl rfl ?_))
 intro b1 H2 h
 refine Za (GL.nil (Zo (Zf (Yl h fun x3 h => ?_))))
 refine Zr (Zv (OV.quo rfl rfl (by decide)) (Zi (.int .i64 (w .i64 (1 + (w .i64 (Int.tdiv (List.length x3 : Int) 50))))) (Za (GL.nil (GC.seq (Zo (Za (GL.nil (GC.block (Yp h (fun x5 => [(5, .int .i64 x5.1), (6, .int .i64 x5.2), (1, .int .i64 p_most), (2, pv (some (b1, 0)))]) ?_))))))))))
 intro x5 H7 J6 h
 refine GC.seq (Zo (Zm (Zf (Yl h fun x8 h => ?_))))
 refine Zq (Zi (.bool (decide ((x5.2 : Int) < (Sl.len x8 : Int)))) (Zm (GL.cut0 4 [(21, .bool ((decide ((x5.2 : Int) < (Sl.len x8 : Int))) && (decide ((x5.1 : Int) < p_most)))), (1, .int .i64 p_most), (2, pv (some (b1, 0))), (5, .int .i64 x5.1), (6, .int .i64 x5.2)] ?_ ?_)))
 rcases Zb (decide ((x5.2 : Int) < (Sl.len x8 : Int))) with u10 | u10
 refine Zu u10 Ym (Zu u10 Ym (Zu u10 (OV.ibin (v := .bool (decide ((x5.1 : Int) < p_most))) rfl rfl rfl) (Zt u10 ?_)))
 exact GL.jump0 (fun _ _ h => h) () rfl ⟨(by rw [u10]; rfl), rfl, rfl, rfl, rfl, trivial⟩
 refine Zk u10 (Zk u10 (Zk u10 (Zn u10 ?_)))
 exact GL.jump0 (fun _ _ h => h) () rfl ⟨(by rw [u10]; rfl), rfl, rfl, rfl, rfl, trivial⟩
 refine GL.nil (Yd h (fun u11 h => ?_) fun u11 h => ?_)
 refine GC.skip (GC.seq (GC.block (GC.region (Zm (Zf (Yl h fun x12 h => ?_))))))
 refine Zm (Yx h fun p14 h => ?_)
 obtain ⟨x19, v20, h⟩ := h
 refine Zv (OV.loadT rfl rfl rfl v20) (Zm (Zm (Zi (.int .i64 (w .i64 (p_most - x5.1))) (Zc h Qe6 ?_))))
 rintro _ H22 ⟨r21, rfl, h⟩
 refine Zi (.int .i64 (w .i64 (x5.1 + r21))) (Za (GL.nil_to (fun _ _ h => h) (GC.region (Zm (Zi (.int .i64 (w .i64 (x5.2 + 1))) (Za ?_))))))
 exact Yj I3 ((w .i64 (x5.1 + r21)), (w .i64 (x5.2 + 1))) h
 refine GC.exit_to (fun _ _ h => h) (Zo (Zm (Za (GL.nil ?_))))
 exact Y1 I3 ⟨x5.1, rfl, h⟩
def QhY (C : Ctx) (p_parts : Sl) (K : Sl → Int → Heap → Prop) (H : Heap) : Prop :=
 nw ([slv Sl.nil]) (fun b1 H2 =>
 nw ([.int .i64 0]) (fun b3 H4 =>
 nw ([slv Sl.nil]) (fun b5 H6 =>
 nw ([.int .i64 0]) (fun b7 H8 =>
 st (b7, 0) (.int .i64 0) (fun H9 =>
 Qc6 C p_parts (fun r10 H11 =>
 Rf.rng Tryz.prog C r10 2 H11
 (fun yl15 r16 us K19 H20 => ∃ (u12 : Qa) (u13 : Value), us = [.agg (Qa.c u12).toArray, u13] ∧
 nw (Qa.c Qa.zero) (fun b38 H39 =>
 stT (b38, 0) (Qa.c u12) (fun H40 =>
 H40 yl15 = some (true, Rf.lrec r16 .ready none) ∧
 ldL (Heap.put H40 yl15 (Rf.lrec r16 .busy none)) ((b38, 0).1, (b38, 0).2 + 0) fun x43 =>
 Qo C x43 (.func (.func 68) (List.toArray []) (List.toArray []) : Value) (fun r45 H46 =>
 ift r45
 (st (b1, 0) (slv Sl.nil) (fun H48 =>
 st (b3, 0) (.int .i64 4) (fun H49 =>
 H49 yl15 = some (true, Rf.lrec r16 .busy none) ∧ K19 false (Heap.put H49 yl15 (Rf.lrec r16 .done (some .ret)))) H48) H46)
 (jn (α := Unit) (fun x51 H52 =>
 dr H52 fun Hs60 =>
 ldL Hs60 (b5, 0) fun x62 =>
 ldL Hs60 ((b38, 0).1, (b38, 0).2 + 0) fun x64 =>
 ldI Hs60 .i64 ((b38, 0).1, (b38, 0).2 + 1) fun x66 =>
 callU Tryz.prog C u13 [.int .i64 x66] H52 (fun v H70 => ∃ (r69 : Int), v = .int .i64 r69 ∧
 Heap.le Hs60 H70 ∧
 nw ((Qa.c (⟨x64, r69⟩ : Qa)) ++ []) (fun b72 H73 =>
 Heap.le Hs60 H73 ∧
 apS (Qa.c Qa.zero) 32 x62 (Sl.of (some (b72, 0)) 1 1) (fun r75 H76 =>
 Heap.le Hs60 H76 ∧
 st (b5, 0) (slv r75) (fun H77 =>
 H77 yl15 = some (true, Rf.lrec r16 .busy none) ∧ K19 true (Heap.put H77 yl15 (Rf.lrec r16 .ready none))) H76) H73) H70))
 (fun J50 => ldI H46 .i64 ((b38, 0).1, (b38, 0).2 + 1) fun x54 =>
 Qc0 C x54 (fun r56 H57 =>
 ift r56
 (st (b7, 0) (.int .i64 80) (fun H59 =>
 J50 () H59) H57)
 (J50 () H57)) H46))) (Heap.put H40 yl15 (Rf.lrec r16 .busy none))) H39) H20)
 (fun D14 H227 =>
 ldI H227 .i64 (b7, 0) fun x84 =>
 ift ((x84 : Int) != 0)
 (dr H227 fun Hs87 =>
 (ldI H227 .i64 (b7, 0) fun x90 =>
 Heap.le Hs87 H227 ∧
 st (b1, 0) (slv Sl.nil) (fun H93 =>
 Heap.le Hs87 H93 ∧
 st (b3, 0) (.int .i64 x90) (fun H94 =>
 Rf.mk1 H94 D14 (fun Hm95 =>
 ldL Hm95 (b1, 0) fun x99 => ldI Hm95 .i64 (b3, 0) fun x101 =>
 K x99 x101 Hm95)) H93) H227) ∧
 (st (b1, 0) (slv Sl.nil) (fun H104 =>
 Heap.le Hs87 H104 ∧
 ldI H104 .i64 (b7, 0) fun x106 =>
 Heap.le Hs87 H104 ∧
 st (b3, 0) (.int .i64 x106) (fun H108 =>
 Rf.mk1 H108 D14 (fun Hm109 =>
 ldL Hm109 (b1, 0) fun x113 => ldI Hm109 .i64 (b3, 0) fun x115 =>
 K x113 x115 Hm109)) H104) H227))
 (ldL H227 (b5, 0) fun x117 =>
 Ql C x117 (.func (.func 71) (List.toArray []) (List.toArray []) : Value) (fun H119 =>
 lp (α := Sl) Sl.nil H119 (fun x120 J121 H122 =>
 ldL H122 (b5, 0) fun x123 =>
 ift (decide (((Sl.len x123 : Int) : Int) > 0))
 (lp (α := Int × Int) (0, 0) H122 (fun x126 J127 H128 =>
 jn (α := Bool) (fun x130 H131 =>
 ift x130
 (ldL H131 (b5, 0) fun x160 =>
 ixa x160 x126.1 fun p162 =>
 ldI H131 .i64 ((p162.1, p162.2 + (x126.1 : Int).toNat * 2).1, (p162.1, p162.2 + (x126.1 : Int).toNat * 2).2 + 1) fun x167 =>
 J127 ((w .i64 (x126.1 + 1)), (w .i64 (x126.2 + x167))) H131)
 (Qc0 C x126.2 (fun r169 H170 =>
 ift r169
 (st (b1, 0) (slv Sl.nil) (fun H172 =>
 st (b3, 0) (.int .i64 80) (fun H173 =>
 Rf.mk1 H173 D14 (fun Hm174 =>
 ldL Hm174 (b1, 0) fun x178 => ldI Hm174 .i64 (b3, 0) fun x180 =>
 K x178 x180 Hm174)) H172) H170)
 (jn (α := Sl) (fun x183 H184 =>
 ldL H184 (b5, 0) fun x200 =>
 slL x200 x126.1 (Sl.len x200 : Int) (Sl.cap x200 : Int) 2 fun t202 =>
 st (b5, 0) (slv t202) (fun H208 =>
 J121 x183 H208) H184)
 (fun J182 => ift ((x126.2 : Int) != 0)
 (ldL H170 (b5, 0) fun x187 =>
 ixa x187 0 fun p189 =>
 ldL H170 ((p189.1, p189.2 + (0 : Int).toNat * 2).1, (p189.1, p189.2 + (0 : Int).toNat * 2).2 + 0) fun x194 =>
 Qcn C x194 (fun r196 H197 =>
 apd (Qa.c Qa.zero) 32 x120 ((Qa.c (⟨r196, x126.2⟩ : Qa)) ++ []) 1 (fun r198 H199 =>
 J182 r198 H199) H197) H170)
 (J182 x120 H170)))) H131))
 (fun J129 => dr H128 fun Hs133 =>
 ldL Hs133 (b5, 0) fun x135 =>
 ift (decide ((x126.1 : Int) < (Sl.len x135 : Int)))
 (ldL Hs133 (b5, 0) fun x138 =>
 ixa x138 0 fun p140 =>
 ldL Hs133 ((p140.1, p140.2 + (0 : Int).toNat * 2).1, (p140.1, p140.2 + (0 : Int).toNat * 2).2 + 0) fun x145 =>
 ldL Hs133 (b5, 0) fun x147 =>
 ixa x147 x126.1 fun p149 =>
 ldL Hs133 ((p149.1, p149.2 + (x126.1 : Int).toNat * 2).1, (p149.1, p149.2 + (x126.1 : Int).toNat * 2).2 + 0) fun x154 =>
 QaK C x145 x154 (fun r157 H158 =>
 Heap.le Hs133 H158 ∧
 J129 ((r157 : Int) == 0) H158) H128)
 (J129 false H128))))
 (st (b1, 0) (slv x120) (fun H209 =>
 st (b3, 0) (.int .i64 0) (fun H210 =>
 Rf.mk1 H210 D14 (fun Hm211 =>
 ldL Hm211 (b1, 0) fun x215 => ldI Hm211 .i64 (b3, 0) fun x217 =>
 K x215 x217 Hm211)) H209) H122))) H227))
 (fun D14 H228 =>
 Rf.mk1 H228 D14 (fun Hm219 =>
 ldL Hm219 (b1, 0) fun x223 => ldI Hm219 .i64 (b3, 0) fun x225 =>
 K x223 x225 Hm219))) H9) H8) H6) H4) H2) H
theorem Qk8 (C p_parts K H) (h : QhY C p_parts K H) : Qc7 C p_parts K H := by
 refine Rf.Spec.enterI Tryz.func51 rfl Tryz.ntmps51 rfl ?_
 refine Rf.GI.sub [(0, slv p_parts)] ⟨rfl, trivial⟩ ?_
 refine Rf.GI.seq ?_
 refine Rf.GI.region (fun _ _ h => h) rfl ?_
 refine GL.alloc (cs := [slv Sl.nil]) h trivial rfl rfl rfl ?_
 intro b1 H2 h
 refine GL.alloc (cs := [.int .i64 0]) h trivial rfl rfl rfl ?_
 intro b3 H4 h
 refine Rf.GI.nil ?_
 refine Rf.GI.seq ?_
 refine Rf.GI.region (fun _ _ h => h) rfl ?_
 refine GL.alloc (cs := [slv Sl.nil]) h trivial rfl rfl rfl ?_
 intro b5 H6 h
 refine Rf.GI.nil ?_
 refine Rf.GI.seq ?_
 refine Rf.GI.region (fun _ _ h => h) rfl ?_
 refine GL.alloc (cs := [.int .i64 0]) h trivial rfl rfl rfl ?_
 intro b7 H8 h
 refine GL.store (p := (b7, 0)) (v := .int .i64 0) h trivial rfl rfl rfl rfl ?_
 intro H9 h
 refine Rf.GI.nil ?_
 refine Rf.GI.seq ?_
 refine Rf.GI.seq ?_
 refine Rf.GI.region (fun _ _ h => h) rfl ?_
 refine GL.val trivial rfl (OV.move (v := slv p_parts) rfl) ?_
 refine GL.call h trivial rfl Qlo (vs := [slv p_parts]) rfl ?_
 rintro _ H11 ⟨r10, rfl, h⟩
 refine Rf.GI.nil ?_
 refine Rf.GI.block ?_
 obtain ⟨gf22, xb23, hv24, hok25, h⟩ := h
 refine Rf.GI.rangeFunc (gf := gf22) (xb := xb23) (congrArg some hv24) hok25 ?_
 intro D14 yl15 r16 hD26 hyl27 hne28 hr18 hra29 hrb30 hfr31
 obtain ⟨Y17, hY32, h⟩ := h D14 yl15 r16 hD26 hyl27 hne28
 have hyy36 : Rf.YldS Tryz.prog C yl15 Y17 := by
  refine Rf.YldS.rounds hfr31 (by rw [hr18]; rfl) ?_
  intro us33 K19 H20 hz37
  obtain ⟨q34, q35, h⟩ := hY32 us33 K19 H20 hz37
  refine ⟨q34, by rw [hr18]; exact q35, ?_⟩
  obtain ⟨u12, u13, rfl, h⟩ := h
  rw [hr18, hra29]
  refine Rf.GI.sub [(2, pv (some (b1, 0))), (3, pv (some (b3, 0))), (4, pv (some (b5, 0))), (5, pv (some (b7, 0))), (13, .agg (Qa.c u12).toArray), (14, u13)] ⟨rfl, rfl, rfl, rfl, rfl, rfl, trivial⟩ ?_
  refine Rf.GI.seq ?_
  refine Rf.GI.region (fun _ _ h => h) rfl ?_
  refine GL.alloc (cs := Qa.c Qa.zero) h trivial rfl rfl rfl ?_
  intro b38 H39 h
  refine GL.storeT (p := (b38, 0)) (vs := Qa.c u12) h trivial rfl rfl rfl rfl ?_
  intro H40 h
  refine Rf.GI.nil ?_
  refine Rf.GI.region (fun _ _ h => h) rfl ?_
  refine GL.val trivial rfl (OV.assign (v := u13) rfl) ?_
  obtain ⟨q41, h⟩ := h
  refine Rf.RA.mk q41 ?_
  rw [hrb30]
  refine Rf.GI.block ?_
  refine Rf.GI.seq ?_
  refine Rf.GI.seq ?_
  refine Rf.GI.region (fun _ _ h => h) rfl ?_
  refine GL.val trivial rfl (OV.fieldAddr (p := (b38, 0)) rfl rfl) ?_
  obtain ⟨x43, hr44, h⟩ := h
  refine GL.val trivial rfl (OV.load (p := ((b38, 0).1, (b38, 0).2 + 0)) rfl rfl hr44) ?_
  refine GL.call h trivial rfl Q3 (vs := [slv x43, .func (.func 68) (List.toArray []) (List.toArray [])]) rfl ?_
  rintro _ H46 ⟨r45, rfl, h⟩
  refine Rf.GI.nil ?_
  refine Rf.GI.cond (b := r45) rfl (fun hc47 => ?_) (fun hc47 => ?_)
  ·replace h := And.left h hc47
   refine Rf.GI.seq ?_
   refine Rf.GI.region (fun _ _ h => h) rfl ?_
   refine GL.store (p := (b1, 0)) (v := slv Sl.nil) h trivial rfl rfl rfl rfl ?_
   intro H48 h
   refine GL.store (p := (b3, 0)) (v := .int .i64 4) h trivial rfl rfl rfl rfl ?_
   intro H49 h
   refine Rf.GI.nil ?_
   exact Rf.GI.ret (fun _ _ hf hs => ⟨_, hs, h⟩)
  ·replace h := And.right h hc47
   refine Rf.GI.skip ?_
   obtain ⟨J50, h, hR53⟩ := h
   refine Rf.GI.join (α := Unit) J50 (fun _ => [(2, pv (some (b1, 0))), (3, pv (some (b3, 0))), (4, pv (some (b5, 0))), (6, pv (some (b38, 0))), (7, u13)]) ?_ ?_
   ·skip
    refine Rf.GI.seq ?_
    refine Rf.GI.region (fun _ _ h => h) rfl ?_
    refine GL.val trivial rfl (OV.fieldAddr (p := (b38, 0)) rfl rfl) ?_
    obtain ⟨x54, hr55, h⟩ := h
    refine GL.val trivial rfl (OV.load (p := ((b38, 0).1, (b38, 0).2 + 1)) rfl rfl hr55) ?_
    refine GL.call h trivial rfl QiN (vs := [.int .i64 x54]) rfl ?_
    rintro _ H57 ⟨r56, rfl, h⟩
    refine Rf.GI.nil ?_
    refine Rf.GI.cond (b := r56) rfl (fun hc58 => ?_) (fun hc58 => ?_)
    ·replace h := And.left h hc58
     refine Rf.GI.region (fun _ _ h => h) rfl ?_
     refine GL.store (p := (b7, 0)) (v := .int .i64 80) h trivial rfl rfl rfl rfl ?_
     intro H59 h
     exact GL.jump (fun _ _ h => h) () h ⟨rfl, rfl, rfl, rfl, rfl, trivial⟩
    ·replace h := And.right h hc58
     exact Rf.GI.jump (fun _ _ h => h) () h ⟨rfl, rfl, rfl, rfl, rfl, trivial⟩
   ·intro x51 H52 h
    replace h := hR53 x51 H52 h
    obtain ⟨Hs60, hle61, h⟩ := h
    refine Rf.GI.tail (Hs := Hs60) (fun _ _ h => h) rfl 10 (by kernel_rfl) hle61 (by kernel_rfl) ?_
    obtain ⟨x62, hr63, h⟩ := h
    refine GT.take 0 rfl (by kernel_rfl) (by kernel_rfl) (by kernel_rfl) rfl (fun _ _ _ h => False.elim h) trivial rfl (OV.load (p := (b5, 0)) rfl rfl hr63) ?_
    refine GT.take 1 rfl (by kernel_rfl) (by kernel_rfl) (by kernel_rfl) rfl (fun _ _ _ h => False.elim h) trivial rfl (OV.fieldAddr (p := (b38, 0)) rfl rfl) ?_
    obtain ⟨x64, hr65, h⟩ := h
    refine GT.take 2 rfl (by kernel_rfl) (by kernel_rfl) (by kernel_rfl) rfl (fun _ _ _ h => False.elim h) trivial rfl (OV.load (p := ((b38, 0).1, (b38, 0).2 + 0)) rfl rfl hr65) ?_
    refine GT.take 3 rfl (by kernel_rfl) (by kernel_rfl) (by kernel_rfl) rfl (fun _ _ _ h => False.elim h) trivial rfl (OV.move (v := u13) rfl) ?_
    refine GT.take 4 rfl (by kernel_rfl) (by kernel_rfl) (by kernel_rfl) rfl (fun _ _ _ h => False.elim h) trivial rfl (OV.fieldAddr (p := (b38, 0)) rfl rfl) ?_
    obtain ⟨x66, hr67, h⟩ := h
    refine GT.take 5 rfl (by kernel_rfl) (by kernel_rfl) (by kernel_rfl) rfl (fun _ _ _ h => False.elim h) trivial rfl (OV.load (p := ((b38, 0).1, (b38, 0).2 + 1)) rfl rfl hr67) ?_
    refine GT.eff 6 rfl (by kernel_rfl) rfl ?_
    refine GL.callU (xv := u13) (vs := [.int .i64 x66]) h trivial rfl rfl rfl ?_
    rintro _ H70 ⟨r69, rfl, h⟩
    obtain ⟨hle68, h⟩ := h
    refine GT.back hle68 ?_
    refine GT.take 7 rfl (by kernel_rfl) (by kernel_rfl) (by kernel_rfl) rfl (fun _ _ _ h => False.elim h) trivial rfl (OV.build (vs := [(0, slv x64), (1, .int .i64 r69)]) (v := .agg (Qa.c (⟨x64, r69⟩ : Qa)).toArray) rfl (fun _ => by kernel_rfl)) ?_
    refine GT.eff 8 rfl (by kernel_rfl) rfl ?_
    refine GL.buildSlice (cs := (Qa.c (⟨x64, r69⟩ : Qa)) ++ []) h trivial rfl (vs := [(0, .agg (Qa.c (⟨x64, r69⟩ : Qa)).toArray)]) rfl ⟨47, fun _ => by kernel_rfl⟩ ?_
    intro b72 H73 h
    obtain ⟨hle71, h⟩ := h
    refine GT.back hle71 ?_
    refine GT.eff 9 rfl (by kernel_rfl) rfl ?_
    refine GL.appendS (s := x62) (s2 := (Sl.of (some (b72, 0)) 1 1)) (zc := Qa.c Qa.zero) (bytes := 32) h trivial rfl rfl rfl ⟨⟨_, _, _, rfl, rfl, rfl, rfl, rfl, rfl⟩⟩ rfl ?_
    intro r75 H76 h
    obtain ⟨hle74, h⟩ := h
    refine GT.back hle74 ?_
    refine GT.done (by kernel_rfl) ?_
    show GL _ _ _ _ _ [_] _ _
    refine GL.store (p := (b5, 0)) (v := slv r75) h trivial rfl rfl rfl rfl ?_
    intro H77 h
    exact GL.ends (fun _ _ hf hs => ⟨_, hs, h⟩)
 refine Spec.mono (h hyy36) fun u78 H79 h => ?_
 obtain ⟨st80, pend81, k82, k83, ⟨rfl, h⟩ | ⟨rfl, h⟩⟩ := h
 ·refine Rf.RK.nrm (P := Tryz.prog) k82 k83 ?_
  refine Rf.GI.nil_to (fun _ _ h => h) ?_
  refine Rf.GI.seq ?_
  refine Rf.GI.seq ?_
  refine Rf.GI.region (fun _ _ h => h) rfl ?_
  obtain ⟨x84, hr85, h⟩ := h
  refine GL.val trivial rfl (OV.load (p := (b7, 0)) rfl rfl hr85) ?_
  refine GL.val trivial rfl (OV.ibin (v := .bool ((x84 : Int) != 0)) rfl rfl rfl) ?_
  refine Rf.GI.nil ?_
  refine Rf.GI.cond (b := (x84 : Int) != 0) rfl (fun hc86 => ?_) (fun hc86 => ?_)
  ·replace h := And.left h hc86
   refine Rf.GI.seq ?_
   obtain ⟨Hs87, hle88, h⟩ := h
   refine Rf.GI.tail (Hs := Hs87) (fun _ _ h => h) rfl 2 (by kernel_rfl) hle88 (by kernel_rfl) ?_
   refine GT.effs [0, 1] (by kernel_rfl) (by simp) (List.forall_mem_cons.2 ⟨⟨_, rfl, rfl, ?_⟩, List.forall_mem_cons.2 ⟨⟨_, rfl, rfl, ?_⟩, fun _ h => by cases h⟩⟩)
   ·replace h := h.1
    obtain ⟨x90, hr91, h⟩ := h
    refine GL.val trivial rfl (OV.load (p := (b7, 0)) rfl rfl hr91) ?_
    obtain ⟨hle89, h⟩ := h
    refine GT.back hle89 ?_
    refine GT.eff 1 rfl (by kernel_rfl) rfl ?_
    refine GL.store (p := (b1, 0)) (v := slv Sl.nil) h trivial rfl rfl rfl rfl ?_
    intro H93 h
    obtain ⟨hle92, h⟩ := h
    refine GT.back hle92 ?_
    refine GT.done (by kernel_rfl) ?_
    show GL _ _ _ _ _ [_] _ _
    refine GL.store (p := (b3, 0)) (v := .int .i64 x90) h trivial rfl rfl rfl rfl ?_
    intro H94 h
    refine Rf.GI.nil ?_
    obtain ⟨Hm95, hle96, h97, hd98, h⟩ := h
    refine Rf.GI.ret (fun _ _ hf hs => ?_)
    refine Rf.Qd5 hf hs hle96 h97 hd98 ?_
    obtain ⟨x99, hr100, h⟩ := h
    obtain ⟨x101, hr102, h⟩ := h
    exact (fun _ _ hf hs => QbH rfl (RV.cell (p := (b1, 0)) rfl rfl hr100) (RV.cell (p := (b3, 0)) rfl rfl hr102) hf hs ⟨x99, x101, rfl, h⟩)
   ·replace h := h.2
    refine GL.store (p := (b1, 0)) (v := slv Sl.nil) h trivial rfl rfl rfl rfl ?_
    intro H104 h
    obtain ⟨hle103, h⟩ := h
    refine GT.back hle103 ?_
    refine GT.eff 0 rfl (by kernel_rfl) rfl ?_
    obtain ⟨x106, hr107, h⟩ := h
    refine GL.val trivial rfl (OV.load (p := (b7, 0)) rfl rfl hr107) ?_
    obtain ⟨hle105, h⟩ := h
    refine GT.back hle105 ?_
    refine GT.done (by kernel_rfl) ?_
    show GL _ _ _ _ _ [_] _ _
    refine GL.store (p := (b3, 0)) (v := .int .i64 x106) h trivial rfl rfl rfl rfl ?_
    intro H108 h
    refine Rf.GI.nil ?_
    obtain ⟨Hm109, hle110, h111, hd112, h⟩ := h
    refine Rf.GI.ret (fun _ _ hf hs => ?_)
    refine Rf.Qd5 hf hs hle110 h111 hd112 ?_
    obtain ⟨x113, hr114, h⟩ := h
    obtain ⟨x115, hr116, h⟩ := h
    exact (fun _ _ hf hs => QbH rfl (RV.cell (p := (b1, 0)) rfl rfl hr114) (RV.cell (p := (b3, 0)) rfl rfl hr116) hf hs ⟨x113, x115, rfl, h⟩)
  ·replace h := And.right h hc86
   refine Rf.GI.skip ?_
   refine Rf.GI.seq ?_
   refine Rf.GI.region (fun _ _ h => h) rfl ?_
   obtain ⟨x117, hr118, h⟩ := h
   refine GL.val trivial rfl (OV.load (p := (b5, 0)) rfl rfl hr118) ?_
   refine GL.call h trivial rfl QaI (vs := [slv x117, .func (.func 71) (List.toArray []) (List.toArray [])]) rfl ?_
   rintro _ H119 ⟨rfl, h⟩
   refine Rf.GI.nil ?_
   refine Rf.GI.seq ?_
   refine Rf.GI.region (fun _ _ h => h) rfl ?_
   refine GL.val trivial rfl (OV.assign (v := slv Sl.nil) rfl) ?_
   refine Rf.GI.nil ?_
   refine Rf.GI.seq ?_
   refine Rf.GI.block ?_
   refine Rf.GI.loop (α := Sl) h (fun x120 => [(8, slv x120), (2, pv (some (b1, 0))), (3, pv (some (b3, 0))), (4, pv (some (b5, 0)))]) ⟨rfl, rfl, rfl, rfl, trivial⟩ ?_
   intro x120 H122 J121 h
   refine Rf.GI.seq ?_
   refine Rf.GI.seq ?_
   refine Rf.GI.region (fun _ _ h => h) rfl ?_
   obtain ⟨x123, hr124, h⟩ := h
   refine GL.val trivial rfl (OV.load (p := (b5, 0)) rfl rfl hr124) ?_
   refine GL.val trivial rfl (OV.lenSl (s := x123) rfl rfl) ?_
   refine GL.val trivial rfl (OV.ibin (v := .bool (decide (((Sl.len x123 : Int) : Int) > 0))) rfl rfl rfl) ?_
   refine Rf.GI.nil ?_
   refine Rf.GI.cond (b := decide (((Sl.len x123 : Int) : Int) > 0)) rfl (fun hc125 => ?_) (fun hc125 => ?_)
   ·replace h := And.left h hc125
    refine Rf.GI.skip ?_
    refine Rf.GI.block ?_
    refine Rf.GI.seq ?_
    refine Rf.GI.region (fun _ _ h => h) rfl ?_
    refine GL.val trivial rfl (OV.assign (v := .int .i64 0) rfl) ?_
    refine GL.val trivial rfl (OV.assign (v := .int .i64 0) rfl) ?_
    refine Rf.GI.nil ?_
    refine Rf.GI.seq ?_
    refine Rf.GI.block ?_
    refine Rf.GI.loop (α := Int × Int) h (fun x126 => [(9, .int .i64 x126.1), (10, .int .i64 x126.2), (2, pv (some (b1, 0))), (3, pv (some (b3, 0))), (4, pv (some (b5, 0))), (8, slv x120)]) ⟨rfl, rfl, rfl, rfl, rfl, rfl, trivial⟩ ?_
    intro x126 H128 J127 h
    refine Rf.GI.seq ?_
    refine Rf.GI.seq ?_
    obtain ⟨J129, h, hR132⟩ := h
    refine Rf.GI.meet (α := Bool) J129 (fun x130 => [(55, .bool x130), (2, pv (some (b1, 0))), (3, pv (some (b3, 0))), (4, pv (some (b5, 0))), (8, slv x120), (9, .int .i64 x126.1), (10, .int .i64 x126.2)]) ?_ ?_
    ·skip
     obtain ⟨Hs133, hle134, h⟩ := h
     refine Rf.GI.any (Hs := Hs133) (fun _ _ h => h) rfl (by kernel_rfl) hle134 ?_
     refine GA.take 0 rfl (by kernel_rfl) (by kernel_rfl) (by kernel_rfl) (fun _ _ _ h => False.elim h) trivial rfl (OV.move (v := .int .i64 x126.1) rfl) ?_
     obtain ⟨x135, hr136, h⟩ := h
     refine GA.take 1 rfl (by kernel_rfl) (by kernel_rfl) (by kernel_rfl) (fun _ _ _ h => False.elim h) trivial rfl (OV.load (p := (b5, 0)) rfl rfl hr136) ?_
     refine GA.take 2 rfl (by kernel_rfl) (by kernel_rfl) (by kernel_rfl) (fun _ _ _ h => False.elim h) trivial rfl (OV.lenSl (s := x135) rfl rfl) ?_
     refine GA.take 3 rfl (by kernel_rfl) (by kernel_rfl) (by kernel_rfl) (fun _ _ _ h => False.elim h) trivial rfl (OV.ibin (v := .bool (decide ((x126.1 : Int) < (Sl.len x135 : Int)))) rfl rfl rfl) ?_
     refine GA.take 4 rfl (by kernel_rfl) (by kernel_rfl) (by kernel_rfl) (fun _ _ _ h => False.elim h) trivial rfl (OV.move (v := .bool (decide ((x126.1 : Int) < (Sl.len x135 : Int)))) rfl) ?_
     rcases Bool.eq_false_or_eq_true (decide ((x126.1 : Int) < (Sl.len x135 : Int))) with hc137 | hc137
     ·replace h := And.left h hc137
      obtain ⟨x138, hr139, h⟩ := h
      refine GA.take 5 rfl (by kernel_rfl) (by kernel_rfl) (by kernel_rfl) (fun _ _ _ h => False.elim h) ⟨_, _, rfl, rfl, hc137⟩ rfl (OV.load (p := (b5, 0)) rfl rfl hr139) ?_
      obtain ⟨p140, ha141, hb142, hc143, hd144, h⟩ := h
      refine GA.take 6 rfl (by kernel_rfl) (by kernel_rfl) (by kernel_rfl) (fun _ _ _ h => False.elim h) ⟨_, _, rfl, rfl, hc137⟩ rfl (OV.indexAddr (s := x138) rfl rfl rfl rfl ha141 hb142 hc143 hd144) ?_
      refine GA.take 7 rfl (by kernel_rfl) (by kernel_rfl) (by kernel_rfl) (fun _ _ _ h => False.elim h) ⟨_, _, rfl, rfl, hc137⟩ rfl (OV.fieldAddr (p := (p140.1, p140.2 + (0 : Int).toNat * 2)) rfl rfl) ?_
      obtain ⟨x145, hr146, h⟩ := h
      refine GA.take 8 rfl (by kernel_rfl) (by kernel_rfl) (by kernel_rfl) (fun _ _ _ h => False.elim h) ⟨_, _, rfl, rfl, hc137⟩ rfl (OV.load (p := ((p140.1, p140.2 + (0 : Int).toNat * 2).1, (p140.1, p140.2 + (0 : Int).toNat * 2).2 + 0)) rfl rfl hr146) ?_
      obtain ⟨x147, hr148, h⟩ := h
      refine GA.take 9 rfl (by kernel_rfl) (by kernel_rfl) (by kernel_rfl) (fun _ _ _ h => False.elim h) ⟨_, _, rfl, rfl, hc137⟩ rfl (OV.load (p := (b5, 0)) rfl rfl hr148) ?_
      refine GA.take 10 rfl (by kernel_rfl) (by kernel_rfl) (by kernel_rfl) (fun _ _ _ h => False.elim h) ⟨_, _, rfl, rfl, hc137⟩ rfl (OV.move (v := .int .i64 x126.1) rfl) ?_
      obtain ⟨p149, ha150, hb151, hc152, hd153, h⟩ := h
      refine GA.take 11 rfl (by kernel_rfl) (by kernel_rfl) (by kernel_rfl) (fun _ _ _ h => False.elim h) ⟨_, _, rfl, rfl, hc137⟩ rfl (OV.indexAddr (s := x147) rfl rfl rfl rfl ha150 hb151 hc152 hd153) ?_
      refine GA.take 12 rfl (by kernel_rfl) (by kernel_rfl) (by kernel_rfl) (fun _ _ _ h => False.elim h) ⟨_, _, rfl, rfl, hc137⟩ rfl (OV.fieldAddr (p := (p149.1, p149.2 + (x126.1 : Int).toNat * 2)) rfl rfl) ?_
      obtain ⟨x154, hr155, h⟩ := h
      refine GA.take 13 rfl (by kernel_rfl) (by kernel_rfl) (by kernel_rfl) (fun _ _ _ h => False.elim h) ⟨_, _, rfl, rfl, hc137⟩ rfl (OV.load (p := ((p149.1, p149.2 + (x126.1 : Int).toNat * 2).1, (p149.1, p149.2 + (x126.1 : Int).toNat * 2).2 + 0)) rfl rfl hr155) ?_
      refine GA.eff 14 rfl (by kernel_rfl) ?_
      refine GL.call h ⟨_, _, rfl, rfl, hc137⟩ rfl QeF (vs := [slv x145, slv x154]) rfl ?_
      rintro _ H158 ⟨r157, rfl, h⟩
      obtain ⟨hle156, h⟩ := h
      refine GA.back hle156 ?_
      refine GA.take 15 rfl (by kernel_rfl) (by kernel_rfl) (by kernel_rfl) (fun _ _ _ h => False.elim h) ⟨_, _, rfl, rfl, hc137⟩ rfl (OV.ibin (v := .bool ((r157 : Int) == 0)) rfl rfl rfl) ?_
      refine GA.take 16 rfl (by kernel_rfl) (by kernel_rfl) (by kernel_rfl) (fun _ _ _ h => False.elim h) trivial rfl (OV.pickT (b := decide ((x126.1 : Int) < (Sl.len x135 : Int))) (v := .bool ((r157 : Int) == 0)) rfl hc137 rfl) ?_
      refine GA.done (by kernel_rfl) ?_
      exact GL.jump (fun _ _ h => h) ((r157 : Int) == 0) h ⟨rfl, rfl, rfl, rfl, rfl, rfl, rfl, trivial⟩
     ·replace h := And.right h hc137
      refine GA.skip 5 rfl (by kernel_rfl) (by kernel_rfl) (by kernel_rfl) (fun _ _ _ h => False.elim h) ⟨_, rfl, .inl ⟨_, rfl, hc137⟩⟩ rfl ?_
      refine GA.skip 6 rfl (by kernel_rfl) (by kernel_rfl) (by kernel_rfl) (fun _ _ _ h => False.elim h) ⟨_, rfl, .inl ⟨_, rfl, hc137⟩⟩ rfl ?_
      refine GA.skip 7 rfl (by kernel_rfl) (by kernel_rfl) (by kernel_rfl) (fun _ _ _ h => False.elim h) ⟨_, rfl, .inl ⟨_, rfl, hc137⟩⟩ rfl ?_
      refine GA.skip 8 rfl (by kernel_rfl) (by kernel_rfl) (by kernel_rfl) (fun _ _ _ h => False.elim h) ⟨_, rfl, .inl ⟨_, rfl, hc137⟩⟩ rfl ?_
      refine GA.skip 9 rfl (by kernel_rfl) (by kernel_rfl) (by kernel_rfl) (fun _ _ _ h => False.elim h) ⟨_, rfl, .inl ⟨_, rfl, hc137⟩⟩ rfl ?_
      refine GA.skip 10 rfl (by kernel_rfl) (by kernel_rfl) (by kernel_rfl) (fun _ _ _ h => False.elim h) ⟨_, rfl, .inl ⟨_, rfl, hc137⟩⟩ rfl ?_
      refine GA.skip 11 rfl (by kernel_rfl) (by kernel_rfl) (by kernel_rfl) (fun _ _ _ h => False.elim h) ⟨_, rfl, .inl ⟨_, rfl, hc137⟩⟩ rfl ?_
      refine GA.skip 12 rfl (by kernel_rfl) (by kernel_rfl) (by kernel_rfl) (fun _ _ _ h => False.elim h) ⟨_, rfl, .inl ⟨_, rfl, hc137⟩⟩ rfl ?_
      refine GA.skip 13 rfl (by kernel_rfl) (by kernel_rfl) (by kernel_rfl) (fun _ _ _ h => False.elim h) ⟨_, rfl, .inl ⟨_, rfl, hc137⟩⟩ rfl ?_
      refine GA.skip 14 rfl (by kernel_rfl) (by kernel_rfl) (by kernel_rfl) (fun _ _ _ h => False.elim h) ⟨_, rfl, .inl ⟨_, rfl, hc137⟩⟩ rfl ?_
      refine GA.skip 15 rfl (by kernel_rfl) (by kernel_rfl) (by kernel_rfl) (fun _ _ _ h => False.elim h) ⟨_, rfl, .inl ⟨_, rfl, hc137⟩⟩ rfl ?_
      refine GA.take 16 rfl (by kernel_rfl) (by kernel_rfl) (by kernel_rfl) (fun _ _ _ h => False.elim h) trivial rfl (OV.pickF (b := decide ((x126.1 : Int) < (Sl.len x135 : Int))) (v := .bool false) rfl hc137 rfl) ?_
      refine GA.done (by kernel_rfl) ?_
      exact GL.jump (fun _ _ h => h) false h ⟨rfl, rfl, rfl, rfl, rfl, rfl, rfl, trivial⟩
    ·intro x130 H131 h
     replace h := hR132 x130 H131 h
     refine Rf.GI.nil ?_
     refine Rf.GI.cond (b := x130) rfl (fun hc159 => ?_) (fun hc159 => ?_)
     ·replace h := And.left h hc159
      refine Rf.GI.skip ?_
      refine Rf.GI.block ?_
      refine Rf.GI.seq ?_
      refine Rf.GI.region (fun _ _ h => h) rfl ?_
      refine GL.val trivial rfl (OV.move (v := .int .i64 x126.2) rfl) ?_
      obtain ⟨x160, hr161, h⟩ := h
      refine GL.val trivial rfl (OV.load (p := (b5, 0)) rfl rfl hr161) ?_
      refine GL.val trivial rfl (OV.move (v := .int .i64 x126.1) rfl) ?_
      obtain ⟨p162, ha163, hb164, hc165, hd166, h⟩ := h
      refine GL.val trivial rfl (OV.indexAddr (s := x160) rfl rfl rfl rfl ha163 hb164 hc165 hd166) ?_
      refine GL.val trivial rfl (OV.fieldAddr (p := (p162.1, p162.2 + (x126.1 : Int).toNat * 2)) rfl rfl) ?_
      obtain ⟨x167, hr168, h⟩ := h
      refine GL.val trivial rfl (OV.load (p := ((p162.1, p162.2 + (x126.1 : Int).toNat * 2).1, (p162.1, p162.2 + (x126.1 : Int).toNat * 2).2 + 1)) rfl rfl hr168) ?_
      refine GL.val trivial rfl (OV.ibin (v := .int .i64 (w .i64 (x126.2 + x167))) rfl rfl rfl) ?_
      refine GL.val trivial rfl (OV.assign (v := .int .i64 (w .i64 (x126.2 + x167))) rfl) ?_
      refine Rf.GI.nil ?_
      refine Rf.GI.region (fun _ _ h => h) rfl ?_
      refine GL.val trivial rfl (OV.move (v := .int .i64 x126.1) rfl) ?_
      refine GL.val trivial rfl (OV.ibin (v := .int .i64 (w .i64 (x126.1 + 1))) rfl rfl rfl) ?_
      refine GL.val trivial rfl (OV.assign (v := .int .i64 (w .i64 (x126.1 + 1))) rfl) ?_
      exact GL.jump (fun _ _ h => h) ((w .i64 (x126.1 + 1)), (w .i64 (x126.2 + x167))) h ⟨rfl, rfl, rfl, rfl, rfl, rfl, trivial⟩
     ·replace h := And.right h hc159
      refine Rf.GI.exit_to (fun _ _ h => h) ?_
      refine Rf.GI.seq ?_
      refine Rf.GI.seq ?_
      refine Rf.GI.region (fun _ _ h => h) rfl ?_
      refine GL.val trivial rfl (OV.move (v := .int .i64 x126.2) rfl) ?_
      refine GL.call h trivial rfl QiN (vs := [.int .i64 x126.2]) rfl ?_
      rintro _ H170 ⟨r169, rfl, h⟩
      refine Rf.GI.nil ?_
      refine Rf.GI.cond (b := r169) rfl (fun hc171 => ?_) (fun hc171 => ?_)
      ·replace h := And.left h hc171
       refine Rf.GI.seq ?_
       refine Rf.GI.region (fun _ _ h => h) rfl ?_
       refine GL.store (p := (b1, 0)) (v := slv Sl.nil) h trivial rfl rfl rfl rfl ?_
       intro H172 h
       refine GL.store (p := (b3, 0)) (v := .int .i64 80) h trivial rfl rfl rfl rfl ?_
       intro H173 h
       refine Rf.GI.nil ?_
       obtain ⟨Hm174, hle175, h176, hd177, h⟩ := h
       refine Rf.GI.ret (fun _ _ hf hs => ?_)
       refine Rf.Qd5 hf hs hle175 h176 hd177 ?_
       obtain ⟨x178, hr179, h⟩ := h
       obtain ⟨x180, hr181, h⟩ := h
       exact (fun _ _ hf hs => QbH rfl (RV.cell (p := (b1, 0)) rfl rfl hr179) (RV.cell (p := (b3, 0)) rfl rfl hr181) hf hs ⟨x178, x180, rfl, h⟩)
      ·replace h := And.right h hc171
       refine Rf.GI.skip ?_
       obtain ⟨J182, h, hR185⟩ := h
       refine Rf.GI.join (α := Sl) J182 (fun x183 => [(8, slv x183), (2, pv (some (b1, 0))), (3, pv (some (b3, 0))), (4, pv (some (b5, 0))), (9, .int .i64 x126.1)]) ?_ ?_
       ·skip
        refine Rf.GI.seq ?_
        refine Rf.GI.region (fun _ _ h => h) rfl ?_
        refine GL.val trivial rfl (OV.move (v := .int .i64 x126.2) rfl) ?_
        refine GL.val trivial rfl (OV.ibin (v := .bool ((x126.2 : Int) != 0)) rfl rfl rfl) ?_
        refine Rf.GI.nil ?_
        refine Rf.GI.cond (b := (x126.2 : Int) != 0) rfl (fun hc186 => ?_) (fun hc186 => ?_)
        ·replace h := And.left h hc186
         refine Rf.GI.region (fun _ _ h => h) rfl ?_
         refine GL.val trivial rfl (OV.move (v := slv x120) rfl) ?_
         obtain ⟨x187, hr188, h⟩ := h
         refine GL.val trivial rfl (OV.load (p := (b5, 0)) rfl rfl hr188) ?_
         obtain ⟨p189, ha190, hb191, hc192, hd193, h⟩ := h
         refine GL.val trivial rfl (OV.indexAddr (s := x187) rfl rfl rfl rfl ha190 hb191 hc192 hd193) ?_
         refine GL.val trivial rfl (OV.fieldAddr (p := (p189.1, p189.2 + (0 : Int).toNat * 2)) rfl rfl) ?_
         obtain ⟨x194, hr195, h⟩ := h
         refine GL.val trivial rfl (OV.load (p := ((p189.1, p189.2 + (0 : Int).toNat * 2).1, (p189.1, p189.2 + (0 : Int).toNat * 2).2 + 0)) rfl rfl hr195) ?_
         refine GL.call h trivial rfl QiO (vs := [slv x194]) rfl ?_
         rintro _ H197 ⟨r196, rfl, h⟩
         refine GL.val trivial rfl (OV.move (v := .int .i64 x126.2) rfl) ?_
         refine GL.val trivial rfl (OV.build (vs := [(0, slv r196), (1, .int .i64 x126.2)]) (v := .agg (Qa.c (⟨r196, x126.2⟩ : Qa)).toArray) rfl (fun _ => by kernel_rfl)) ?_
         refine GL.appendLit (s := x120) (ys := (Qa.c (⟨r196, x126.2⟩ : Qa)) ++ []) (zc := Qa.c Qa.zero) (bytes := 32) h trivial rfl (fun _ => trivial) rfl (fun _ => rfl) (fun _ => rfl) (vs := [(0, .agg (Qa.c (⟨r196, x126.2⟩ : Qa)).toArray)]) rfl ⟨47, fun _ => by kernel_rfl⟩ ⟨⟨_, _, _, rfl, rfl, rfl, rfl, rfl, rfl⟩⟩ rfl rfl ?_
         intro _ r198 H199 h
         refine GL.val trivial rfl (OV.assign (v := slv r198) rfl) ?_
         exact GL.jump (fun _ _ h => h) r198 h ⟨rfl, rfl, rfl, rfl, rfl, trivial⟩
        ·replace h := And.right h hc186
         exact Rf.GI.jump (fun _ _ h => h) x120 h ⟨rfl, rfl, rfl, rfl, rfl, trivial⟩
       ·intro x183 H184 h
        replace h := hR185 x183 H184 h
        refine Rf.GI.region (fun _ _ h => h) rfl ?_
        obtain ⟨x200, hr201, h⟩ := h
        refine GL.val trivial rfl (OV.load (p := (b5, 0)) rfl rfl hr201) ?_
        refine GL.val trivial rfl (OV.move (v := .int .i64 x126.1) rfl) ?_
        obtain ⟨h203, h204, h205, h206, t202, h207, h⟩ := h
        refine GL.val trivial rfl (OV.sliceSl (s := x200) h203 h204 h205 h206 h207 rfl rfl rfl rfl rfl rfl rfl (fun h => by first | rfl | cases h) rfl rfl) ?_
        refine GL.store (p := (b5, 0)) (v := slv t202) h trivial rfl rfl rfl rfl ?_
        intro H208 h
        exact GL.jump (fun _ _ h => h) x183 h ⟨rfl, rfl, rfl, rfl, trivial⟩
   ·replace h := And.right h hc125
    refine Rf.GI.exit_to (fun _ _ h => h) ?_
    refine Rf.GI.seq ?_
    refine Rf.GI.region (fun _ _ h => h) rfl ?_
    refine GL.val trivial rfl (OV.move (v := slv x120) rfl) ?_
    refine GL.store (p := (b1, 0)) (v := slv x120) h trivial rfl rfl rfl rfl ?_
    intro H209 h
    refine GL.store (p := (b3, 0)) (v := .int .i64 0) h trivial rfl rfl rfl rfl ?_
    intro H210 h
    refine Rf.GI.nil ?_
    obtain ⟨Hm211, hle212, h213, hd214, h⟩ := h
    refine Rf.GI.ret (fun _ _ hf hs => ?_)
    refine Rf.Qd5 hf hs hle212 h213 hd214 ?_
    obtain ⟨x215, hr216, h⟩ := h
    obtain ⟨x217, hr218, h⟩ := h
    exact (fun _ _ hf hs => QbH rfl (RV.cell (p := (b1, 0)) rfl rfl hr216) (RV.cell (p := (b3, 0)) rfl rfl hr218) hf hs ⟨x215, x217, rfl, h⟩)
 ·refine Rf.RK.ret k82 k83 ?_
  obtain ⟨Hm219, hle220, h221, hd222, h⟩ := h
  refine (fun _ _ hf hs => ?_)
  refine Rf.Qd5 hf hs hle220 h221 hd222 ?_
  obtain ⟨x223, hr224, h⟩ := h
  obtain ⟨x225, hr226, h⟩ := h
  exact (fun _ _ hf hs => QbH rfl (RV.cell (p := (b1, 0)) rfl rfl hr224) (RV.cell (p := (b3, 0)) rfl rfl hr226) hf hs ⟨x223, x225, rfl, h⟩)
def Qm0 (C : Ctx) (p_n : Int) (K : Int → Heap → Prop) (H : Heap) : Prop :=
 K p_n H
theorem QmQ (C p_n K H) (h : Qm0 C p_n K H) : Qlc C p_n K H := by
 refine Ye Tryz.func52 rfl Tryz.ntmps52 [(0, .int .i64 p_n)] (Zo (Za (GL.nil (Zo (Zm (Za (GL.nil ?_)))))))
 exact Y1 I3 ⟨p_n, rfl, h⟩
def QfM (C : Ctx) (p_on : Sl) (K : Qc → Qc → Heap → Prop) (H : Heap) : Prop :=
 nw (Qc.c Qc.zero) (fun b1 H2 =>
 nw (Qc.c Qc.zero) (fun b3 H4 =>
 lp (α := Int) 0 H4 (fun x5 J6 H7 =>
 ift (decide ((x5 : Int) < (Sl.len p_on : Int)))
 (ixa p_on x5 fun p9 =>
 ldT H7 Qg.c (p9.1, p9.2 + (x5 : Int).toNat * 2) fun x14 =>
 nw (Qg.c Qg.zero) (fun b16 H17 =>
 stT (b16, 0) (Qg.c x14) (fun H18 =>
 ldL H18 ((b1, 0).1, (b1, 0).2 + 0) fun x19 =>
 ldI H18 .i64 ((b16, 0).1, (b16, 0).2 + 0) fun x21 =>
 apd ([.int .i64 0]) 8 x19 ([.int .i64 x21]) 1 (fun r23 H24 =>
 st ((b1, 0).1, (b1, 0).2 + 0) (slv r23) (fun H25 =>
 ldL H25 ((b3, 0).1, (b3, 0).2 + 0) fun x26 =>
 ldI H25 .i64 ((b16, 0).1, (b16, 0).2 + 1) fun x28 =>
 apd ([.int .i64 0]) 8 x26 ([.int .i64 x28]) 1 (fun r30 H31 =>
 st ((b3, 0).1, (b3, 0).2 + 0) (slv r30) (fun H32 =>
 J6 (w .i64 (x5 + 1)) H32) H31) H25) H24) H18) H17) H7)
 (dr H7 fun Hs33 =>
 (ldT H7 Qc.c (b1, 0) fun x36 =>
 Heap.le Hs33 H7 ∧
 (ldT H7 Qc.c (b3, 0) fun x39 =>
 Heap.le Hs33 H7 ∧
 stT (b1, 0) (Qc.c x36) (fun H42 =>
 Heap.le Hs33 H42 ∧
 stT (b3, 0) (Qc.c x39) (fun H43 =>
 ldT H43 Qc.c (b1, 0) fun x44 => ldT H43 Qc.c (b3, 0) fun x46 =>
 K x44 x46 H43) H42) H7) ∧
 (stT (b1, 0) (Qc.c x36) (fun H49 =>
 Heap.le Hs33 H49 ∧
 ldT H49 Qc.c (b3, 0) fun x51 =>
 Heap.le Hs33 H49 ∧
 stT (b3, 0) (Qc.c x51) (fun H53 =>
 ldT H53 Qc.c (b1, 0) fun x54 => ldT H53 Qc.c (b3, 0) fun x56 =>
 K x54 x56 H53) H49) H7)) ∧
 (ldT H7 Qc.c (b3, 0) fun x59 =>
 Heap.le Hs33 H7 ∧
 ldT H7 Qc.c (b1, 0) fun x62 =>
 Heap.le Hs33 H7 ∧
 stT (b1, 0) (Qc.c x62) (fun H65 =>
 Heap.le Hs33 H65 ∧
 stT (b3, 0) (Qc.c x59) (fun H66 =>
 ldT H66 Qc.c (b1, 0) fun x67 => ldT H66 Qc.c (b3, 0) fun x69 =>
 K x67 x69 H66) H65) H7)))) H2) H
theorem Qi6 (C p_on K H) (h : QfM C p_on K H) : QcU C p_on K H := by
 refine Ye Tryz.func53 rfl Tryz.ntmps53 [(0, slv p_on)] (Zo (GL.alloc (cs := Qc.c Qc.zero) h trivial rfl rfl rfl ?_))
 intro b1 H2 h
 refine GL.alloc (cs := Qc.c Qc.zero) h trivial rfl rfl rfl ?_
 intro b3 H4 h
 refine GL.nil (GC.seq (Zo (Zm (Zq (Zm (GL.nil (GC.block (Yp h (fun x5 => [(8, .int .i64 x5), (2, pv (some (b1, 0))), (3, pv (some (b3, 0))), (6, slv p_on), (7, .int .i64 (Sl.len p_on : Int))]) ?_))))))))
 intro x5 H7 J6 h
 refine Zo (Zi (.bool (decide ((x5 : Int) < (Sl.len p_on : Int)))) (GL.nil (GC.seq (Yd h (fun u8 h => ?_) fun u8 h => ?_))))
 refine GC.skip (GC.seq (GC.block (Zo (Yx h fun p9 h => ?_))))
 obtain ⟨x14, v15, h⟩ := h
 refine Zv (OV.loadT rfl rfl rfl v15) (GL.alloc (cs := Qg.c Qg.zero) h trivial rfl rfl rfl ?_)
 intro b16 H17 h
 refine GL.storeT (p := (b16, 0)) (vs := Qg.c x14) h trivial rfl rfl rfl rfl ?_
 intro H18 h
 refine GL.nil (Zo (Zf (Yl h fun x19 h => ?_)))
 refine Zf (Yl h fun x21 h => ?_)
 refine GL.appendLit (s := x19) (ys := [.int .i64 x21]) (zc := [.int .i64 0]) (bytes := 8) h trivial rfl (fun _ => trivial) rfl (fun _ => rfl) (fun _ => rfl) (vs := [(0, .int .i64 x21)]) rfl ⟨3, fun _ => by kernel_rfl⟩ ⟨⟨_, _, _, rfl, rfl, rfl, rfl, rfl, rfl⟩⟩ rfl rfl ?_
 intro _ r23 H24 h
 refine Zf (GL.store (p := ((b1, 0).1, (b1, 0).2 + 0)) (v := slv r23) h trivial rfl rfl rfl rfl ?_)
 intro H25 h
 refine GL.nil (GC.region (Zf (Yl h fun x26 h => ?_)))
 refine Zf (Yl h fun x28 h => ?_)
 refine GL.appendLit (s := x26) (ys := [.int .i64 x28]) (zc := [.int .i64 0]) (bytes := 8) h trivial rfl (fun _ => trivial) rfl (fun _ => rfl) (fun _ => rfl) (vs := [(0, .int .i64 x28)]) rfl ⟨3, fun _ => by kernel_rfl⟩ ⟨⟨_, _, _, rfl, rfl, rfl, rfl, rfl, rfl⟩⟩ rfl rfl ?_
 intro _ r30 H31 h
 refine Zf (GL.store (p := ((b3, 0).1, (b3, 0).2 + 0)) (v := slv r30) h trivial rfl rfl rfl rfl ?_)
 intro H32 h
 refine GL.nil_to (fun _ _ h => h) (GC.region (Zi (.int .i64 (w .i64 (x5 + 1))) (Zm ?_)))
 exact Yj I3 (w .i64 (x5 + 1)) h
 refine GC.exit_to (fun _ _ h => h) (GC.seq ?_)
 obtain ⟨Hs33, hle34, h⟩ := h
 refine GC.tail (Hs := Hs33) 3 (by kernel_rfl) hle34 (by kernel_rfl) (GT.effs [0, 1] (by kernel_rfl) (by simp) (List.forall_mem_cons.2 ⟨⟨_, rfl, rfl, ?_⟩, List.forall_mem_cons.2 ⟨⟨_, rfl, rfl, ?_⟩, fun _ h => by cases h⟩⟩))
 replace h := h.1
 obtain ⟨x36, v37, h⟩ := h
 refine Zv (OV.loadT rfl rfl rfl v37) ?_
 obtain ⟨hle35, h⟩ := h
 refine GT.back hle35 (GT.effs [1, 2] (by kernel_rfl) (by simp) (List.forall_mem_cons.2 ⟨⟨_, rfl, rfl, ?_⟩, List.forall_mem_cons.2 ⟨⟨_, rfl, rfl, ?_⟩, fun _ h => by cases h⟩⟩))
 replace h := h.1
 obtain ⟨x39, v40, h⟩ := h
 refine Zv (OV.loadT rfl rfl rfl v40) ?_
 obtain ⟨hle38, h⟩ := h
 refine GT.back hle38 (GT.eff 2 rfl (by kernel_rfl) rfl (GL.storeT (p := (b1, 0)) (vs := Qc.c x36) h trivial rfl rfl rfl rfl ?_))
 intro H42 h
 obtain ⟨hle41, h⟩ := h
 refine GT.back hle41 (GT.done (by kernel_rfl) ?_)
 show GL _ _ _ _ _ [_] _ _
 refine GL.storeT (p := (b3, 0)) (vs := Qc.c x39) h trivial rfl rfl rfl rfl ?_
 intro H43 h
 refine GL.nil ?_
 obtain ⟨x44, v45, h⟩ := h
 obtain ⟨x46, v47, h⟩ := h
 exact GC.ret (fun _ _ hf hs => QbH rfl (RV.cellT (p := (b1, 0)) (cs := Qc.c x44) rfl rfl rfl v45) (RV.cellT (p := (b3, 0)) (cs := Qc.c x46) rfl rfl rfl v47) hf hs ⟨x44, x46, rfl, h⟩)
 replace h := h.2
 refine GL.storeT (p := (b1, 0)) (vs := Qc.c x36) h trivial rfl rfl rfl rfl ?_
 intro H49 h
 obtain ⟨hle48, h⟩ := h
 refine GT.back hle48 (GT.eff 1 rfl (by kernel_rfl) rfl ?_)
 obtain ⟨x51, v52, h⟩ := h
 refine Zv (OV.loadT rfl rfl rfl v52) ?_
 obtain ⟨hle50, h⟩ := h
 refine GT.back hle50 (GT.done (by kernel_rfl) ?_)
 show GL _ _ _ _ _ [_] _ _
 refine GL.storeT (p := (b3, 0)) (vs := Qc.c x51) h trivial rfl rfl rfl rfl ?_
 intro H53 h
 refine GL.nil ?_
 obtain ⟨x54, v55, h⟩ := h
 obtain ⟨x56, v57, h⟩ := h
 exact GC.ret (fun _ _ hf hs => QbH rfl (RV.cellT (p := (b1, 0)) (cs := Qc.c x54) rfl rfl rfl v55) (RV.cellT (p := (b3, 0)) (cs := Qc.c x56) rfl rfl rfl v57) hf hs ⟨x54, x56, rfl, h⟩)
 replace h := h.2
 obtain ⟨x59, v60, h⟩ := h
 refine Zv (OV.loadT rfl rfl rfl v60) ?_
 obtain ⟨hle58, h⟩ := h
 refine GT.back hle58 (GT.eff 0 rfl (by kernel_rfl) rfl ?_)
 obtain ⟨x62, v63, h⟩ := h
 refine Zv (OV.loadT rfl rfl rfl v63) ?_
 obtain ⟨hle61, h⟩ := h
 refine GT.back hle61 (GT.eff 2 rfl (by kernel_rfl) rfl (GL.storeT (p := (b1, 0)) (vs := Qc.c x62) h trivial rfl rfl rfl rfl ?_))
 intro H65 h
 obtain ⟨hle64, h⟩ := h
 refine GT.back hle64 (GT.done (by kernel_rfl) ?_)
 show GL _ _ _ _ _ [_] _ _
 refine GL.storeT (p := (b3, 0)) (vs := Qc.c x59) h trivial rfl rfl rfl rfl ?_
 intro H66 h
 refine GL.nil ?_
 obtain ⟨x67, v68, h⟩ := h
 obtain ⟨x69, v70, h⟩ := h
 exact GC.ret (fun _ _ hf hs => QbH rfl (RV.cellT (p := (b1, 0)) (cs := Qc.c x67) rfl rfl rfl v68) (RV.cellT (p := (b3, 0)) (cs := Qc.c x69) rfl rfl rfl v70) hf hs ⟨x67, x69, rfl, h⟩)
def QeK (C : Ctx) (p_s : Qc) (p_l : Sl) (K : Option Nat → Heap → Prop) (H : Heap) : Prop :=
 nw (Qc.c p_s) (fun b1 H2 =>
 mkM (fun b3 H4 =>
 lp (α := Int) 0 H4 (fun x5 J6 H7 =>
 ift (decide ((x5 : Int) < (Sl.len p_l : Int)))
 (jn (α := Unit) (fun x10 H11 =>
 J6 (w .i64 (x5 + 1)) H11)
 (fun J9 => ixa p_l x5 fun p13 =>
 ldT H7 Qa.c (p13.1, p13.2 + (x5 : Int).toNat * 2) fun x18 =>
 nw (Qa.c Qa.zero) (fun b20 H21 =>
 stT (b20, 0) (Qa.c x18) (fun H22 =>
 ldT H22 Qc.c (b1, 0) fun x23 =>
 ldL H22 ((b20, 0).1, (b20, 0).2 + 0) fun x25 =>
 Qax C x23 x25 (fun r27 r28 H29 =>
 ift r28
 (lkM (fun x : Sl => (slv x : Value)) Sl.nil (some b3) r27 (fun x31 is32 =>
 ldT H29 Qa.c (b20, 0) fun x34 =>
 apd (Qa.c Qa.zero) 32 x31 ((Qa.c x34) ++ []) 1 (fun r36 H37 =>
 upM (fun x : Sl => (slv x : Value)) (some b3) r27 r36 (fun H38 =>
 J9 () H38) H37) H29) H29)
 (J9 () H29)) H22) H21) H7))
 (K (some b3) H7))) H2) H
theorem Qh1 (C p_s p_l K H) (h : QeK C p_s p_l K H) : Qb8 C p_s p_l K H := by
 refine Ye Tryz.func54 rfl Tryz.ntmps54 [(0, .agg (Qc.c p_s).toArray), (1, slv p_l)] (Zo (GL.box (v := .agg (Qc.c p_s).toArray) (cs := Qc.c p_s) h trivial rfl rfl rfl ?_))
 intro b1 H2 h
 refine Za (GL.nil (Zo (GL.makeMap h trivial rfl ?_)))
 intro b3 H4 h
 refine Za (GL.nil (GC.seq (Zo (Zm (Zq (Zm (GL.nil (GC.block (Yp h (fun x5 => [(13, .int .i64 x5), (2, pv (some (b1, 0))), (5, mv (some b3)), (11, slv p_l), (12, .int .i64 (Sl.len p_l : Int))]) ?_)))))))))
 intro x5 H7 J6 h
 refine Zo (Zi (.bool (decide ((x5 : Int) < (Sl.len p_l : Int)))) (GL.nil (GC.seq (Yd h (fun u8 h => ?_) fun u8 h => ?_))))
 refine GC.skip ?_
 obtain ⟨J9, h, hR12⟩ := h
 refine GC.join (α := Unit) J9 (fun _ => [(2, pv (some (b1, 0))), (5, mv (some b3)), (11, slv p_l), (12, .int .i64 (Sl.len p_l : Int)), (13, .int .i64 x5)]) ?_ ?_
 refine GC.block (Zo (Yx h fun p13 h => ?_))
 obtain ⟨x18, v19, h⟩ := h
 refine Zv (OV.loadT rfl rfl rfl v19) (GL.alloc (cs := Qa.c Qa.zero) h trivial rfl rfl rfl ?_)
 intro b20 H21 h
 refine GL.storeT (p := (b20, 0)) (vs := Qa.c x18) h trivial rfl rfl rfl rfl ?_
 intro H22 h
 refine GL.nil (Zo ?_)
 obtain ⟨x23, v24, h⟩ := h
 refine Zv (OV.loadT rfl rfl rfl v24) (Zf (Yl h fun x25 h => ?_))
 refine Zc h Qbw ?_
 rintro _ H29 ⟨r27, r28, rfl, h⟩
 refine Zm (Yv (sv r27) rfl rfl (Yv (.bool r28) rfl rfl (Za (Za (GL.nil (Zo (Zm (GL.nil (Yd h (fun u30 h => ?_) fun u30 h => ?_)))))))))
 refine GC.region (Zm (Zm (Zm (Zm ?_))))
 obtain ⟨x31, is32, v33, h⟩ := h
 refine Zv (OV.lookup1 (v := slv x31) (enc := (fun x : Sl => (slv x : Value))) (z := Sl.nil) (q := (some b3)) (k := r27) (x := x31) (b := is32) rfl v33 rfl rfl rfl rfl rfl) ?_
 obtain ⟨x34, v35, h⟩ := h
 refine Zv (OV.loadT rfl rfl rfl v35) (GL.appendLit (s := x31) (ys := (Qa.c x34) ++ []) (zc := Qa.c Qa.zero) (bytes := 32) h trivial rfl (fun _ => trivial) rfl (fun _ => rfl) (fun _ => rfl) (vs := [(0, .agg (Qa.c x34).toArray)]) rfl ⟨47, fun _ => by kernel_rfl⟩ ⟨⟨_, _, _, rfl, rfl, rfl, rfl, rfl, rfl⟩⟩ rfl rfl ?_)
 intro _ r36 H37 h
 refine GL.mapUpdate (enc := (fun x : Sl => (slv x : Value))) (q := (some b3)) (k := r27) (x := r36) h trivial rfl rfl rfl rfl rfl ?_
 intro H38 h
 exact Yj I3 () h
 exact Yk I3 () h
 intro x10 H11 h
 replace h := hR12 x10 H11 h
 refine GC.region (Zi (.int .i64 (w .i64 (x5 + 1))) (Zm ?_))
 exact Yj I3 (w .i64 (x5 + 1)) h
 refine GC.exit_to (fun _ _ h => h) (Zo (Zm (Za (GL.nil ?_))))
 exact Y1 I3 ⟨(some b3), rfl, h⟩
def Qd6 (C : Ctx) (p_s : Qc) (p_row : Sl) (K : Str → Bool → Heap → Prop) (H : Heap) : Prop :=
 nw (Qc.c p_s) (fun b1 H2 =>
 ldL H2 ((b1, 0).1, (b1, 0).2 + 0) fun x3 =>
 lp (α := Str × Int) ([], 0) H2 (fun x5 J6 H7 =>
 ift (decide ((x5.2 : Int) < (Sl.len x3 : Int)))
 (ixa x3 x5.2 fun p9 =>
 ldI H7 .i64 (p9.1, p9.2 + (x5.2 : Int).toNat * 1) fun x14 =>
 ift ((decide ((x14 : Int) < 0)) || (decide ((x14 : Int) ≥ (Sl.len p_row : Int))))
 (K [] false H7)
 (ixa p_row x14 fun p18 =>
 ldT H7 Qb.c (p18.1, p18.2 + (x14 : Int).toNat * 4) fun x23 =>
 QbV C x23 (fun r25 H26 =>
 catOk r25 ([59] : Str) ∧
 catOk x5.1 (r25 ++ ([59] : Str)) ∧
 J6 ((x5.1 ++ (r25 ++ ([59] : Str))), (w .i64 (x5.2 + 1))) H26) H7))
 (K x5.1 true H7))) H
theorem Qhr (C p_s p_row K H) (h : Qd6 C p_s p_row K H) : Qax C p_s p_row K H := by
 refine Ye Tryz.func55 rfl Tryz.ntmps55 [(0, .agg (Qc.c p_s).toArray), (1, slv p_row)] (Zo (GL.box (v := .agg (Qc.c p_s).toArray) (cs := Qc.c p_s) h trivial rfl rfl rfl ?_))
 intro b1 H2 h
 refine Za (Za (GL.nil (Zo (Za (GL.nil (GC.seq (Zo (Zf (Yl h fun x3 h => ?_)))))))))
 refine Zq (Zm (GL.nil (GC.block (Yp h (fun x5 => [(6, sv x5.1), (12, .int .i64 x5.2), (1, slv p_row), (10, slv x3), (11, .int .i64 (Sl.len x3 : Int))]) ?_))))
 intro x5 H7 J6 h
 refine Zo (Zi (.bool (decide ((x5.2 : Int) < (Sl.len x3 : Int)))) (GL.nil (GC.seq (Yd h (fun u8 h => ?_) fun u8 h => ?_))))
 refine GC.skip (GC.seq (GC.block (Zo (Yx h fun p9 h => ?_))))
 refine Yl h fun x14 h => ?_
 refine Za (GL.nil (GC.seq (Zo (Zm (Zi (.bool (decide ((x14 : Int) < 0))) (Zm (GL.cut0 5 [(23, .bool ((decide ((x14 : Int) < 0)) || (decide ((x14 : Int) ≥ (Sl.len p_row : Int))))), (1, slv p_row), (6, sv x5.1), (8, .int .i64 x14), (10, slv x3), (11, .int .i64 (Sl.len x3 : Int)), (12, .int .i64 x5.2)] ?_ ?_)))))))
 rcases Zb (decide ((x14 : Int) < 0)) with u16 | u16
 refine Zk u16 (Zk u16 (Zk u16 (Zk u16 (Zt u16 ?_))))
 exact GL.jump0 (fun _ _ h => h) () rfl ⟨(by rw [u16]; rfl), rfl, rfl, rfl, rfl, rfl, rfl, trivial⟩
 refine Zu u16 Ym (Zu u16 Ym (Zu u16 (OV.lenSl rfl rfl) (Zu u16 (OV.ibin (v := .bool (decide ((x14 : Int) ≥ (Sl.len p_row : Int)))) rfl rfl rfl) (Zn u16 ?_))))
 exact GL.jump0 (fun _ _ h => h) () rfl ⟨(by rw [u16]; rfl), rfl, rfl, rfl, rfl, rfl, rfl, trivial⟩
 refine GL.nil (Yd h (fun u17 h => ?_) fun u17 h => ?_)
 refine Zo (Za (Za (GL.nil ?_)))
 exact Y2 I3 ⟨[], false, rfl, h⟩
 refine GC.skip (GC.region (Zm (Zm (Zm (Yx h fun p18 h => ?_)))))
 obtain ⟨x23, v24, h⟩ := h
 refine Zv (OV.loadT rfl rfl rfl v24) (Zc h QkH ?_)
 rintro _ H26 ⟨r25, rfl, h⟩
 obtain ⟨hl27, h⟩ := h
 refine Zv (OV.cat (a := r25) (b := ([59] : Str)) rfl rfl hl27) ?_
 obtain ⟨hl28, h⟩ := h
 refine Zv (OV.cat (a := x5.1) (b := (r25 ++ ([59] : Str))) rfl rfl hl28) (Za (GL.nil_to (fun _ _ h => h) (GC.region (Zi (.int .i64 (w .i64 (x5.2 + 1))) (Zm ?_)))))
 exact Yj I3 ((x5.1 ++ (r25 ++ ([59] : Str))), (w .i64 (x5.2 + 1))) h
 refine GC.exit_to (fun _ _ h => h) (Zo (Zm (Za (Za (GL.nil ?_)))))
 exact Y2 I3 ⟨x5.1, true, rfl, h⟩
def Qlz (C : Ctx) (p_n : Int) (K : Int → Heap → Prop) (H : Heap) : Prop :=
 K (w .i64 (0 - p_n)) H
theorem Qk9 (C p_n K H) (h : Qlz C p_n K H) : Qiu C p_n K H := by
 refine Ye Tryz.func56 rfl Tryz.ntmps56 [(0, .int .i64 p_n)] (Zo (Za (GL.nil (Zo (Zm (Zv (OV.iun (v := .int .i64 (w .i64 (0 - p_n))) rfl rfl) (Za (GL.nil ?_))))))))
 exact Y1 I3 ⟨(w .i64 (0 - p_n)), rfl, h⟩
def QfW (C : Ctx) (p_l : Sl) (K : Sl → Int → Heap → Prop) (H : Heap) : Prop :=
 QaU C p_l (fun r1 H2 =>
 ift ((r1 : Int) != 0)
 (K Sl.nil r1 H2)
 (lp (α := Sl × Int) (Sl.nil, 0) H2 (fun x4 J5 H6 =>
 ift (decide ((x4.2 : Int) < (Sl.len p_l : Int)))
 (jn (α := Sl) (fun x9 H10 =>
 J5 (x9, (w .i64 (x4.2 + 1))) H10)
 (fun J8 => lp (α := Int) 0 H6 (fun x12 J13 H14 =>
 jn (α := Bool) (fun x16 H17 =>
 ift x16
 (J13 (w .i64 (x12 + 1)) H17)
 (jn (α := Bool) (fun x41 H42 =>
 ift x41
 (dr H42 fun Hs65 =>
 ixa x4.1 x12 fun p67 =>
 ldI Hs65 .i64 ((p67.1, p67.2 + (x12 : Int).toNat * 2).1, (p67.1, p67.2 + (x12 : Int).toNat * 2).2 + 1) fun x72 =>
 ixa p_l x4.2 fun p74 =>
 ldI Hs65 .i64 ((p74.1, p74.2 + (x4.2 : Int).toNat * 2).1, (p74.1, p74.2 + (x4.2 : Int).toNat * 2).2 + 1) fun x79 =>
 ixa x4.1 x12 fun p81 =>
 st ((p81.1, p81.2 + (x12 : Int).toNat * 2).1, (p81.1, p81.2 + (x12 : Int).toNat * 2).2 + 1) (.int .i64 (w .i64 (x72 + x79))) (fun H86 =>
 J8 x4.1 H86) H42)
 (apd (Qa.c Qa.zero) 32 x4.1 ((Qa.c (⟨Sl.nil, 0⟩ : Qa)) ++ []) 1 (fun r87 H88 =>
 dr H88 fun Hs89 =>
 slL r87 (w .i64 (x12 + 1)) (Sl.len r87 : Int) (Sl.cap r87 : Int) 2 fun t91 =>
 slL r87 x12 (Sl.len r87 : Int) (Sl.cap r87 : Int) 2 fun t97 =>
 cpy 2 t91 t97 (fun r104 H105 =>
 Heap.le Hs89 H105 ∧
 dr H105 fun Hs106 =>
 ixa p_l x4.2 fun p108 =>
 ldL Hs106 ((p108.1, p108.2 + (x4.2 : Int).toNat * 2).1, (p108.1, p108.2 + (x4.2 : Int).toNat * 2).2 + 0) fun x113 =>
 ixa p_l x4.2 fun p115 =>
 ldI Hs106 .i64 ((p115.1, p115.2 + (x4.2 : Int).toNat * 2).1, (p115.1, p115.2 + (x4.2 : Int).toNat * 2).2 + 1) fun x120 =>
 QaS C x113 (fun r123 H124 =>
 Heap.le Hs106 H124 ∧
 ixa r87 x12 fun p125 =>
 stT (p125.1, p125.2 + (x12 : Int).toNat * 2) (Qa.c (⟨r123, x120⟩ : Qa)) (fun H130 =>
 J8 r87 H130) H124) H105) H88) H42))
 (fun J40 => dr H17 fun Hs44 =>
 ift (decide ((x12 : Int) < (Sl.len x4.1 : Int)))
 (ixa x4.1 x12 fun p47 =>
 ldL Hs44 ((p47.1, p47.2 + (x12 : Int).toNat * 2).1, (p47.1, p47.2 + (x12 : Int).toNat * 2).2 + 0) fun x52 =>
 ixa p_l x4.2 fun p54 =>
 ldL Hs44 ((p54.1, p54.2 + (x4.2 : Int).toNat * 2).1, (p54.1, p54.2 + (x4.2 : Int).toNat * 2).2 + 0) fun x59 =>
 Qcb C x52 x59 (fun r62 H63 =>
 Heap.le Hs44 H63 ∧
 J40 ((r62 : Int) == 0) H63) H17)
 (J40 false H17))))
 (fun J15 => dr H14 fun Hs19 =>
 ift (decide ((x12 : Int) < (Sl.len x4.1 : Int)))
 (ixa x4.1 x12 fun p22 =>
 ldL Hs19 ((p22.1, p22.2 + (x12 : Int).toNat * 2).1, (p22.1, p22.2 + (x12 : Int).toNat * 2).2 + 0) fun x27 =>
 ixa p_l x4.2 fun p29 =>
 ldL Hs19 ((p29.1, p29.2 + (x4.2 : Int).toNat * 2).1, (p29.1, p29.2 + (x4.2 : Int).toNat * 2).2 + 0) fun x34 =>
 Qcb C x27 x34 (fun r37 H38 =>
 Heap.le Hs19 H38 ∧
 J15 (decide ((r37 : Int) < 0)) H38) H14)
 (J15 false H14)))))
 (lp (α := Sl × Int) (Sl.nil, 0) H6 (fun x131 J132 H133 =>
 ift (decide ((x131.2 : Int) < (Sl.len x4.1 : Int)))
 (jn (α := Sl) (fun x136 H137 =>
 J132 (x136, (w .i64 (x131.2 + 1))) H137)
 (fun J135 => ixa x4.1 x131.2 fun p139 =>
 ldI H133 .i64 ((p139.1, p139.2 + (x131.2 : Int).toNat * 2).1, (p139.1, p139.2 + (x131.2 : Int).toNat * 2).2 + 1) fun x144 =>
 jn (α := Bool) (fun b146 H157 =>
 ift b146
 (K Sl.nil 80 H157)
 (ixa x4.1 x131.2 fun p159 =>
 ldI H157 .i64 ((p159.1, p159.2 + (x131.2 : Int).toNat * 2).1, (p159.1, p159.2 + (x131.2 : Int).toNat * 2).2 + 1) fun x164 =>
 ift ((x164 : Int) != 0)
 (ixa x4.1 x131.2 fun p167 =>
 ldT H157 Qa.c (p167.1, p167.2 + (x131.2 : Int).toNat * 2) fun x172 =>
 apd (Qa.c Qa.zero) 32 x131.1 ((Qa.c x172) ++ []) 1 (fun r174 H175 =>
 J135 r174 H175) H157)
 (J135 x131.1 H157)))
 (fun J147 => ift (decide ((x144 : Int) < (-2147483647)))
 (J147 true H133)
 (ixa x4.1 x131.2 fun p150 =>
 ldI H133 .i64 ((p150.1, p150.2 + (x131.2 : Int).toNat * 2).1, (p150.1, p150.2 + (x131.2 : Int).toNat * 2).2 + 1) fun x155 =>
 J147 (decide ((x155 : Int) > 2147483647)) H133))))
 (K x131.1 0 H133)))))) H
theorem Qjg (C p_l K H) (h : QfW C p_l K H) : QP C p_l K H := by
 refine Ye Tryz.func57 rfl Tryz.ntmps57 [(0, slv p_l)] (Zo (Za (Za (GL.nil (Zo (Zm (Zc h Qjv ?_)))))))
 rintro _ H2 ⟨r1, rfl, h⟩
 refine Za (GL.nil (GC.seq (Zo (Zm (Zi (.bool ((r1 : Int) != 0)) (GL.nil (Yd h (fun u3 h => ?_) fun u3 h => ?_)))))))
 refine Zo (Zm (Za (Za (GL.nil ?_))))
 exact Y2 I3 ⟨Sl.nil, r1, rfl, h⟩
 refine GC.skip (Zo (Za (GL.nil (GC.seq (Zo (Za (GL.nil (GC.block (Yp h (fun x4 => [(5, slv x4.1), (6, .int .i64 x4.2), (0, slv p_l)]) ?_)))))))))
 intro x4 H6 J5 h
 refine GC.seq (Zo (Zm (Zm (Zq (Zi (.bool (decide ((x4.2 : Int) < (Sl.len p_l : Int)))) (GL.nil (Yd h (fun u7 h => ?_) fun u7 h => ?_)))))))
 refine GC.skip ?_
 obtain ⟨J8, h, hR11⟩ := h
 refine GC.join (α := Sl) J8 (fun x9 => [(5, slv x9), (0, slv p_l), (6, .int .i64 x4.2)]) ?_ ?_
 refine GC.block (Zo (Za (GL.nil (GC.seq (GC.block (Yp h (fun x12 => [(7, .int .i64 x12), (0, slv p_l), (5, slv x4.1), (6, .int .i64 x4.2)]) ?_))))))
 intro x12 H14 J13 h
 refine GC.seq (GC.seq ?_)
 obtain ⟨J15, h, hR18⟩ := h
 refine GC.meet (α := Bool) J15 (fun x16 => [(38, .bool x16), (0, slv p_l), (5, slv x4.1), (6, .int .i64 x4.2), (7, .int .i64 x12)]) ?_ ?_
 obtain ⟨Hs19, hle20, h⟩ := h
 refine GC.any (Hs := Hs19) (by kernel_rfl) hle20 (Zp 0 rfl Ym (Zp 1 rfl Ym (Zp 2 rfl (OV.lenSl rfl rfl) (Zp 3 rfl (OV.ibin (v := .bool (decide ((x12 : Int) < (Sl.len x4.1 : Int)))) rfl rfl rfl) (Zp 4 rfl Ym ?_)))))
 rcases h.em with ⟨u21, h⟩ | ⟨u21, h⟩
 refine Zg 5 rfl (Yt u21) Ym (Zg 6 rfl (Yt u21) Ym ?_)
 obtain ⟨p22, ha23, hb24, u25, hd26, h⟩ := h
 refine Zg 7 rfl (Yt u21) (OV.indexAddr rfl rfl rfl rfl ha23 hb24 u25 hd26) (Zg 8 rfl (Yt u21) Yf ?_)
 obtain ⟨x27, v28, h⟩ := h
 refine Zg 9 rfl (Yt u21) (Yo v28) (Zg 10 rfl (Yt u21) Ym (Zg 11 rfl (Yt u21) Ym ?_))
 obtain ⟨p29, ha30, hb31, u32, hd33, h⟩ := h
 refine Zg 12 rfl (Yt u21) (OV.indexAddr rfl rfl rfl rfl ha30 hb31 u32 hd33) (Zg 13 rfl (Yt u21) Yf ?_)
 obtain ⟨x34, v35, h⟩ := h
 refine Zg 14 rfl (Yt u21) (Yo v35) (GA.eff 15 rfl (by kernel_rfl) (GL.call h (Yt u21) rfl QeD (vs := [slv x27, slv x34]) rfl ?_))
 rintro _ H38 ⟨r37, rfl, h⟩
 obtain ⟨hle36, h⟩ := h
 refine GA.back hle36 (Zg 16 rfl (Yt u21) (OV.ibin (v := .bool (decide ((r37 : Int) < 0))) rfl rfl rfl) (Zp 17 rfl (OV.pickT rfl u21 rfl) (GA.done (by kernel_rfl) ?_)))
 exact Yj I3 (decide ((r37 : Int) < 0)) h
 refine Zj 5 rfl (Yw u21) (Zj 6 rfl (Yw u21) (Zj 7 rfl (Yw u21) (Zj 8 rfl (Yw u21) (Zj 9 rfl (Yw u21) (Zj 10 rfl (Yw u21) (Zj 11 rfl (Yw u21) (Zj 12 rfl (Yw u21) (Zj 13 rfl (Yw u21) (Zj 14 rfl (Yw u21) (Zj 15 rfl (Yw u21) (Zj 16 rfl (Yw u21) (Zp 17 rfl (OV.pickF rfl u21 rfl) (GA.done (by kernel_rfl) ?_)))))))))))))
 exact Yj I3 false h
 intro x16 H17 h
 replace h := hR18 x16 H17 h
 refine GL.nil (Yd h (fun u39 h => ?_) fun u39 h => ?_)
 refine GC.skip (GC.block (GC.region (Zm (Zi (.int .i64 (w .i64 (x12 + 1))) (Za ?_)))))
 exact Yj I3 (w .i64 (x12 + 1)) h
 refine GC.exit_to (fun _ _ h => h) (GC.seq (GC.seq ?_))
 obtain ⟨J40, h, hR43⟩ := h
 refine GC.meet (α := Bool) J40 (fun x41 => [(58, .bool x41), (0, slv p_l), (5, slv x4.1), (6, .int .i64 x4.2), (7, .int .i64 x12)]) ?_ ?_
 obtain ⟨Hs44, hle45, h⟩ := h
 refine GC.any (Hs := Hs44) (by kernel_rfl) hle45 (Zp 0 rfl Ym (Zp 1 rfl Ym (Zp 2 rfl (OV.lenSl rfl rfl) (Zp 3 rfl (OV.ibin (v := .bool (decide ((x12 : Int) < (Sl.len x4.1 : Int)))) rfl rfl rfl) (Zp 4 rfl Ym ?_)))))
 rcases h.em with ⟨u46, h⟩ | ⟨u46, h⟩
 refine Zg 5 rfl (Yt u46) Ym (Zg 6 rfl (Yt u46) Ym ?_)
 obtain ⟨p47, ha48, hb49, u50, hd51, h⟩ := h
 refine Zg 7 rfl (Yt u46) (OV.indexAddr rfl rfl rfl rfl ha48 hb49 u50 hd51) (Zg 8 rfl (Yt u46) Yf ?_)
 obtain ⟨x52, v53, h⟩ := h
 refine Zg 9 rfl (Yt u46) (Yo v53) (Zg 10 rfl (Yt u46) Ym (Zg 11 rfl (Yt u46) Ym ?_))
 obtain ⟨p54, ha55, hb56, u57, hd58, h⟩ := h
 refine Zg 12 rfl (Yt u46) (OV.indexAddr rfl rfl rfl rfl ha55 hb56 u57 hd58) (Zg 13 rfl (Yt u46) Yf ?_)
 obtain ⟨x59, v60, h⟩ := h
 refine Zg 14 rfl (Yt u46) (Yo v60) (GA.eff 15 rfl (by kernel_rfl) (GL.call h (Yt u46) rfl QeD (vs := [slv x52, slv x59]) rfl ?_))
 rintro _ H63 ⟨r62, rfl, h⟩
 obtain ⟨hle61, h⟩ := h
 refine GA.back hle61 (Zg 16 rfl (Yt u46) (OV.ibin (v := .bool ((r62 : Int) == 0)) rfl rfl rfl) (Zp 17 rfl (OV.pickT rfl u46 rfl) (GA.done (by kernel_rfl) ?_)))
 exact Yj I3 ((r62 : Int) == 0) h
 refine Zj 5 rfl (Yw u46) (Zj 6 rfl (Yw u46) (Zj 7 rfl (Yw u46) (Zj 8 rfl (Yw u46) (Zj 9 rfl (Yw u46) (Zj 10 rfl (Yw u46) (Zj 11 rfl (Yw u46) (Zj 12 rfl (Yw u46) (Zj 13 rfl (Yw u46) (Zj 14 rfl (Yw u46) (Zj 15 rfl (Yw u46) (Zj 16 rfl (Yw u46) (Zp 17 rfl (OV.pickF rfl u46 rfl) (GA.done (by kernel_rfl) ?_)))))))))))))
 exact Yj I3 false h
 intro x41 H42 h
 replace h := hR43 x41 H42 h
 refine GL.nil (Yd h (fun u64 h => ?_) fun u64 h => ?_)
 refine GC.seq ?_
 obtain ⟨Hs65, hle66, h⟩ := h
 refine GC.tail (Hs := Hs65) 15 (by kernel_rfl) hle66 (by kernel_rfl) (Zy 0 rfl Ym (Zy 1 rfl Ym (Zy 2 rfl Ym (Zy 3 rfl Ym ?_))))
 obtain ⟨p67, ha68, hb69, u70, hd71, h⟩ := h
 refine Zy 4 rfl (OV.indexAddr rfl rfl rfl rfl ha68 hb69 u70 hd71) (Zy 5 rfl Yf ?_)
 obtain ⟨x72, v73, h⟩ := h
 refine Zy 6 rfl (Yo v73) (Zy 7 rfl Ym (Zy 8 rfl Ym ?_))
 obtain ⟨p74, ha75, hb76, u77, hd78, h⟩ := h
 refine Zy 9 rfl (OV.indexAddr rfl rfl rfl rfl ha75 hb76 u77 hd78) (Zy 10 rfl Yf ?_)
 obtain ⟨x79, v80, h⟩ := h
 refine Zy 11 rfl (Yo v80) (Zy 12 rfl (OV.ibin (v := .int .i64 (w .i64 (x72 + x79))) rfl rfl rfl) ?_)
 obtain ⟨p81, ha82, hb83, u84, hd85, h⟩ := h
 refine Zy 13 rfl (OV.indexAddr rfl rfl rfl rfl ha82 hb83 u84 hd85) (Zy 14 rfl Yf (GT.done (by kernel_rfl) ?_))
 show GL _ _ _ _ _ [_] _ _
 refine GL.store (p := ((p81.1, p81.2 + (x12 : Int).toNat * 2).1, (p81.1, p81.2 + (x12 : Int).toNat * 2).2 + 1)) (v := .int .i64 (w .i64 (x72 + x79))) h trivial rfl rfl rfl rfl ?_
 intro H86 h
 refine GL.nil ?_
 exact GC.exit_jump (fun _ _ h => h) x4.1 h ⟨rfl, rfl, rfl, trivial⟩
 refine GC.skip (Zo (Zm (Zv (OV.build (vs := []) (v := .agg (Qa.c (⟨Sl.nil, 0⟩ : Qa)).toArray) rfl (fun _ => by kernel_rfl)) (GL.appendLit (s := x4.1) (ys := (Qa.c (⟨Sl.nil, 0⟩ : Qa)) ++ []) (zc := Qa.c Qa.zero) (bytes := 32) h trivial rfl (fun _ => trivial) rfl (fun _ => rfl) (fun _ => rfl) (vs := [(0, .agg (Qa.c (⟨Sl.nil, 0⟩ : Qa)).toArray)]) rfl ⟨59, fun _ => by kernel_rfl⟩ ⟨⟨_, _, _, rfl, rfl, rfl, rfl, rfl, rfl⟩⟩ rfl rfl ?_))))
 intro _ r87 H88 h
 refine Za (GL.nil (GC.seq ?_))
 obtain ⟨Hs89, hle90, h⟩ := h
 refine GC.any (Hs := Hs89) (by kernel_rfl) hle90 (Zp 0 rfl Ym (Zp 1 rfl Ym (Zp 2 rfl (OV.ibin (v := .int .i64 (w .i64 (x12 + 1))) rfl rfl rfl) ?_)))
 obtain ⟨h92, h93, h94, h95, t91, h96, h⟩ := h
 refine Zp 3 rfl (OV.sliceSl (s := r87) h92 h93 h94 h95 h96 rfl rfl rfl rfl rfl rfl rfl (fun h => by first | rfl | cases h) rfl rfl) (Zp 4 rfl Ym (Zp 5 rfl Ym ?_))
 obtain ⟨h98, h99, h100, h101, t97, h102, h⟩ := h
 refine Zp 6 rfl (OV.sliceSl (s := r87) h98 h99 h100 h101 h102 rfl rfl rfl rfl rfl rfl rfl (fun h => by first | rfl | cases h) rfl rfl) (GA.eff 7 rfl (by kernel_rfl) (GL.copy (s := t91) (s2 := t97) (z := 2) h trivial rfl rfl rfl rfl rfl ?_))
 intro r104 H105 h
 obtain ⟨hle103, h⟩ := h
 refine GA.back hle103 (GA.done (by kernel_rfl) (GL.nil ?_))
 obtain ⟨Hs106, hle107, h⟩ := h
 refine GC.tail (Hs := Hs106) 15 (by kernel_rfl) hle107 (by kernel_rfl) (Zy 0 rfl Ym (Zy 1 rfl Ym (Zy 2 rfl Ym (Zy 3 rfl Ym ?_))))
 obtain ⟨p108, ha109, hb110, u111, hd112, h⟩ := h
 refine Zy 4 rfl (OV.indexAddr rfl rfl rfl rfl ha109 hb110 u111 hd112) (Zy 5 rfl Yf ?_)
 obtain ⟨x113, v114, h⟩ := h
 refine Zy 6 rfl (Yo v114) (Zy 8 rfl Ym (Zy 9 rfl Ym ?_))
 obtain ⟨p115, ha116, hb117, u118, hd119, h⟩ := h
 refine Zy 10 rfl (OV.indexAddr rfl rfl rfl rfl ha116 hb117 u118 hd119) (Zy 11 rfl Yf ?_)
 obtain ⟨x120, v121, h⟩ := h
 refine Zy 12 rfl (Yo v121) (GT.eff 7 rfl (by kernel_rfl) rfl (Zc h Qe7 ?_))
 rintro _ H124 ⟨r123, rfl, h⟩
 obtain ⟨hle122, h⟩ := h
 refine GT.back hle122 (Zy 13 rfl (OV.build (vs := [(0, slv r123), (1, .int .i64 x120)]) (v := .agg (Qa.c (⟨r123, x120⟩ : Qa)).toArray) rfl (fun _ => by kernel_rfl)) ?_)
 obtain ⟨p125, ha126, hb127, u128, hd129, h⟩ := h
 refine Zy 14 rfl (OV.indexAddr rfl rfl rfl rfl ha126 hb127 u128 hd129) (GT.done (by kernel_rfl) ?_)
 show GL _ _ _ _ _ [_] _ _
 refine GL.storeT (p := (p125.1, p125.2 + (x12 : Int).toNat * 2)) (vs := Qa.c (⟨r123, x120⟩ : Qa)) h trivial rfl rfl rfl rfl ?_
 intro H130 h
 exact Yj I3 r87 h
 intro x9 H10 h
 replace h := hR11 x9 H10 h
 refine GC.region (Zm (Zi (.int .i64 (w .i64 (x4.2 + 1))) (Za ?_)))
 exact Yj I3 (x9, (w .i64 (x4.2 + 1))) h
 refine GC.exit_to (fun _ _ h => h) (Zo (Za (GL.nil (GC.seq (Zo (Za (GL.nil (GC.block (Yp h (fun x131 => [(8, slv x131.1), (9, .int .i64 x131.2), (5, slv x4.1)]) ?_)))))))))
 intro x131 H133 J132 h
 refine GC.seq (Zo (Zm (Zm (Zq (Zi (.bool (decide ((x131.2 : Int) < (Sl.len x4.1 : Int)))) (GL.nil (Yd h (fun u134 h => ?_) fun u134 h => ?_)))))))
 refine GC.skip ?_
 obtain ⟨J135, h, hR138⟩ := h
 refine GC.join (α := Sl) J135 (fun x136 => [(8, slv x136), (5, slv x4.1), (9, .int .i64 x131.2)]) ?_ ?_
 refine GC.block (GC.seq (Zo (Zm (Zm (Yx h fun p139 h => ?_)))))
 refine Zf (Yl h fun x144 h => ?_)
 refine Zi (.bool (decide ((x144 : Int) < (-2147483647)))) (Zm ?_)
 obtain ⟨J147, h, hR148⟩ := h
 refine GL.cut (α := Bool) 7 J147 (fun b146 => [(120, .bool b146), (5, slv x4.1), (8, slv x131.1), (9, .int .i64 x131.2)]) ?_ ?_
 rcases h.em with ⟨u149, h⟩ | ⟨u149, h⟩
 refine Zk u149 (Zk u149 (Zk u149 (Zk u149 (Zk u149 (Zk u149 (Zt u149 ?_))))))
 exact Yj I3 true h
 refine Zu u149 Ym (Zu u149 Ym ?_)
 obtain ⟨p150, ha151, hb152, u153, hd154, h⟩ := h
 refine Zu u149 (OV.indexAddr rfl rfl rfl rfl ha151 hb152 u153 hd154) (Zu u149 Yf ?_)
 obtain ⟨x155, v156, h⟩ := h
 refine Zu u149 (Yo v156) (Zu u149 (OV.ibin (v := .bool (decide ((x155 : Int) > 2147483647))) rfl rfl rfl) (Zn u149 ?_))
 exact Yj I3 (decide ((x155 : Int) > 2147483647)) h
 intro b146 H157 h
 replace h := hR148 b146 H157 h
 refine GL.nil (Yd h (fun u158 h => ?_) fun u158 h => ?_)
 refine Zo (Za (Za (GL.nil ?_)))
 exact Y2 I3 ⟨Sl.nil, 80, rfl, h⟩
 refine GC.skip (Zo (Zm (Zm (Yx h fun p159 h => ?_))))
 refine Zf (Yl h fun x164 h => ?_)
 refine Zi (.bool ((x164 : Int) != 0)) (GL.nil (Yd h (fun u166 h => ?_) fun u166 h => ?_))
 refine GC.region (Zm (Zm (Zm (Yx h fun p167 h => ?_))))
 obtain ⟨x172, v173, h⟩ := h
 refine Zv (OV.loadT rfl rfl rfl v173) (GL.appendLit (s := x131.1) (ys := (Qa.c x172) ++ []) (zc := Qa.c Qa.zero) (bytes := 32) h trivial rfl (fun _ => trivial) rfl (fun _ => rfl) (fun _ => rfl) (vs := [(0, .agg (Qa.c x172).toArray)]) rfl ⟨59, fun _ => by kernel_rfl⟩ ⟨⟨_, _, _, rfl, rfl, rfl, rfl, rfl, rfl⟩⟩ rfl rfl ?_)
 intro _ r174 H175 h
 refine Za ?_
 exact Yj I3 r174 h
 exact Yk I3 x131.1 h
 intro x136 H137 h
 replace h := hR138 x136 H137 h
 refine GC.region (Zm (Zi (.int .i64 (w .i64 (x131.2 + 1))) (Za ?_)))
 exact Yj I3 (x136, (w .i64 (x131.2 + 1))) h
 refine GC.exit_to (fun _ _ h => h) (Zo (Zm (Za (Za (GL.nil ?_)))))
 exact Y2 I3 ⟨x131.1, 0, rfl, h⟩
def QhT (C : Ctx) (p_a : Sl) (p_b : Sl) (K : Sl → Int → Heap → Prop) (H : Heap) : Prop :=
 Qdv C p_a p_b false (fun r1 H2 =>
 QP C r1 (fun r3 r4 H5 =>
 K r3 r4 H5) H2) H
theorem Qk3 (C p_a p_b K H) (h : QhT C p_a p_b K H) : Qc4 C p_a p_b K H := by
 refine Ye Tryz.func58 rfl Tryz.ntmps58 [(0, slv p_a), (1, slv p_b)] (Zo (Za (Za (GL.nil (Zo (Zm (Zm (Zc h QgN ?_))))))))
 rintro _ H2 ⟨r1, rfl, h⟩
 refine Zc h Qan ?_
 rintro _ H5 ⟨r3, r4, rfl, h⟩
 refine Yv (slv r3) rfl rfl (Yv (.int .i64 r4) rfl rfl (Za (Za (GL.nil ?_))))
 exact Y2 I3 ⟨r3, r4, rfl, h⟩
def Qhi (C : Ctx) (p_a : Sl) (p_b : Sl) (K : Sl → Sl → Int → Heap → Prop) (H : Heap) : Prop :=
 QP C p_a (fun r1 r2 H3 =>
 ift ((r2 : Int) != 0)
 (K Sl.nil Sl.nil r2 H3)
 (QP C p_b (fun r5 r6 H7 =>
 K r1 r5 r6 H7) H3)) H
theorem Qkh (C p_a p_b K H) (h : Qhi C p_a p_b K H) : Qdy C p_a p_b K H := by
 refine Ye Tryz.func59 rfl Tryz.ntmps59 [(0, slv p_a), (1, slv p_b)] (Zo (Za (Za (Za (GL.nil (Zo (Zm (Zc h Qan ?_))))))))
 rintro _ H3 ⟨r1, r2, rfl, h⟩
 refine Zm (Yv (slv r1) rfl rfl (Yv (.int .i64 r2) rfl rfl (Za (Za (GL.nil (GC.seq (Zo (Zm (Zi (.bool ((r2 : Int) != 0)) (GL.nil (Yd h (fun u4 h => ?_) fun u4 h => ?_)))))))))))
 refine Zo (Zm (Za (Za (Za (GL.nil ?_)))))
 exact Y3 I3 ⟨Sl.nil, Sl.nil, r2, rfl, h⟩
 refine GC.skip (Zo (Zm (Zc h Qan ?_)))
 rintro _ H7 ⟨r5, r6, rfl, h⟩
 refine Zm (Yv (slv r5) rfl rfl (Yv (.int .i64 r6) rfl rfl (Za (Za (GL.nil (Zo (Zm (Zm (Zm (Za (Za (Za (GL.nil ?_)))))))))))))
 exact Y3 I3 ⟨r1, r5, r6, rfl, h⟩
def QhU (C : Ctx) (p_a : Sl) (p_b : Sl) (p_on : Sl) (K : Bool → Heap → Prop) (H : Heap) : Prop :=
 lp (α := Int) 0 H (fun x1 J2 H3 =>
 ift (decide ((x1 : Int) < (Sl.len p_on : Int)))
 (ixa p_on x1 fun p5 =>
 ldI H3 .i64 ((p5.1, p5.2 + (x1 : Int).toNat * 2).1, (p5.1, p5.2 + (x1 : Int).toNat * 2).2 + 0) fun x10 =>
 ixa p_on x1 fun p12 =>
 ldI H3 .i64 ((p12.1, p12.2 + (x1 : Int).toNat * 2).1, (p12.1, p12.2 + (x1 : Int).toNat * 2).2 + 1) fun x17 =>
 jn (α := Bool) (fun x20 H21 =>
 ift x20
 (K false H21)
 (J2 (w .i64 (x1 + 1)) H21))
 (fun J19 => dr H3 fun Hs23 =>
 ift (decide ((x10 : Int) < 0))
 (J19 true H3)
 (ift (decide ((x10 : Int) ≥ (Sl.len p_a : Int)))
 (J19 true H3)
 (ift (decide ((x17 : Int) < 0))
 (J19 true H3)
 (ift (decide ((x17 : Int) ≥ (Sl.len p_b : Int)))
 (J19 true H3)
 (ixa p_a x10 fun p29 =>
 ldT Hs23 Qb.c (p29.1, p29.2 + (x10 : Int).toNat * 4) fun x34 =>
 ixa p_b x17 fun p36 =>
 ldT Hs23 Qb.c (p36.1, p36.2 + (x17 : Int).toNat * 4) fun x41 =>
 Qam C x34 x41 (fun r44 H45 =>
 Heap.le Hs23 H45 ∧
 J19 (!r44) H45) H3))))))
 (K true H3))
theorem Qk4 (C p_a p_b p_on K H) (h : QhU C p_a p_b p_on K H) : Qbm C p_a p_b p_on K H := by
 refine Ye Tryz.func60 rfl Tryz.ntmps60 [(0, slv p_a), (1, slv p_b), (2, slv p_on)] (Zo (Za (GL.nil (GC.seq (Zo (Za (GL.nil (GC.block (Yp h (fun x1 => [(7, .int .i64 x1), (0, slv p_a), (1, slv p_b), (2, slv p_on)]) ?_)))))))))
 intro x1 H3 J2 h
 refine GC.seq (Zo (Zm (Zm (Zq (Zi (.bool (decide ((x1 : Int) < (Sl.len p_on : Int)))) (GL.nil (Yd h (fun u4 h => ?_) fun u4 h => ?_)))))))
 refine GC.skip (GC.seq (GC.block (GC.seq (GC.draw (by kernel_rfl) (by kernel_rfl) (GQ.val trivial rfl (OV.move (v := slv p_on) rfl) (GQ.val trivial rfl (OV.move (v := .int .i64 x1) rfl) ?_))))))
 obtain ⟨p5, ha6, hb7, u8, hd9, h⟩ := h
 refine GQ.val trivial rfl (OV.indexAddr (s := p_on) rfl rfl rfl rfl ha6 hb7 u8 hd9) (GQ.val trivial rfl (OV.fieldAddr (p := (p5.1, p5.2 + (x1 : Int).toNat * 2)) rfl rfl) ?_)
 obtain ⟨x10, v11, h⟩ := h
 refine GQ.val trivial rfl (OV.load (p := ((p5.1, p5.2 + (x1 : Int).toNat * 2).1, (p5.1, p5.2 + (x1 : Int).toNat * 2).2 + 0)) rfl rfl v11) (GQ.val trivial rfl (OV.move (v := slv p_on) rfl) (GQ.val trivial rfl (OV.move (v := .int .i64 x1) rfl) ?_))
 obtain ⟨p12, ha13, hb14, u15, hd16, h⟩ := h
 refine GQ.val trivial rfl (OV.indexAddr (s := p_on) rfl rfl rfl rfl ha13 hb14 u15 hd16) (GQ.val trivial rfl (OV.fieldAddr (p := (p12.1, p12.2 + (x1 : Int).toNat * 2)) rfl rfl) ?_)
 obtain ⟨x17, v18, h⟩ := h
 refine GQ.val trivial rfl (OV.load (p := ((p12.1, p12.2 + (x1 : Int).toNat * 2).1, (p12.1, p12.2 + (x1 : Int).toNat * 2).2 + 1)) rfl rfl v18) (GQ.val trivial rfl (OV.assign (v := .int .i64 x10) rfl) (GQ.val trivial rfl (OV.assign (v := .int .i64 x17) rfl) (GQ.nil (GL.nil (GC.seq ?_)))))
 obtain ⟨J19, h, hR22⟩ := h
 refine GC.meet (α := Bool) J19 (fun x20 => [(55, .bool x20), (0, slv p_a), (1, slv p_b), (2, slv p_on), (7, .int .i64 x1)]) ?_ ?_
 obtain ⟨Hs23, hle24, h⟩ := h
 refine GC.any (Hs := Hs23) (by kernel_rfl) hle24 (Zp 0 rfl Ym (Zp 1 rfl (OV.ibin (v := .bool (decide ((x10 : Int) < 0))) rfl rfl rfl) (Zp 2 rfl Ym ?_)))
 rcases h.em with ⟨u25, h⟩ | ⟨u25, h⟩
 refine Zj 3 rfl (Yw u25) (Zj 4 rfl (Yw u25) (Zj 5 rfl (Yw u25) (Zj 6 rfl (Yw u25) (Zp 7 rfl (OV.pickT rfl u25 rfl) (Zp 8 rfl Ym (Zj 9 rfl (Yw rfl) (Zj 10 rfl (Yw rfl) (Zp 11 rfl (OV.pickT rfl rfl rfl) (Zp 12 rfl Ym (Zj 13 rfl (Yw rfl) (Zj 14 rfl (Yw rfl) (Zj 15 rfl (Yw rfl) (Zj 16 rfl (Yw rfl) (Zp 17 rfl (OV.pickT rfl rfl rfl) (Zp 18 rfl Ym (Zj 19 rfl (Yw rfl) (Zj 20 rfl (Yw rfl) (Zj 21 rfl (Yw rfl) (Zj 22 rfl (Yw rfl) (Zj 23 rfl (Yw rfl) (Zj 24 rfl (Yw rfl) (Zj 25 rfl (Yw rfl) (Zj 26 rfl (Yw rfl) (Zj 27 rfl (Yw rfl) (Zj 28 rfl (Yw rfl) (Zp 29 rfl (OV.pickT rfl rfl rfl) (GA.done (by kernel_rfl) ?_)))))))))))))))))))))))))))
 exact Yj I3 true h
 refine Zg 3 rfl (Yt u25) Ym (Zg 4 rfl (Yt u25) Ym (Zg 5 rfl (Yt u25) (OV.lenSl rfl rfl) (Zg 6 rfl (Yt u25) (OV.ibin (v := .bool (decide ((x10 : Int) ≥ (Sl.len p_a : Int)))) rfl rfl rfl) (Zp 7 rfl (OV.pickF rfl u25 rfl) (Zp 8 rfl Ym ?_)))))
 rcases h.em with ⟨u26, h⟩ | ⟨u26, h⟩
 refine Zj 9 rfl (Yw u26) (Zj 10 rfl (Yw u26) (Zp 11 rfl (OV.pickT rfl u26 rfl) (Zp 12 rfl Ym (Zj 13 rfl (Yw rfl) (Zj 14 rfl (Yw rfl) (Zj 15 rfl (Yw rfl) (Zj 16 rfl (Yw rfl) (Zp 17 rfl (OV.pickT rfl rfl rfl) (Zp 18 rfl Ym (Zj 19 rfl (Yw rfl) (Zj 20 rfl (Yw rfl) (Zj 21 rfl (Yw rfl) (Zj 22 rfl (Yw rfl) (Zj 23 rfl (Yw rfl) (Zj 24 rfl (Yw rfl) (Zj 25 rfl (Yw rfl) (Zj 26 rfl (Yw rfl) (Zj 27 rfl (Yw rfl) (Zj 28 rfl (Yw rfl) (Zp 29 rfl (OV.pickT rfl rfl rfl) (GA.done (by kernel_rfl) ?_)))))))))))))))))))))
 exact Yj I3 true h
 refine Zg 9 rfl (Yt u26) Ym (Zg 10 rfl (Yt u26) (OV.ibin (v := .bool (decide ((x17 : Int) < 0))) rfl rfl rfl) (Zp 11 rfl (OV.pickF rfl u26 rfl) (Zp 12 rfl Ym ?_)))
 rcases h.em with ⟨u27, h⟩ | ⟨u27, h⟩
 refine Zj 13 rfl (Yw u27) (Zj 14 rfl (Yw u27) (Zj 15 rfl (Yw u27) (Zj 16 rfl (Yw u27) (Zp 17 rfl (OV.pickT rfl u27 rfl) (Zp 18 rfl Ym (Zj 19 rfl (Yw rfl) (Zj 20 rfl (Yw rfl) (Zj 21 rfl (Yw rfl) (Zj 22 rfl (Yw rfl) (Zj 23 rfl (Yw rfl) (Zj 24 rfl (Yw rfl) (Zj 25 rfl (Yw rfl) (Zj 26 rfl (Yw rfl) (Zj 27 rfl (Yw rfl) (Zj 28 rfl (Yw rfl) (Zp 29 rfl (OV.pickT rfl rfl rfl) (GA.done (by kernel_rfl) ?_)))))))))))))))))
 exact Yj I3 true h
 refine Zg 13 rfl (Yt u27) Ym (Zg 14 rfl (Yt u27) Ym (Zg 15 rfl (Yt u27) (OV.lenSl rfl rfl) (Zg 16 rfl (Yt u27) (OV.ibin (v := .bool (decide ((x17 : Int) ≥ (Sl.len p_b : Int)))) rfl rfl rfl) (Zp 17 rfl (OV.pickF rfl u27 rfl) (Zp 18 rfl Ym ?_)))))
 rcases h.em with ⟨u28, h⟩ | ⟨u28, h⟩
 refine Zj 19 rfl (Yw u28) (Zj 20 rfl (Yw u28) (Zj 21 rfl (Yw u28) (Zj 22 rfl (Yw u28) (Zj 23 rfl (Yw u28) (Zj 24 rfl (Yw u28) (Zj 25 rfl (Yw u28) (Zj 26 rfl (Yw u28) (Zj 27 rfl (Yw u28) (Zj 28 rfl (Yw u28) (Zp 29 rfl (OV.pickT rfl u28 rfl) (GA.done (by kernel_rfl) ?_)))))))))))
 exact Yj I3 true h
 refine Zg 19 rfl (Yt u28) Ym (Zg 20 rfl (Yt u28) Ym ?_)
 obtain ⟨p29, ha30, hb31, u32, hd33, h⟩ := h
 refine Zg 21 rfl (Yt u28) (OV.indexAddr rfl rfl rfl rfl ha30 hb31 u32 hd33) ?_
 obtain ⟨x34, v35, h⟩ := h
 refine Zg 22 rfl (Yt u28) (OV.loadT rfl rfl rfl v35) (Zg 23 rfl (Yt u28) Ym (Zg 24 rfl (Yt u28) Ym ?_))
 obtain ⟨p36, ha37, hb38, u39, hd40, h⟩ := h
 refine Zg 25 rfl (Yt u28) (OV.indexAddr rfl rfl rfl rfl ha37 hb38 u39 hd40) ?_
 obtain ⟨x41, v42, h⟩ := h
 refine Zg 26 rfl (Yt u28) (OV.loadT rfl rfl rfl v42) (GA.eff 27 rfl (by kernel_rfl) (GL.call h (Yt u28) rfl QgK (vs := [.agg (Qb.c x34).toArray, .agg (Qb.c x41).toArray]) rfl ?_))
 rintro _ H45 ⟨r44, rfl, h⟩
 obtain ⟨hle43, h⟩ := h
 refine GA.back hle43 (Zg 28 rfl (Yt u28) (OV.not rfl) (Zp 29 rfl (OV.pickF rfl u28 rfl) (GA.done (by kernel_rfl) ?_)))
 exact Yj I3 (!r44) h
 intro x20 H21 h
 replace h := hR22 x20 H21 h
 refine GL.nil (Yd h (fun u46 h => ?_) fun u46 h => ?_)
 refine Zo (Za (GL.nil ?_))
 exact Y1 I3 ⟨false, rfl, h⟩
 refine GC.skip_to (fun _ _ h => h) (GC.region (Zm (Zi (.int .i64 (w .i64 (x1 + 1))) (Za ?_))))
 exact Yj I3 (w .i64 (x1 + 1)) h
 refine GC.exit_to (fun _ _ h => h) (Zo (Za (GL.nil ?_)))
 exact Y1 I3 ⟨true, rfl, h⟩
def Qhf (C : Ctx) (p_a : Sl) (p_b : Sl) (p_turn : Bool) (K : Sl → Heap → Prop) (H : Heap) : Prop :=
 nw ([]) (fun b1 H2 =>
 apS (Qa.c Qa.zero) 32 (Sl.of (some (b1, 0)) 0 0) p_a (fun r3 H4 =>
 lp (α := Sl × Int) (r3, 0) H4 (fun x5 J6 H7 =>
 ift (decide ((x5.2 : Int) < (Sl.len p_b : Int)))
 (ixa p_b x5.2 fun p9 =>
 ldT H7 Qa.c (p9.1, p9.2 + (x5.2 : Int).toNat * 2) fun x14 =>
 nw (Qa.c Qa.zero) (fun b16 H17 =>
 stT (b16, 0) (Qa.c x14) (fun H18 =>
 jn (α := Unit) (fun x20 H21 =>
 ldT H21 Qa.c (b16, 0) fun x27 =>
 apd (Qa.c Qa.zero) 32 x5.1 ((Qa.c x27) ++ []) 1 (fun r29 H30 =>
 J6 (r29, (w .i64 (x5.2 + 1))) H30) H21)
 (fun J19 => ift p_turn
 (ldI H18 .i64 ((b16, 0).1, (b16, 0).2 + 1) fun x24 =>
 st ((b16, 0).1, (b16, 0).2 + 1) (.int .i64 (w .i64 (0 - x24))) (fun H26 =>
 J19 () H26) H18)
 (J19 () H18))) H17) H7)
 (K x5.1 H7))) H2) H
theorem Qke (C p_a p_b p_turn K H) (h : Qhf C p_a p_b p_turn K H) : Qdv C p_a p_b p_turn K H := by
 refine Ye Tryz.func61 rfl Tryz.ntmps61 [(0, slv p_a), (1, slv p_b), (2, .bool p_turn)] (Zo (Za (GL.nil (Zo (GL.buildSlice (cs := []) h trivial rfl (vs := []) rfl ⟨59, fun _ => by kernel_rfl⟩ ?_)))))
 intro b1 H2 h
 refine Zm (GL.appendS (s := (Sl.of (some (b1, 0)) 0 0)) (s2 := p_a) (zc := Qa.c Qa.zero) (bytes := 32) h trivial rfl rfl rfl ⟨⟨_, _, _, rfl, rfl, rfl, rfl, rfl, rfl⟩⟩ rfl ?_)
 intro r3 H4 h
 refine Za (GL.nil (GC.seq (Zo (Za (GL.nil (GC.block (Yp h (fun x5 => [(7, slv x5.1), (8, .int .i64 x5.2), (1, slv p_b), (2, .bool p_turn)]) ?_)))))))
 intro x5 H7 J6 h
 refine GC.seq (Zo (Zm (Zm (Zq (Zi (.bool (decide ((x5.2 : Int) < (Sl.len p_b : Int)))) (GL.nil (Yd h (fun u8 h => ?_) fun u8 h => ?_)))))))
 refine GC.skip (GC.seq (GC.block (Zo (Zm (Zm (Yx h fun p9 h => ?_))))))
 obtain ⟨x14, v15, h⟩ := h
 refine Zv (OV.loadT rfl rfl rfl v15) (GL.alloc (cs := Qa.c Qa.zero) h trivial rfl rfl rfl ?_)
 intro b16 H17 h
 refine GL.storeT (p := (b16, 0)) (vs := Qa.c x14) h trivial rfl rfl rfl rfl ?_
 intro H18 h
 refine GL.nil ?_
 obtain ⟨J19, h, hR22⟩ := h
 refine GC.join (α := Unit) J19 (fun _ => [(1, slv p_b), (2, .bool p_turn), (7, slv x5.1), (8, .int .i64 x5.2), (9, pv (some (b16, 0)))]) ?_ ?_
 refine Zo (Zm (GL.nil (Yd h (fun u23 h => ?_) fun u23 h => ?_)))
 refine GC.region (Zf (Yl h fun x24 h => ?_))
 refine Zv (OV.iun (v := .int .i64 (w .i64 (0 - x24))) rfl rfl) (Zf (GL.store (p := ((b16, 0).1, (b16, 0).2 + 1)) (v := .int .i64 (w .i64 (0 - x24))) h trivial rfl rfl rfl rfl ?_))
 intro H26 h
 exact Yj I3 () h
 exact Yk I3 () h
 intro x20 H21 h
 replace h := hR22 x20 H21 h
 refine GC.region (Zm ?_)
 obtain ⟨x27, v28, h⟩ := h
 refine Zv (OV.loadT rfl rfl rfl v28) (GL.appendLit (s := x5.1) (ys := (Qa.c x27) ++ []) (zc := Qa.c Qa.zero) (bytes := 32) h trivial rfl (fun _ => trivial) rfl (fun _ => rfl) (fun _ => rfl) (vs := [(0, .agg (Qa.c x27).toArray)]) rfl ⟨59, fun _ => by kernel_rfl⟩ ⟨⟨_, _, _, rfl, rfl, rfl, rfl, rfl, rfl⟩⟩ rfl rfl ?_)
 intro _ r29 H30 h
 refine Za (GL.nil_to (fun _ _ h => h) (GC.region (Zm (Zi (.int .i64 (w .i64 (x5.2 + 1))) (Za ?_)))))
 exact Yj I3 (r29, (w .i64 (x5.2 + 1))) h
 refine GC.exit_to (fun _ _ h => h) (Zo (Zm (Za (GL.nil ?_))))
 exact Y1 I3 ⟨x5.1, rfl, h⟩
def Qg7 (C : Ctx) (p_a : Qb) (p_b : Qb) (K : Bool → Heap → Prop) (H : Heap) : Prop :=
 nw (Qb.c p_a) (fun b1 H2 =>
 nw (Qb.c p_b) (fun b3 H4 =>
 ldI H4 .u8 ((b1, 0).1, (b1, 0).2 + 0) fun x5 =>
 ldI H4 .u8 ((b3, 0).1, (b3, 0).2 + 0) fun x7 =>
 jn (α := Bool) (fun b9 H17 =>
 jn (α := Bool) (fun b18 H26 =>
 jn (α := Bool) (fun b27 H37 =>
 K b27 H37)
 (fun J28 => ift b18
 (ldL H26 ((b1, 0).1, (b1, 0).2 + 3) fun x31 =>
 ldL H26 ((b3, 0).1, (b3, 0).2 + 3) fun x33 =>
 Qbl C x31 x33 (fun r35 H36 =>
 J28 r35 H36) H26)
 (J28 false H26)))
 (fun J19 => ift b9
 (ldS H17 ((b1, 0).1, (b1, 0).2 + 2) fun x22 =>
 ldS H17 ((b3, 0).1, (b3, 0).2 + 2) fun x24 =>
 J19 (x22 == x24) H17)
 (J19 false H17)))
 (fun J10 => ift ((x5 : Int) == x7)
 (ldI H4 .i64 ((b1, 0).1, (b1, 0).2 + 1) fun x13 =>
 ldI H4 .i64 ((b3, 0).1, (b3, 0).2 + 1) fun x15 =>
 J10 ((x13 : Int) == x15) H4)
 (J10 false H4))) H2) H
theorem Qj6 (C p_a p_b K H) (h : Qg7 C p_a p_b K H) : Qam C p_a p_b K H := by
 refine Ye Tryz.func62 rfl Tryz.ntmps62 [(0, .agg (Qb.c p_a).toArray), (1, .agg (Qb.c p_b).toArray)] (Zo (GL.box (v := .agg (Qb.c p_a).toArray) (cs := Qb.c p_a) h trivial rfl rfl rfl ?_))
 intro b1 H2 h
 refine GL.box (v := .agg (Qb.c p_b).toArray) (cs := Qb.c p_b) h trivial rfl rfl rfl ?_
 intro b3 H4 h
 refine Za (GL.nil (Zo (Zf (Yl h fun x5 h => ?_))))
 refine Zf (Yl h fun x7 h => ?_)
 refine Zi (.bool ((x5 : Int) == x7)) (Zm ?_)
 obtain ⟨J10, h, hR11⟩ := h
 refine GL.cut (α := Bool) 6 J10 (fun b9 => [(16, .bool b9), (2, pv (some (b1, 0))), (3, pv (some (b3, 0)))]) ?_ ?_
 rcases h.em with ⟨u12, h⟩ | ⟨u12, h⟩
 refine Zu u12 Yf ?_
 obtain ⟨x13, v14, h⟩ := h
 refine Zu u12 (Yo v14) (Zu u12 Yf ?_)
 obtain ⟨x15, v16, h⟩ := h
 refine Zu u12 (Yo v16) (Zu u12 (OV.ibin (v := .bool ((x13 : Int) == x15)) rfl rfl rfl) (Zt u12 ?_))
 exact Yj I3 ((x13 : Int) == x15) h
 refine Zk u12 (Zk u12 (Zk u12 (Zk u12 (Zk u12 (Zn u12 ?_)))))
 exact Yj I3 false h
 intro b9 H17 h
 replace h := hR11 b9 H17 h
 refine Zm ?_
 obtain ⟨J19, h, hR20⟩ := h
 refine GL.cut (α := Bool) 6 J19 (fun b18 => [(23, .bool b18), (2, pv (some (b1, 0))), (3, pv (some (b3, 0)))]) ?_ ?_
 rcases h.em with ⟨u21, h⟩ | ⟨u21, h⟩
 refine Zu u21 Yf ?_
 obtain ⟨x22, v23, h⟩ := h
 refine Zu u21 (Yo v23) (Zu u21 Yf ?_)
 obtain ⟨x24, v25, h⟩ := h
 refine Zu u21 (Yo v25) (Zu u21 (OV.sbin (a := x22) (b := x24) (v := .bool (x22 == x24)) rfl rfl rfl) (Zt u21 ?_))
 exact Yj I3 (x22 == x24) h
 refine Zk u21 (Zk u21 (Zk u21 (Zk u21 (Zk u21 (Zn u21 ?_)))))
 exact Yj I3 false h
 intro b18 H26 h
 replace h := hR20 b18 H26 h
 refine Zm ?_
 obtain ⟨J28, h, hR29⟩ := h
 refine GL.cut (α := Bool) 6 J28 (fun b27 => [(30, .bool b27)]) ?_ ?_
 rcases h.em with ⟨u30, h⟩ | ⟨u30, h⟩
 refine Zu u30 Yf ?_
 obtain ⟨x31, v32, h⟩ := h
 refine Zu u30 (Yo v32) (Zu u30 Yf ?_)
 obtain ⟨x33, v34, h⟩ := h
 refine Zu u30 (Yo v34) (GL.call h (Yt u30) rfl QeE (vs := [slv x31, slv x33]) rfl ?_)
 rintro _ H36 ⟨r35, rfl, h⟩
 refine Zt u30 ?_
 exact Yj I3 r35 h
 refine Zk u30 (Zk u30 (Zk u30 (Zk u30 (Zk u30 (Zn u30 ?_)))))
 exact Yj I3 false h
 intro b27 H37 h
 replace h := hR29 b27 H37 h
 refine Za (GL.nil ?_)
 exact Y1 I3 ⟨b27, rfl, h⟩
def Qf0 (C : Ctx) (p_v : Qb) (p_most : Int) (K : Int → Heap → Prop) (H : Heap) : Prop :=
 nw (Qb.c p_v) (fun b1 H2 =>
 jn (α := Int) (fun x4 H5 =>
 K (w .i64 (x4 + 1)) H5)
 (fun J3 => ldL H2 ((b1, 0).1, (b1, 0).2 + 3) fun x7 =>
 lp (α := Int × Int) (0, 0) H2 (fun x9 J10 H11 =>
 ift (decide ((x9.2 : Int) < (Sl.len x7 : Int)))
 (ixa x7 x9.2 fun p13 =>
 ldT H11 Qb.c (p13.1, p13.2 + (x9.2 : Int).toNat * 4) fun x18 =>
 nw (Qb.c Qb.zero) (fun b20 H21 =>
 stT (b20, 0) (Qb.c x18) (fun H22 =>
 ift (decide ((x9.1 : Int) ≥ p_most))
 (J3 x9.1 H22)
 (ldT H22 Qb.c (b20, 0) fun x24 =>
 Qal C x24 (w .i64 (p_most - 1)) (fun r26 H27 =>
 J10 ((if r26 > x9.1 then r26 else x9.1 : Int), (w .i64 (x9.2 + 1))) H27) H22)) H21) H11)
 (J3 x9.1 H11)))) H
theorem Qjk (C p_v p_most K H) (h : Qf0 C p_v p_most K H) : Qal C p_v p_most K H := by
 refine Ye Tryz.func63 rfl Tryz.ntmps63 [(0, .agg (Qb.c p_v).toArray), (1, .int .i64 p_most)] (Zo (GL.box (v := .agg (Qb.c p_v).toArray) (cs := Qb.c p_v) h trivial rfl rfl rfl ?_))
 intro b1 H2 h
 refine Za (GL.nil (Zo (Za (GL.nil ?_))))
 obtain ⟨J3, h, hR6⟩ := h
 refine GC.join (α := Int) J3 (fun x4 => [(5, .int .i64 x4)]) ?_ ?_
 refine Zo (Zf (Yl h fun x7 h => ?_))
 refine Zq (Zm (GL.nil (GC.block (Yp h (fun x9 => [(5, .int .i64 x9.1), (11, .int .i64 x9.2), (1, .int .i64 p_most), (9, slv x7), (10, .int .i64 (Sl.len x7 : Int))]) ?_))))
 intro x9 H11 J10 h
 refine Zo (Zi (.bool (decide ((x9.2 : Int) < (Sl.len x7 : Int)))) (GL.nil (GC.seq (Yd h (fun u12 h => ?_) fun u12 h => ?_))))
 refine GC.skip (GC.seq (GC.block (Zo (Yx h fun p13 h => ?_))))
 obtain ⟨x18, v19, h⟩ := h
 refine Zv (OV.loadT rfl rfl rfl v19) (GL.alloc (cs := Qb.c Qb.zero) h trivial rfl rfl rfl ?_)
 intro b20 H21 h
 refine GL.storeT (p := (b20, 0)) (vs := Qb.c x18) h trivial rfl rfl rfl rfl ?_
 intro H22 h
 refine GL.nil (GC.seq (Zo (Zm (Zm (Zi (.bool (decide ((x9.1 : Int) ≥ p_most))) (GL.nil (Yd h (fun u23 h => ?_) fun u23 h => ?_)))))))
 exact GC.exit_jump (fun _ _ h => h) x9.1 h ⟨rfl, trivial⟩
 refine GC.skip (GC.region (Zm ?_))
 obtain ⟨x24, v25, h⟩ := h
 refine Zv (OV.loadT rfl rfl rfl v25) (Zm (Zi (.int .i64 (w .i64 (p_most - 1))) (Zc h QfJ ?_)))
 rintro _ H27 ⟨r26, rfl, h⟩
 refine Zv (OV.maxI rfl rfl) (Za (GL.nil_to (fun _ _ h => h) (GC.region (Zi (.int .i64 (w .i64 (x9.2 + 1))) (Zm ?_)))))
 exact Yj I3 ((if r26 > x9.1 then r26 else x9.1 : Int), (w .i64 (x9.2 + 1))) h
 exact GC.exit_jump (fun _ _ h => h) x9.1 h ⟨rfl, trivial⟩
 intro x4 H5 h
 replace h := hR6 x4 H5 h
 refine Zo (Zm (Zi (.int .i64 (w .i64 (x4 + 1))) (Za (GL.nil ?_))))
 exact Y1 I3 ⟨(w .i64 (x4 + 1)), rfl, h⟩
def QdH (C : Ctx) (p_v : Qb) (K : Bool → Bool → Heap → Prop) (H : Heap) : Prop :=
 nw (Qb.c p_v) (fun b1 H2 =>
 ldI H2 .i64 ((b1, 0).1, (b1, 0).2 + 1) fun x3 =>
 jn (α := Bool) (fun b5 H11 =>
 jn (α := Bool) (fun b12 H18 =>
 jn (α := Bool × Bool) (fun x20 H21 =>
 ldL H21 ((b1, 0).1, (b1, 0).2 + 3) fun x149 =>
 lp (α := Bool × Bool × Int) (x20.1, x20.2, 0) H21 (fun x151 J152 H153 =>
 ift (decide ((x151.2.2 : Int) < (Sl.len x149 : Int)))
 (ixa x149 x151.2.2 fun p155 =>
 ldT H153 Qb.c (p155.1, p155.2 + (x151.2.2 : Int).toNat * 4) fun x160 =>
 nw (Qb.c Qb.zero) (fun b162 H163 =>
 stT (b162, 0) (Qb.c x160) (fun H164 =>
 ldT H164 Qb.c (b162, 0) fun x165 =>
 QM C x165 (fun r167 r168 H169 =>
 J152 ((x151.1 && r167), (x151.2.1 && r168), (w .i64 (x151.2.2 + 1))) H169) H164) H163) H153)
 (K x151.1 x151.2.1 H153)))
 (fun J19 => ldI H18 .u8 ((b1, 0).1, (b1, 0).2 + 0) fun x23 =>
 ift ((x23 : Int) == 1)
 (ldI H18 .i64 ((b1, 0).1, (b1, 0).2 + 1) fun x26 =>
 jn (α := Bool) (fun b28 H34 =>
 jn (α := Bool) (fun b35 H41 =>
 jn (α := Bool) (fun b42 H48 =>
 J19 (b42, true) H48)
 (fun J43 => ift b35
 (ldL H41 ((b1, 0).1, (b1, 0).2 + 3) fun x46 =>
 J43 (((Sl.len x46 : Int) : Int) == 0) H41)
 (J43 false H41)))
 (fun J36 => ift b28
 (ldS H34 ((b1, 0).1, (b1, 0).2 + 2) fun x39 =>
 J36 (x39 == ([] : Str)) H34)
 (J36 false H34)))
 (fun J29 => ift ((x26 : Int) == 0)
 (J29 true H18)
 (ldI H18 .i64 ((b1, 0).1, (b1, 0).2 + 1) fun x32 =>
 J29 ((x32 : Int) == 1) H18)))
 (ift ((x23 : Int) == 2)
 (ldS H18 ((b1, 0).1, (b1, 0).2 + 2) fun x50 =>
 jn (α := Bool) (fun b52 H58 =>
 J19 (b52, true) H58)
 (fun J53 => ift (x50 == ([] : Str))
 (ldL H18 ((b1, 0).1, (b1, 0).2 + 3) fun x56 =>
 J53 (((Sl.len x56 : Int) : Int) == 0) H18)
 (J53 false H18)))
 (ift ((x23 : Int) == 3)
 (ldS H18 ((b1, 0).1, (b1, 0).2 + 2) fun x60 =>
 QdQ C x60 (fun r62 r63 H64 =>
 jn (α := Bool) (fun b65 H71 =>
 jn (α := Bool) (fun b72 H78 =>
 J19 (b72, (decide ((r62 : Int) ≤ 200))) H78)
 (fun J73 => ift b65
 (ldL H71 ((b1, 0).1, (b1, 0).2 + 3) fun x76 =>
 J73 (((Sl.len x76 : Int) : Int) == 0) H71)
 (J73 false H71)))
 (fun J66 => ift r63
 (ldI H64 .i64 ((b1, 0).1, (b1, 0).2 + 1) fun x69 =>
 J66 ((x69 : Int) == 0) H64)
 (J66 false H64))) H18)
 (ift ((x23 : Int) == 4)
 (jn (α := Bool × Bool) (fun x81 H82 =>
 J19 (x81.1, x81.2) H82)
 (fun J80 => dr H18 fun Hs84 =>
 ldI Hs84 .i64 ((b1, 0).1, (b1, 0).2 + 1) fun x86 =>
 ldS Hs84 ((b1, 0).1, (b1, 0).2 + 2) fun x88 =>
 ift ((x86 : Int) == 0)
 (ldL Hs84 ((b1, 0).1, (b1, 0).2 + 3) fun x91 =>
 J80 ((((Sl.len x91 : Int) : Int) == 0), (decide (((List.length x88 : Int) : Int) ≤ 4096))) H18)
 (J80 (false, (decide (((List.length x88 : Int) : Int) ≤ 4096))) H18)))
 (ift ((x23 : Int) == 5)
 (jn (α := Bool × Bool) (fun x95 H96 =>
 J19 (x95.1, x95.2) H96)
 (fun J94 => dr H18 fun Hs98 =>
 ldI Hs98 .i64 ((b1, 0).1, (b1, 0).2 + 1) fun x100 =>
 ldL Hs98 ((b1, 0).1, (b1, 0).2 + 3) fun x102 =>
 ift ((x100 : Int) == 0)
 (ldS Hs98 ((b1, 0).1, (b1, 0).2 + 2) fun x105 =>
 ift (x105 == ([] : Str))
 (ldL Hs98 ((b1, 0).1, (b1, 0).2 + 3) fun x108 =>
 J94 ((((Sl.len x108 : Int) : Int) != 1), (decide (((Sl.len x102 : Int) : Int) ≤ 16))) H18)
 (J94 (false, (decide (((Sl.len x102 : Int) : Int) ≤ 16))) H18))
 (J94 (false, (decide (((Sl.len x102 : Int) : Int) ≤ 16))) H18)))
 (ift ((x23 : Int) == 6)
 (ldS H18 ((b1, 0).1, (b1, 0).2 + 2) fun x111 =>
 Qef C x111 [46] (fun r113 r114 r115 H116 =>
 jn (α := Bool × Bool) (fun x118 H119 =>
 J19 (x118.1, x118.2) H119)
 (fun J117 => dr H116 fun Hs121 =>
 ldI Hs121 .i64 ((b1, 0).1, (b1, 0).2 + 1) fun x123 =>
 ldL Hs121 ((b1, 0).1, (b1, 0).2 + 3) fun x125 =>
 ift ((x123 : Int) == 0)
 (QbW C r113 (fun r129 H130 =>
 Heap.le Hs121 H130 ∧
 ift r129
 (ift r115
 (QbW C r114 (fun r134 H135 =>
 Heap.le Hs121 H135 ∧
 ift r134
 (J117 (true, (decide (((Sl.len x125 : Int) : Int) ≤ 8))) H135)
 (ift (!r115)
 (ldS Hs121 ((b1, 0).1, (b1, 0).2 + 2) fun x138 =>
 ift (!(x138 == ([116, 114, 117, 101] : Str)))
 (ldS Hs121 ((b1, 0).1, (b1, 0).2 + 2) fun x141 =>
 J117 ((!(x141 == ([102, 97, 108, 115, 101] : Str))), (decide (((Sl.len x125 : Int) : Int) ≤ 8))) H135)
 (J117 (false, (decide (((Sl.len x125 : Int) : Int) ≤ 8))) H135))
 (J117 (false, (decide (((Sl.len x125 : Int) : Int) ≤ 8))) H135))) H130)
 (ift (!r115)
 (ldS Hs121 ((b1, 0).1, (b1, 0).2 + 2) fun x144 =>
 ift (!(x144 == ([116, 114, 117, 101] : Str)))
 (ldS Hs121 ((b1, 0).1, (b1, 0).2 + 2) fun x147 =>
 J117 ((!(x147 == ([102, 97, 108, 115, 101] : Str))), (decide (((Sl.len x125 : Int) : Int) ≤ 8))) H130)
 (J117 (false, (decide (((Sl.len x125 : Int) : Int) ≤ 8))) H130))
 (J117 (false, (decide (((Sl.len x125 : Int) : Int) ≤ 8))) H130)))
 (J117 (false, (decide (((Sl.len x125 : Int) : Int) ≤ 8))) H130)) H116)
 (J117 (false, (decide (((Sl.len x125 : Int) : Int) ≤ 8))) H116))) H18)
 (J19 (false, true) H18))))))))
 (fun J13 => ift b5
 (ldL H11 ((b1, 0).1, (b1, 0).2 + 3) fun x16 =>
 J13 (((Sl.len x16 : Int) : Int) == 0) H11)
 (J13 false H11)))
 (fun J6 => ift ((x3 : Int) == 0)
 (ldS H2 ((b1, 0).1, (b1, 0).2 + 2) fun x9 =>
 J6 (x9 == ([] : Str)) H2)
 (J6 false H2))) H
theorem Qgv (C p_v K H) (h : QdH C p_v K H) : QM C p_v K H := by
 refine Ye Tryz.func64 rfl Tryz.ntmps64 [(0, .agg (Qb.c p_v).toArray)] (Zo (GL.box (v := .agg (Qb.c p_v).toArray) (cs := Qb.c p_v) h trivial rfl rfl rfl ?_))
 intro b1 H2 h
 refine Za (Za (GL.nil (Zo (Zf (Yl h fun x3 h => ?_)))))
 refine Zi (.bool ((x3 : Int) == 0)) (Zm ?_)
 obtain ⟨J6, h, hR7⟩ := h
 refine GL.cut (α := Bool) 4 J6 (fun b5 => [(20, .bool b5), (1, pv (some (b1, 0)))]) ?_ ?_
 rcases h.em with ⟨u8, h⟩ | ⟨u8, h⟩
 refine Zu u8 Yf ?_
 obtain ⟨x9, v10, h⟩ := h
 refine Zu u8 (Yo v10) (Zu u8 (OV.sbin (a := x9) (b := ([] : Str)) (v := .bool (x9 == ([] : Str))) rfl rfl rfl) (Zt u8 ?_))
 exact Yj I3 (x9 == ([] : Str)) h
 refine Zk u8 (Zk u8 (Zk u8 (Zn u8 ?_)))
 exact Yj I3 false h
 intro b5 H11 h
 replace h := hR7 b5 H11 h
 refine Zm ?_
 obtain ⟨J13, h, hR14⟩ := h
 refine GL.cut (α := Bool) 5 J13 (fun b12 => [(26, .bool b12), (1, pv (some (b1, 0)))]) ?_ ?_
 rcases h.em with ⟨u15, h⟩ | ⟨u15, h⟩
 refine Zu u15 Yf ?_
 obtain ⟨x16, v17, h⟩ := h
 refine Zu u15 (Yo v17) (Zu u15 (OV.lenSl rfl rfl) (Zu u15 (OV.ibin (v := .bool (((Sl.len x16 : Int) : Int) == 0)) rfl rfl rfl) (Zt u15 ?_)))
 exact Yj I3 (((Sl.len x16 : Int) : Int) == 0) h
 refine Zk u15 (Zk u15 (Zk u15 (Zk u15 (Zn u15 ?_))))
 exact Yj I3 false h
 intro b12 H18 h
 replace h := hR14 b12 H18 h
 refine Za (Za (GL.nil ?_))
 obtain ⟨J19, h, hR22⟩ := h
 refine GC.join (α := Bool × Bool) J19 (fun x20 => [(2, .bool x20.1), (3, .bool x20.2), (1, pv (some (b1, 0)))]) ?_ ?_
 refine Zo (Zf (Yl h fun x23 h => ?_))
 refine GL.nil (GC.block (Zo (Zi (.bool ((x23 : Int) == 1)) (Za (GL.nil (Yd h (fun u25 h => ?_) fun u25 h => ?_))))))
 refine GC.region (Zf (Yl h fun x26 h => ?_))
 refine Zi (.bool ((x26 : Int) == 0)) (Zm ?_)
 obtain ⟨J29, h, hR30⟩ := h
 refine GL.cut (α := Bool) 4 J29 (fun b28 => [(38, .bool b28), (1, pv (some (b1, 0))), (3, .bool true)]) ?_ ?_
 rcases h.em with ⟨u31, h⟩ | ⟨u31, h⟩
 refine Zk u31 (Zk u31 (Zk u31 (Zt u31 ?_)))
 exact Yj I3 true h
 refine Zu u31 Yf ?_
 obtain ⟨x32, v33, h⟩ := h
 refine Zu u31 (Yo v33) (Zu u31 (OV.ibin (v := .bool ((x32 : Int) == 1)) rfl rfl rfl) (Zn u31 ?_))
 exact Yj I3 ((x32 : Int) == 1) h
 intro b28 H34 h
 replace h := hR30 b28 H34 h
 refine Zm ?_
 obtain ⟨J36, h, hR37⟩ := h
 refine GL.cut (α := Bool) 4 J36 (fun b35 => [(43, .bool b35), (1, pv (some (b1, 0))), (3, .bool true)]) ?_ ?_
 rcases h.em with ⟨u38, h⟩ | ⟨u38, h⟩
 refine Zu u38 Yf ?_
 obtain ⟨x39, v40, h⟩ := h
 refine Zu u38 (Yo v40) (Zu u38 (OV.sbin (a := x39) (b := ([] : Str)) (v := .bool (x39 == ([] : Str))) rfl rfl rfl) (Zt u38 ?_))
 exact Yj I3 (x39 == ([] : Str)) h
 refine Zk u38 (Zk u38 (Zk u38 (Zn u38 ?_)))
 exact Yj I3 false h
 intro b35 H41 h
 replace h := hR37 b35 H41 h
 refine Zm ?_
 obtain ⟨J43, h, hR44⟩ := h
 refine GL.cut (α := Bool) 5 J43 (fun b42 => [(49, .bool b42), (1, pv (some (b1, 0))), (3, .bool true)]) ?_ ?_
 rcases h.em with ⟨u45, h⟩ | ⟨u45, h⟩
 refine Zu u45 Yf ?_
 obtain ⟨x46, v47, h⟩ := h
 refine Zu u45 (Yo v47) (Zu u45 (OV.lenSl rfl rfl) (Zu u45 (OV.ibin (v := .bool (((Sl.len x46 : Int) : Int) == 0)) rfl rfl rfl) (Zt u45 ?_)))
 exact Yj I3 (((Sl.len x46 : Int) : Int) == 0) h
 refine Zk u45 (Zk u45 (Zk u45 (Zk u45 (Zn u45 ?_))))
 exact Yj I3 false h
 intro b42 H48 h
 replace h := hR44 b42 H48 h
 refine Za ?_
 exact Yj I3 (b42, true) h
 refine Zo (Zi (.bool ((x23 : Int) == 2)) (Za (GL.nil (Yd h (fun u49 h => ?_) fun u49 h => ?_))))
 refine GC.region (Zf (Yl h fun x50 h => ?_))
 refine Zv (OV.sbin (a := x50) (b := ([] : Str)) (v := .bool (x50 == ([] : Str))) rfl rfl rfl) (Zm ?_)
 obtain ⟨J53, h, hR54⟩ := h
 refine GL.cut (α := Bool) 5 J53 (fun b52 => [(60, .bool b52), (1, pv (some (b1, 0))), (3, .bool true)]) ?_ ?_
 rcases h.em with ⟨u55, h⟩ | ⟨u55, h⟩
 refine Zu u55 Yf ?_
 obtain ⟨x56, v57, h⟩ := h
 refine Zu u55 (Yo v57) (Zu u55 (OV.lenSl rfl rfl) (Zu u55 (OV.ibin (v := .bool (((Sl.len x56 : Int) : Int) == 0)) rfl rfl rfl) (Zt u55 ?_)))
 exact Yj I3 (((Sl.len x56 : Int) : Int) == 0) h
 refine Zk u55 (Zk u55 (Zk u55 (Zk u55 (Zn u55 ?_))))
 exact Yj I3 false h
 intro b52 H58 h
 replace h := hR54 b52 H58 h
 refine Za ?_
 exact Yj I3 (b52, true) h
 refine Zo (Zi (.bool ((x23 : Int) == 3)) (Za (GL.nil (Yd h (fun u59 h => ?_) fun u59 h => ?_))))
 refine Zo (Zf (Yl h fun x60 h => ?_))
 refine Zc h QiK ?_
 rintro _ H64 ⟨r62, r63, rfl, h⟩
 refine Zm (Yv (.int .i64 r62) rfl rfl (Yv (.bool r63) rfl rfl (Za (Za (GL.nil (GC.region (Zm (Zm ?_))))))))
 obtain ⟨J66, h, hR67⟩ := h
 refine GL.cut (α := Bool) 4 J66 (fun b65 => [(74, .bool b65), (1, pv (some (b1, 0))), (4, .int .i64 r62)]) ?_ ?_
 rcases h.em with ⟨u68, h⟩ | ⟨u68, h⟩
 refine Zu u68 Yf ?_
 obtain ⟨x69, v70, h⟩ := h
 refine Zu u68 (Yo v70) (Zu u68 (OV.ibin (v := .bool ((x69 : Int) == 0)) rfl rfl rfl) (Zt u68 ?_))
 exact Yj I3 ((x69 : Int) == 0) h
 refine Zk u68 (Zk u68 (Zk u68 (Zn u68 ?_)))
 exact Yj I3 false h
 intro b65 H71 h
 replace h := hR67 b65 H71 h
 refine Zm ?_
 obtain ⟨J73, h, hR74⟩ := h
 refine GL.cut (α := Bool) 5 J73 (fun b72 => [(80, .bool b72), (1, pv (some (b1, 0))), (4, .int .i64 r62)]) ?_ ?_
 rcases h.em with ⟨u75, h⟩ | ⟨u75, h⟩
 refine Zu u75 Yf ?_
 obtain ⟨x76, v77, h⟩ := h
 refine Zu u75 (Yo v77) (Zu u75 (OV.lenSl rfl rfl) (Zu u75 (OV.ibin (v := .bool (((Sl.len x76 : Int) : Int) == 0)) rfl rfl rfl) (Zt u75 ?_)))
 exact Yj I3 (((Sl.len x76 : Int) : Int) == 0) h
 refine Zk u75 (Zk u75 (Zk u75 (Zk u75 (Zn u75 ?_))))
 exact Yj I3 false h
 intro b72 H78 h
 replace h := hR74 b72 H78 h
 refine Zm (Zi (.bool (decide ((r62 : Int) ≤ 200))) (Za (Za ?_)))
 exact Yj I3 (b72, (decide ((r62 : Int) ≤ 200))) h
 refine Zo (Zi (.bool ((x23 : Int) == 4)) (Za (GL.nil (Yd h (fun u79 h => ?_) fun u79 h => ?_))))
 obtain ⟨J80, h, hR83⟩ := h
 refine GC.meet (α := Bool × Bool) J80 (fun x81 => [(2, .bool x81.1), (3, .bool x81.2), (1, pv (some (b1, 0)))]) ?_ ?_
 obtain ⟨Hs84, hle85, h⟩ := h
 refine GC.any (Hs := Hs84) (by kernel_rfl) hle85 (Zp 0 rfl Yf ?_)
 obtain ⟨x86, v87, h⟩ := h
 refine Zp 1 rfl (Yo v87) (Zp 2 rfl (OV.ibin (v := .bool ((x86 : Int) == 0)) rfl rfl rfl) (Zp 3 rfl Ym (Zp 9 rfl Yf ?_)))
 obtain ⟨x88, v89, h⟩ := h
 refine Zp 10 rfl (Yo v89) (Zp 11 rfl (OV.lenStr rfl rfl) (Zp 12 rfl (OV.ibin (v := .bool (decide (((List.length x88 : Int) : Int) ≤ 4096))) rfl rfl rfl) ?_))
 rcases h.em with ⟨u90, h⟩ | ⟨u90, h⟩
 refine Zg 4 rfl (Yt u90) Yf ?_
 obtain ⟨x91, v92, h⟩ := h
 refine Zg 5 rfl (Yt u90) (Yo v92) (Zg 6 rfl (Yt u90) (OV.lenSl rfl rfl) (Zg 7 rfl (Yt u90) (OV.ibin (v := .bool (((Sl.len x91 : Int) : Int) == 0)) rfl rfl rfl) (Zp 8 rfl (OV.pickT rfl u90 rfl) (Zp 13 rfl Ya (Zp 14 rfl Ya (GA.done (by kernel_rfl) ?_))))))
 exact Yj I3 ((((Sl.len x91 : Int) : Int) == 0), (decide (((List.length x88 : Int) : Int) ≤ 4096))) h
 refine Zj 4 rfl (Yw u90) (Zj 5 rfl (Yw u90) (Zj 6 rfl (Yw u90) (Zj 7 rfl (Yw u90) (Zp 8 rfl (OV.pickF rfl u90 rfl) (Zp 13 rfl Ya (Zp 14 rfl Ya (GA.done (by kernel_rfl) ?_)))))))
 exact Yj I3 (false, (decide (((List.length x88 : Int) : Int) ≤ 4096))) h
 intro x81 H82 h
 replace h := hR83 x81 H82 h
 exact Yj I3 (x81.1, x81.2) h
 refine Zo (Zi (.bool ((x23 : Int) == 5)) (Za (GL.nil (Yd h (fun u93 h => ?_) fun u93 h => ?_))))
 obtain ⟨J94, h, hR97⟩ := h
 refine GC.meet (α := Bool × Bool) J94 (fun x95 => [(2, .bool x95.1), (3, .bool x95.2), (1, pv (some (b1, 0)))]) ?_ ?_
 obtain ⟨Hs98, hle99, h⟩ := h
 refine GC.any (Hs := Hs98) (by kernel_rfl) hle99 (Zp 0 rfl Yf ?_)
 obtain ⟨x100, v101, h⟩ := h
 refine Zp 1 rfl (Yo v101) (Zp 2 rfl (OV.ibin (v := .bool ((x100 : Int) == 0)) rfl rfl rfl) (Zp 3 rfl Ym (Zp 14 rfl Yf ?_)))
 obtain ⟨x102, v103, h⟩ := h
 refine Zp 15 rfl (Yo v103) (Zp 16 rfl (OV.lenSl rfl rfl) (Zp 17 rfl (OV.ibin (v := .bool (decide (((Sl.len x102 : Int) : Int) ≤ 16))) rfl rfl rfl) ?_))
 rcases h.em with ⟨u104, h⟩ | ⟨u104, h⟩
 refine Zg 4 rfl (Yt u104) Yf ?_
 obtain ⟨x105, v106, h⟩ := h
 refine Zg 5 rfl (Yt u104) (Yo v106) (Zg 6 rfl (Yt u104) (OV.sbin (a := x105) (b := ([] : Str)) (v := .bool (x105 == ([] : Str))) rfl rfl rfl) (Zp 7 rfl (OV.pickT rfl u104 rfl) (Zp 8 rfl Ym ?_)))
 rcases h.em with ⟨u107, h⟩ | ⟨u107, h⟩
 refine Zg 9 rfl (Yt u107) Yf ?_
 obtain ⟨x108, v109, h⟩ := h
 refine Zg 10 rfl (Yt u107) (Yo v109) (Zg 11 rfl (Yt u107) (OV.lenSl rfl rfl) (Zg 12 rfl (Yt u107) (OV.ibin (v := .bool (((Sl.len x108 : Int) : Int) != 1)) rfl rfl rfl) (Zp 13 rfl (OV.pickT rfl u107 rfl) (Zp 18 rfl Ya (Zp 19 rfl Ya (GA.done (by kernel_rfl) ?_))))))
 exact Yj I3 ((((Sl.len x108 : Int) : Int) != 1), (decide (((Sl.len x102 : Int) : Int) ≤ 16))) h
 refine Zj 9 rfl (Yw u107) (Zj 10 rfl (Yw u107) (Zj 11 rfl (Yw u107) (Zj 12 rfl (Yw u107) (Zp 13 rfl (OV.pickF rfl u107 rfl) (Zp 18 rfl Ya (Zp 19 rfl Ya (GA.done (by kernel_rfl) ?_)))))))
 exact Yj I3 (false, (decide (((Sl.len x102 : Int) : Int) ≤ 16))) h
 refine Zj 4 rfl (Yw u104) (Zj 5 rfl (Yw u104) (Zj 6 rfl (Yw u104) (Zp 7 rfl (OV.pickF rfl u104 rfl) (Zp 8 rfl Ym (Zj 9 rfl (Yw rfl) (Zj 10 rfl (Yw rfl) (Zj 11 rfl (Yw rfl) (Zj 12 rfl (Yw rfl) (Zp 13 rfl (OV.pickF rfl rfl rfl) (Zp 18 rfl Ya (Zp 19 rfl Ya (GA.done (by kernel_rfl) ?_))))))))))))
 exact Yj I3 (false, (decide (((Sl.len x102 : Int) : Int) ≤ 16))) h
 intro x95 H96 h
 replace h := hR97 x95 H96 h
 exact Yj I3 (x95.1, x95.2) h
 refine Zo (Zi (.bool ((x23 : Int) == 6)) (Za (GL.nil (Yd h (fun u110 h => ?_) fun u110 h => ?_))))
 refine Zo (Zf (Yl h fun x111 h => ?_))
 refine Zc h Qjw ?_
 rintro _ H116 ⟨r113, r114, r115, rfl, h⟩
 refine Zm (Yv (sv r113) rfl rfl (Yv (sv r114) rfl rfl (Yv (.bool r115) rfl rfl (Za (Za (Za (GL.nil ?_)))))))
 obtain ⟨J117, h, hR120⟩ := h
 refine GC.meet (α := Bool × Bool) J117 (fun x118 => [(2, .bool x118.1), (3, .bool x118.2), (1, pv (some (b1, 0)))]) ?_ ?_
 obtain ⟨Hs121, hle122, h⟩ := h
 refine GC.any (Hs := Hs121) (by kernel_rfl) hle122 (Zp 0 rfl Yf ?_)
 obtain ⟨x123, v124, h⟩ := h
 refine Zp 1 rfl (Yo v124) (Zp 2 rfl (OV.ibin (v := .bool ((x123 : Int) == 0)) rfl rfl rfl) (Zp 3 rfl Ym (Zp 28 rfl Yf ?_)))
 obtain ⟨x125, v126, h⟩ := h
 refine Zp 29 rfl (Yo v126) (Zp 30 rfl (OV.lenSl rfl rfl) (Zp 31 rfl (OV.ibin (v := .bool (decide (((Sl.len x125 : Int) : Int) ≤ 8))) rfl rfl rfl) ?_))
 rcases h.em with ⟨u127, h⟩ | ⟨u127, h⟩
 refine Zg 4 rfl (Yt u127) Ym (GA.eff 5 rfl (by kernel_rfl) (GL.call h (Yt u127) rfl QgS (vs := [sv r113]) rfl ?_))
 rintro _ H130 ⟨r129, rfl, h⟩
 obtain ⟨hle128, h⟩ := h
 refine GA.back hle128 (Zp 6 rfl (OV.pickT rfl u127 rfl) (Zp 7 rfl Ym ?_))
 rcases h.em with ⟨u131, h⟩ | ⟨u131, h⟩
 refine Zg 8 rfl (Yt u131) Ym (Zg 9 rfl (Yt u131) Ym ?_)
 rcases h.em with ⟨u132, h⟩ | ⟨u132, h⟩
 refine Zg 10 rfl (Yt u132) Ym (GA.eff 11 rfl (by kernel_rfl) (GL.call h (Yt u132) rfl QgS (vs := [sv r114]) rfl ?_))
 rintro _ H135 ⟨r134, rfl, h⟩
 obtain ⟨hle133, h⟩ := h
 refine GA.back hle133 (Zg 12 rfl (Yt u131) (OV.pickT rfl u132 rfl) (Zg 13 rfl (Yt u131) Ym ?_))
 rcases h.em with ⟨u136, h⟩ | ⟨u136, h⟩
 refine Zj 14 rfl (Yw u136) (Zj 15 rfl (Yw u136) (Zj 16 rfl (Yw u136) (Zj 17 rfl ⟨_, rfl, .inr rfl⟩ (Zj 18 rfl ⟨_, rfl, .inr rfl⟩ (Zj 19 rfl ⟨_, rfl, .inr rfl⟩ (Zj 20 rfl (Yw u136) (Zj 21 rfl (Yw u136) (Zj 22 rfl ⟨_, rfl, .inr rfl⟩ (Zj 23 rfl ⟨_, rfl, .inr rfl⟩ (Zj 24 rfl ⟨_, rfl, .inr rfl⟩ (Zj 25 rfl (Yw u136) (Zg 26 rfl (Yt u131) (OV.pickT rfl u136 rfl) (Zp 27 rfl (OV.pickT rfl u131 rfl) (Zp 32 rfl Ya (Zp 33 rfl Ya (GA.done (by kernel_rfl) ?_))))))))))))))))
 exact Yj I3 (true, (decide (((Sl.len x125 : Int) : Int) ≤ 8))) h
 refine Zg 14 rfl (Yt u136) Ym (Zg 15 rfl (Yt u136) (OV.not rfl) (Zg 16 rfl (Yt u136) Ym ?_))
 rcases h.em with ⟨u137, h⟩ | ⟨u137, h⟩
 refine Zg 17 rfl (Yt u137) Yf ?_
 obtain ⟨x138, v139, h⟩ := h
 refine Zg 18 rfl (Yt u137) (Yo v139) (Zg 19 rfl (Yt u137) (OV.sbin (a := x138) (b := ([116, 114, 117, 101] : Str)) (v := .bool (!(x138 == ([116, 114, 117, 101] : Str)))) rfl rfl rfl) (Zg 20 rfl (Yt u136) (OV.pickT rfl u137 rfl) (Zg 21 rfl (Yt u136) Ym ?_)))
 rcases h.em with ⟨u140, h⟩ | ⟨u140, h⟩
 refine Zg 22 rfl (Yt u140) Yf ?_
 obtain ⟨x141, v142, h⟩ := h
 refine Zg 23 rfl (Yt u140) (Yo v142) (Zg 24 rfl (Yt u140) (OV.sbin (a := x141) (b := ([102, 97, 108, 115, 101] : Str)) (v := .bool (!(x141 == ([102, 97, 108, 115, 101] : Str)))) rfl rfl rfl) (Zg 25 rfl (Yt u136) (OV.pickT rfl u140 rfl) (Zg 26 rfl (Yt u131) (OV.pickF rfl u136 rfl) (Zp 27 rfl (OV.pickT rfl u131 rfl) (Zp 32 rfl Ya (Zp 33 rfl Ya (GA.done (by kernel_rfl) ?_)))))))
 exact Yj I3 ((!(x141 == ([102, 97, 108, 115, 101] : Str))), (decide (((Sl.len x125 : Int) : Int) ≤ 8))) h
 refine Zj 22 rfl (Yw u140) (Zj 23 rfl (Yw u140) (Zj 24 rfl (Yw u140) (Zg 25 rfl (Yt u136) (OV.pickF rfl u140 rfl) (Zg 26 rfl (Yt u131) (OV.pickF rfl u136 rfl) (Zp 27 rfl (OV.pickT rfl u131 rfl) (Zp 32 rfl Ya (Zp 33 rfl Ya (GA.done (by kernel_rfl) ?_))))))))
 exact Yj I3 (false, (decide (((Sl.len x125 : Int) : Int) ≤ 8))) h
 refine Zj 17 rfl (Yw u137) (Zj 18 rfl (Yw u137) (Zj 19 rfl (Yw u137) (Zg 20 rfl (Yt u136) (OV.pickF rfl u137 rfl) (Zg 21 rfl (Yt u136) Ym (Zj 22 rfl (Yw rfl) (Zj 23 rfl (Yw rfl) (Zj 24 rfl (Yw rfl) (Zg 25 rfl (Yt u136) (OV.pickF rfl rfl rfl) (Zg 26 rfl (Yt u131) (OV.pickF rfl u136 rfl) (Zp 27 rfl (OV.pickT rfl u131 rfl) (Zp 32 rfl Ya (Zp 33 rfl Ya (GA.done (by kernel_rfl) ?_)))))))))))))
 exact Yj I3 (false, (decide (((Sl.len x125 : Int) : Int) ≤ 8))) h
 refine Zj 10 rfl (Yw u132) (Zj 11 rfl (Yw u132) (Zg 12 rfl (Yt u131) (OV.pickF rfl u132 rfl) (Zg 13 rfl (Yt u131) Ym (Zg 14 rfl (Yt rfl) Ym (Zg 15 rfl (Yt rfl) (OV.not rfl) (Zg 16 rfl (Yt rfl) Ym ?_))))))
 rcases h.em with ⟨u143, h⟩ | ⟨u143, h⟩
 refine Zg 17 rfl (Yt u143) Yf ?_
 obtain ⟨x144, v145, h⟩ := h
 refine Zg 18 rfl (Yt u143) (Yo v145) (Zg 19 rfl (Yt u143) (OV.sbin (a := x144) (b := ([116, 114, 117, 101] : Str)) (v := .bool (!(x144 == ([116, 114, 117, 101] : Str)))) rfl rfl rfl) (Zg 20 rfl (Yt rfl) (OV.pickT rfl u143 rfl) (Zg 21 rfl (Yt rfl) Ym ?_)))
 rcases h.em with ⟨u146, h⟩ | ⟨u146, h⟩
 refine Zg 22 rfl (Yt u146) Yf ?_
 obtain ⟨x147, v148, h⟩ := h
 refine Zg 23 rfl (Yt u146) (Yo v148) (Zg 24 rfl (Yt u146) (OV.sbin (a := x147) (b := ([102, 97, 108, 115, 101] : Str)) (v := .bool (!(x147 == ([102, 97, 108, 115, 101] : Str)))) rfl rfl rfl) (Zg 25 rfl (Yt rfl) (OV.pickT rfl u146 rfl) (Zg 26 rfl (Yt u131) (OV.pickF rfl rfl rfl) (Zp 27 rfl (OV.pickT rfl u131 rfl) (Zp 32 rfl Ya (Zp 33 rfl Ya (GA.done (by kernel_rfl) ?_)))))))
 exact Yj I3 ((!(x147 == ([102, 97, 108, 115, 101] : Str))), (decide (((Sl.len x125 : Int) : Int) ≤ 8))) h
 refine Zj 22 rfl (Yw u146) (Zj 23 rfl (Yw u146) (Zj 24 rfl (Yw u146) (Zg 25 rfl (Yt rfl) (OV.pickF rfl u146 rfl) (Zg 26 rfl (Yt u131) (OV.pickF rfl rfl rfl) (Zp 27 rfl (OV.pickT rfl u131 rfl) (Zp 32 rfl Ya (Zp 33 rfl Ya (GA.done (by kernel_rfl) ?_))))))))
 exact Yj I3 (false, (decide (((Sl.len x125 : Int) : Int) ≤ 8))) h
 refine Zj 17 rfl (Yw u143) (Zj 18 rfl (Yw u143) (Zj 19 rfl (Yw u143) (Zg 20 rfl (Yt rfl) (OV.pickF rfl u143 rfl) (Zg 21 rfl (Yt rfl) Ym (Zj 22 rfl (Yw rfl) (Zj 23 rfl (Yw rfl) (Zj 24 rfl (Yw rfl) (Zg 25 rfl (Yt rfl) (OV.pickF rfl rfl rfl) (Zg 26 rfl (Yt u131) (OV.pickF rfl rfl rfl) (Zp 27 rfl (OV.pickT rfl u131 rfl) (Zp 32 rfl Ya (Zp 33 rfl Ya (GA.done (by kernel_rfl) ?_)))))))))))))
 exact Yj I3 (false, (decide (((Sl.len x125 : Int) : Int) ≤ 8))) h
 refine Zj 8 rfl (Yw u131) (Zj 9 rfl (Yw u131) (Zj 10 rfl ⟨_, rfl, .inr rfl⟩ (Zj 11 rfl ⟨_, rfl, .inr rfl⟩ (Zj 12 rfl (Yw u131) (Zj 13 rfl (Yw u131) (Zj 14 rfl ⟨_, rfl, .inr rfl⟩ (Zj 15 rfl ⟨_, rfl, .inr rfl⟩ (Zj 16 rfl ⟨_, rfl, .inr rfl⟩ (Zj 17 rfl ⟨_, rfl, .inr rfl⟩ (Zj 18 rfl ⟨_, rfl, .inr rfl⟩ (Zj 19 rfl ⟨_, rfl, .inr rfl⟩ (Zj 20 rfl ⟨_, rfl, .inr rfl⟩ (Zj 21 rfl ⟨_, rfl, .inr rfl⟩ (Zj 22 rfl ⟨_, rfl, .inr rfl⟩ (Zj 23 rfl ⟨_, rfl, .inr rfl⟩ (Zj 24 rfl ⟨_, rfl, .inr rfl⟩ (Zj 25 rfl ⟨_, rfl, .inr rfl⟩ (Zj 26 rfl (Yw u131) (Zp 27 rfl (OV.pickF rfl u131 rfl) (Zp 32 rfl Ya (Zp 33 rfl Ya (GA.done (by kernel_rfl) ?_))))))))))))))))))))))
 exact Yj I3 (false, (decide (((Sl.len x125 : Int) : Int) ≤ 8))) h
 refine Zj 4 rfl (Yw u127) (Zj 5 rfl (Yw u127) (Zp 6 rfl (OV.pickF rfl u127 rfl) (Zp 7 rfl Ym (Zj 8 rfl (Yw rfl) (Zj 9 rfl (Yw rfl) (Zj 10 rfl ⟨_, rfl, .inr rfl⟩ (Zj 11 rfl ⟨_, rfl, .inr rfl⟩ (Zj 12 rfl (Yw rfl) (Zj 13 rfl (Yw rfl) (Zj 14 rfl ⟨_, rfl, .inr rfl⟩ (Zj 15 rfl ⟨_, rfl, .inr rfl⟩ (Zj 16 rfl ⟨_, rfl, .inr rfl⟩ (Zj 17 rfl ⟨_, rfl, .inr rfl⟩ (Zj 18 rfl ⟨_, rfl, .inr rfl⟩ (Zj 19 rfl ⟨_, rfl, .inr rfl⟩ (Zj 20 rfl ⟨_, rfl, .inr rfl⟩ (Zj 21 rfl ⟨_, rfl, .inr rfl⟩ (Zj 22 rfl ⟨_, rfl, .inr rfl⟩ (Zj 23 rfl ⟨_, rfl, .inr rfl⟩ (Zj 24 rfl ⟨_, rfl, .inr rfl⟩ (Zj 25 rfl ⟨_, rfl, .inr rfl⟩ (Zj 26 rfl (Yw rfl) (Zp 27 rfl (OV.pickF rfl rfl rfl) (Zp 32 rfl Ya (Zp 33 rfl Ya (GA.done (by kernel_rfl) ?_))))))))))))))))))))))))))
 exact Yj I3 (false, (decide (((Sl.len x125 : Int) : Int) ≤ 8))) h
 intro x118 H119 h
 replace h := hR120 x118 H119 h
 exact Yj I3 (x118.1, x118.2) h
 refine GC.region (Za ?_)
 exact Yj I3 (false, true) h
 intro x20 H21 h
 replace h := hR22 x20 H21 h
 refine GC.seq (Zo (Zf (Yl h fun x149 h => ?_)))
 refine Zq (Zm (GL.nil (GC.block (Yp h (fun x151 => [(2, .bool x151.1), (3, .bool x151.2.1), (162, .int .i64 x151.2.2), (160, slv x149), (161, .int .i64 (Sl.len x149 : Int))]) ?_))))
 intro x151 H153 J152 h
 refine Zo (Zi (.bool (decide ((x151.2.2 : Int) < (Sl.len x149 : Int)))) (GL.nil (GC.seq (Yd h (fun u154 h => ?_) fun u154 h => ?_))))
 refine GC.skip (GC.seq (GC.block (Zo (Yx h fun p155 h => ?_))))
 obtain ⟨x160, v161, h⟩ := h
 refine Zv (OV.loadT rfl rfl rfl v161) (GL.alloc (cs := Qb.c Qb.zero) h trivial rfl rfl rfl ?_)
 intro b162 H163 h
 refine GL.storeT (p := (b162, 0)) (vs := Qb.c x160) h trivial rfl rfl rfl rfl ?_
 intro H164 h
 refine GL.nil (Zo ?_)
 obtain ⟨x165, v166, h⟩ := h
 refine Zv (OV.loadT rfl rfl rfl v166) (Zc h QdC ?_)
 rintro _ H169 ⟨r167, r168, rfl, h⟩
 refine Zm (Yv (.bool r167) rfl rfl (Yv (.bool r168) rfl rfl (Za (Za (GL.nil (GC.region (Zm (Zm (GL.cut0 2 [(174, .bool (x151.1 && r167)), (3, .bool x151.2.1), (12, .bool r168), (160, slv x149), (161, .int .i64 (Sl.len x149 : Int)), (162, .int .i64 x151.2.2)] ?_ ?_)))))))))
 rcases Bool.eq_false_or_eq_true x151.1 with u170 | u170
 refine Zu u170 Ym (Zt u170 ?_)
 exact GL.jump0 (fun _ _ h => h) () rfl ⟨(by rw [u170]; rfl), rfl, rfl, rfl, rfl, rfl, trivial⟩
 refine Zk u170 (Zn u170 ?_)
 exact GL.jump0 (fun _ _ h => h) () rfl ⟨(by rw [u170]; rfl), rfl, rfl, rfl, rfl, rfl, trivial⟩
 refine Zm (Zm (GL.cut0 2 [(178, .bool (x151.2.1 && r168)), (160, slv x149), (161, .int .i64 (Sl.len x149 : Int)), (162, .int .i64 x151.2.2), (174, .bool (x151.1 && r167))] ?_ ?_))
 rcases Bool.eq_false_or_eq_true x151.2.1 with u171 | u171
 refine Zu u171 Ym (Zt u171 ?_)
 exact GL.jump0 (fun _ _ h => h) () rfl ⟨(by rw [u171]; rfl), rfl, rfl, rfl, rfl, trivial⟩
 refine Zk u171 (Zn u171 ?_)
 exact GL.jump0 (fun _ _ h => h) () rfl ⟨(by rw [u171]; rfl), rfl, rfl, rfl, rfl, trivial⟩
 refine Za (Za (GL.nil_to (fun _ _ h => h) (GC.region (Zi (.int .i64 (w .i64 (x151.2.2 + 1))) (Zm ?_)))))
 exact Yj I3 ((x151.1 && r167), (x151.2.1 && r168), (w .i64 (x151.2.2 + 1))) h
 refine GC.exit_to (fun _ _ h => h) (Zo (Zm (Zm (Za (Za (GL.nil ?_))))))
 exact Y2 I3 ⟨x151.1, x151.2.1, rfl, h⟩
def Qaa (C : Ctx) (p_s : Sl) (p_f : Value) (K : Int → Heap → Prop) (H : Heap) : Prop :=
 lp (α := Int) 0 H (fun x1 J2 H3 =>
 ift (decide ((x1 : Int) < (Sl.len p_s : Int)))
 (ixa p_s x1 fun p5 =>
 ldT H3 Qa.c (p5.1, p5.2 + (x1 : Int).toNat * 2) fun x10 =>
 callU Tryz.prog C p_f [.agg (Qa.c x10).toArray] H3 (fun v H13 => ∃ (r12 : Bool), v = .bool r12 ∧
 ift r12
 (K x1 H13)
 (J2 (w .i64 (x1 + 1)) H13)))
 (K (-1) H3))
theorem Qa6 (C p_s p_f K H) (h : Qaa C p_s p_f K H) : QG C p_s p_f K H := by
 refine Ye Tryz.func65 rfl Tryz.ntmps65 [(0, slv p_s), (1, p_f)] (Zo (Za (GL.nil (GC.seq (Zo (Zm (Zq (Zm (GL.nil (GC.block (Yp h (fun x1 => [(8, .int .i64 x1), (0, slv p_s), (1, p_f), (7, .int .i64 (Sl.len p_s : Int))]) ?_)))))))))))
 intro x1 H3 J2 h
 refine Zo (Zi (.bool (decide ((x1 : Int) < (Sl.len p_s : Int)))) (GL.nil (GC.seq (Yd h (fun u4 h => ?_) fun u4 h => ?_))))
 refine GC.skip (GC.seq (GC.block (Zo (Zm (Za (GL.nil (Zo (Zm (Zm (Zm (Yx h fun p5 h => ?_)))))))))))
 obtain ⟨x10, v11, h⟩ := h
 refine Zv (OV.loadT rfl rfl rfl v11) (GL.callU (xv := p_f) (vs := [.agg (Qa.c x10).toArray]) h trivial rfl rfl rfl ?_)
 rintro _ H13 ⟨r12, rfl, h⟩
 refine GL.nil (Yd h (fun u14 h => ?_) fun u14 h => ?_)
 refine Zo (Zm (Za (GL.nil ?_)))
 exact Y1 I3 ⟨x1, rfl, h⟩
 refine GC.skip_to (fun _ _ h => h) (GC.region (Zi (.int .i64 (w .i64 (x1 + 1))) (Zm ?_)))
 exact Yj I3 (w .i64 (x1 + 1)) h
 refine GC.exit_to (fun _ _ h => h) (Zo (Za (GL.nil ?_)))
 exact Y1 I3 ⟨(-1), rfl, h⟩
def QhX (C : Ctx) (p_parts : Sl) (K : Value → Heap → Prop) (H : Heap) : Prop :=
 nw ([slv p_parts]) (fun b1 H2 =>
 K (.func (.func 80) (List.toArray []) (List.toArray [pv (some (b1, 0))]) : Value) H2) H
theorem Qk7 (C p_parts K H) (h : QhX C p_parts K H) : Qc6 C p_parts K H := by
 refine Ye Tryz.func66 rfl Tryz.ntmps66 [(0, slv p_parts)] (Zo (GL.box (v := slv p_parts) (cs := [slv p_parts]) h trivial rfl rfl rfl ?_))
 intro b1 H2 h
 refine Za (GL.nil (Zo (Zv (OV.makeFunc (vs := []) (us := [pv (some (b1, 0))]) rfl rfl) (Za (GL.nil ?_)))))
 exact Y1 I3 ⟨(.func (.func 80) (List.toArray []) (List.toArray [pv (some (b1, 0))]) : Value), rfl, h⟩
def QB (C : Ctx) (p_s : Sl) (p_f : Value) (K : Bool → Heap → Prop) (H : Heap) : Prop :=
 QL C p_s p_f (fun r1 H2 =>
 K (decide ((r1 : Int) ≥ 0)) H2) H
theorem Q1 (C p_s p_f K H) (h : QB C p_s p_f K H) : Qo C p_s p_f K H := by
 refine Ye Tryz.func67 rfl Tryz.ntmps67 [(0, slv p_s), (1, p_f)] (Zo (Za (GL.nil (Zo (Zm (Zm (Zc h Qbo ?_)))))))
 rintro _ H2 ⟨r1, rfl, h⟩
 refine Zi (.bool (decide ((r1 : Int) ≥ 0))) (Za (GL.nil ?_))
 exact Y1 I3 ⟨(decide ((r1 : Int) ≥ 0)), rfl, h⟩
def Qf4 (C : Ctx) (p_v : Qb) (K : Bool → Heap → Prop) (H : Heap) : Prop :=
 nw (Qb.c p_v) (fun b1 H2 =>
 ldT H2 Qb.c (b1, 0) fun x3 =>
 Qak C x3 (fun r5 H6 =>
 K ((r5 : Int) != 0) H6) H2) H
theorem Qjo (C p_v K H) (h : Qf4 C p_v K H) : Qbv C p_v K H := by
 refine Ye Tryz.func68 rfl Tryz.ntmps68 [(0, .agg (Qb.c p_v).toArray)] (Zo (GL.box (v := .agg (Qb.c p_v).toArray) (cs := Qb.c p_v) h trivial rfl rfl rfl ?_))
 intro b1 H2 h
 refine Za (GL.nil (Zo ?_))
 obtain ⟨x3, v4, h⟩ := h
 refine Zv (OV.loadT rfl rfl rfl v4) (Zc h QdX ?_)
 rintro _ H6 ⟨r5, rfl, h⟩
 refine Zi (.bool ((r5 : Int) != 0)) (Za (GL.nil ?_))
 exact Y1 I3 ⟨((r5 : Int) != 0), rfl, h⟩
def Ql1 (C : Ctx) (p_n : Int) (K : Bool → Heap → Prop) (H : Heap) : Prop :=
 K ((decide ((p_n : Int) < (-2147483647))) || (decide ((p_n : Int) > 2147483647))) H
theorem QlL (C p_n K H) (h : Ql1 C p_n K H) : Qc0 C p_n K H := by
 refine Ye Tryz.func69 rfl Tryz.ntmps69 [(0, .int .i64 p_n)] (Zo (Za (GL.nil (Zo (Zm (Zi (.bool (decide ((p_n : Int) < (-2147483647)))) (Zm (GL.cut0 3 [(8, .bool ((decide ((p_n : Int) < (-2147483647))) || (decide ((p_n : Int) > 2147483647))))] ?_ ?_))))))))
 rcases Zb (decide ((p_n : Int) < (-2147483647))) with u1 | u1
 refine Zk u1 (Zk u1 (Zt u1 ?_))
 exact GL.jump0 (fun _ _ h => h) () rfl ⟨(by rw [u1]; rfl), trivial⟩
 refine Zu u1 Ym (Zu u1 (OV.ibin (v := .bool (decide ((p_n : Int) > 2147483647))) rfl rfl rfl) (Zn u1 ?_))
 exact GL.jump0 (fun _ _ h => h) () rfl ⟨(by rw [u1]; rfl), trivial⟩
 refine Za (GL.nil ?_)
 exact Y1 I3 ⟨((decide ((p_n : Int) < (-2147483647))) || (decide ((p_n : Int) > 2147483647))), rfl, h⟩
def Qx (C : Ctx) (p_x : Sl) (p_cmp : Value) (K : Heap → Prop) (H : Heap) : Prop :=
 QW C p_x (Sl.len p_x : Int) p_cmp (fun H1 =>
 K H1) H
theorem QR (C p_x p_cmp K H) (h : Qx C p_x p_cmp K H) : Ql C p_x p_cmp K H := by
 refine Ye Tryz.func70 rfl Tryz.ntmps70 [(0, slv p_x), (1, p_cmp)] (GC.region (Zm (Zm (Zq (Zm (Zc h Qb2 ?_))))))
 rintro _ H1 ⟨rfl, h⟩
 exact GL.ends (fun _ _ hf hs => QJ rfl hf hs ⟨rfl, h⟩)
def Qf5 (C : Ctx) (p_a : Qa) (p_b : Qa) (K : Int → Heap → Prop) (H : Heap) : Prop :=
 nw (Qa.c p_a) (fun b1 H2 =>
 nw (Qa.c p_b) (fun b3 H4 =>
 ldL H4 ((b1, 0).1, (b1, 0).2 + 0) fun x5 =>
 ldL H4 ((b3, 0).1, (b3, 0).2 + 0) fun x7 =>
 QaK C x5 x7 (fun r9 H10 =>
 K r9 H10) H4) H2) H
theorem Qjp (C p_a p_b K H) (h : Qf5 C p_a p_b K H) : QaY C p_a p_b K H := by
 refine Ye Tryz.func71 rfl Tryz.ntmps71 [(0, .agg (Qa.c p_a).toArray), (1, .agg (Qa.c p_b).toArray)] (Zo (GL.box (v := .agg (Qa.c p_a).toArray) (cs := Qa.c p_a) h trivial rfl rfl rfl ?_))
 intro b1 H2 h
 refine GL.box (v := .agg (Qa.c p_b).toArray) (cs := Qa.c p_b) h trivial rfl rfl rfl ?_
 intro b3 H4 h
 refine Za (GL.nil (Zo (Zf (Yl h fun x5 h => ?_))))
 refine Zf (Yl h fun x7 h => ?_)
 refine Zc h QeF ?_
 rintro _ H10 ⟨r9, rfl, h⟩
 refine Za (GL.nil ?_)
 exact Y1 I3 ⟨r9, rfl, h⟩
def QeP (C : Ctx) (p_a : Sl) (p_b : Sl) (K : Int → Heap → Prop) (H : Heap) : Prop :=
 Qeh C p_a (fun r1 H2 =>
 Qeh C p_b (fun r3 H4 =>
 ift ((!r1) || (!r3))
 (Qe0 C r1 r3 (fun r7 H8 =>
 K r7 H8) H4)
 (Qcz C p_a p_b (fun r9 H10 =>
 K r9 H10) H4)) H2) H
theorem Qh6 (C p_a p_b K H) (h : QeP C p_a p_b K H) : QaK C p_a p_b K H := by
 refine Ye Tryz.func72 rfl Tryz.ntmps72 [(0, slv p_a), (1, slv p_b)] (Zo (Za (GL.nil (GC.seq (Zo (Zm (Zc h QhO ?_)))))))
 rintro _ H2 ⟨r1, rfl, h⟩
 refine Zm (Zc h QhO ?_)
 rintro _ H4 ⟨r3, rfl, h⟩
 refine Za (Za (GL.nil (Zo (Zm (Zv (OV.not rfl) (Zm (GL.cut0 3 [(16, .bool ((!r1) || (!r3))), (0, slv p_a), (1, slv p_b), (5, .bool r1), (6, .bool r3)] ?_ ?_)))))))
 rcases Zb (!r1) with u5 | u5
 refine Zk u5 (Zk u5 (Zt u5 ?_))
 exact GL.jump0 (fun _ _ h => h) () rfl ⟨(by rw [u5]; rfl), rfl, rfl, rfl, rfl, trivial⟩
 refine Zu u5 Ym (Zu u5 (OV.not rfl) (Zn u5 ?_))
 exact GL.jump0 (fun _ _ h => h) () rfl ⟨(by rw [u5]; rfl), rfl, rfl, rfl, rfl, trivial⟩
 refine GL.nil (Yd h (fun u6 h => ?_) fun u6 h => ?_)
 refine Zo (Zm (Zm (Zc h QkI ?_)))
 rintro _ H8 ⟨r7, rfl, h⟩
 refine Za (GL.nil ?_)
 exact Y1 I3 ⟨r7, rfl, h⟩
 refine GC.skip (Zo (Zm (Zm (Zc h QgT ?_))))
 rintro _ H10 ⟨r9, rfl, h⟩
 refine Za (GL.nil ?_)
 exact Y1 I3 ⟨r9, rfl, h⟩
def QiY (C : Ctx) (p_l : Sl) (K : Sl → Heap → Prop) (H : Heap) : Prop :=
 ift (((Sl.len p_l : Int) : Int) == 0)
 (K Sl.nil H)
 (QS C p_l (fun r2 H3 =>
 lp (α := Int) 0 H3 (fun x4 J5 H6 =>
 ift (decide ((x4 : Int) < (Sl.len r2 : Int)))
 (ixa r2 x4 fun p8 =>
 ldL H6 ((p8.1, p8.2 + (x4 : Int).toNat * 4).1, (p8.1, p8.2 + (x4 : Int).toNat * 4).2 + 3) fun x13 =>
 Qcn C x13 (fun r15 H16 =>
 ixa r2 x4 fun p17 =>
 st ((p17.1, p17.2 + (x4 : Int).toNat * 4).1, (p17.1, p17.2 + (x4 : Int).toNat * 4).2 + 3) (slv r15) (fun H22 =>
 J5 (w .i64 (x4 + 1)) H22) H16) H6)
 (K r2 H6))) H)
theorem QlM (C p_l K H) (h : QiY C p_l K H) : Qcn C p_l K H := by
 refine Ye Tryz.func73 rfl Tryz.ntmps73 [(0, slv p_l)] (Zo (Za (GL.nil (GC.seq (Zo (Zm (Zq (Zi (.bool (((Sl.len p_l : Int) : Int) == 0)) (GL.nil (Yd h (fun u1 h => ?_) fun u1 h => ?_))))))))))
 refine Zo (Za (GL.nil ?_))
 exact Y1 I3 ⟨Sl.nil, rfl, h⟩
 refine GC.skip (Zo (Zm (Zc h QbQ ?_)))
 rintro _ H3 ⟨r2, rfl, h⟩
 refine Za (GL.nil (GC.seq (Zo (Zm (Zq (Zm (GL.nil (GC.block (Yp h (fun x4 => [(11, .int .i64 x4), (0, slv r2), (10, .int .i64 (Sl.len r2 : Int))]) ?_)))))))))
 intro x4 H6 J5 h
 refine Zo (Zi (.bool (decide ((x4 : Int) < (Sl.len r2 : Int)))) (GL.nil (GC.seq (Yd h (fun u7 h => ?_) fun u7 h => ?_))))
 refine GC.skip (GC.seq (GC.block (Zo (Zm (Za (GL.nil (GC.region (Zm (Zm (Zm (Zm (Yx h fun p8 h => ?_))))))))))))
 refine Zf (Yl h fun x13 h => ?_)
 refine Zc h QiO ?_
 rintro _ H16 ⟨r15, rfl, h⟩
 refine Yx h fun p17 h => ?_
 refine Zf (GL.store (p := ((p17.1, p17.2 + (x4 : Int).toNat * 4).1, (p17.1, p17.2 + (x4 : Int).toNat * 4).2 + 3)) (v := slv r15) h trivial rfl rfl rfl rfl ?_)
 intro H22 h
 refine GL.nil_to (fun _ _ h => h) (GC.region (Zi (.int .i64 (w .i64 (x4 + 1))) (Zm ?_)))
 exact Yj I3 (w .i64 (x4 + 1)) h
 refine GC.exit_to (fun _ _ h => h) (Zo (Zm (Za (GL.nil ?_))))
 exact Y1 I3 ⟨r2, rfl, h⟩
def Qhj (C : Ctx) (p_v : Qb) (K : Str → Heap → Prop) (H : Heap) : Prop :=
 nw (Qb.c p_v) (fun b1 H2 =>
 ldT H2 Qb.c (b1, 0) fun x3 =>
 Qak C x3 (fun r5 H6 =>
 ift ((r5 : Int) != 0)
 (K [] H6)
 (nwB 128 5 (fun b8 H9 =>
 nw ([.nilFunc]) (fun b10 H11 =>
 nw ([.nilFunc]) (fun b12 H13 =>
 st (b12, 0) (.func (.func 87) (List.toArray []) (List.toArray [pv (some (b8, 0)), pv (some (b10, 0))])) (fun H14 =>
 st (b10, 0) (.func (.func 90) (List.toArray []) (List.toArray [pv (some (b8, 0)), pv (some (b12, 0))])) (fun H15 =>
 ldV H15 (b10, 0) fun x16 =>
 ldT H15 Qb.c (b1, 0) fun x18 =>
 callU Tryz.prog C x16 [.agg (Qb.c x18).toArray] H15 (fun v H20 => v = .tuple #[] ∧
 Qy C (some (b8, 0)) (fun r21 H22 =>
 K r21 H22) H20)) H14) H13) H11) H9) H6)) H2) H
theorem Qki (C p_v K H) (h : Qhj C p_v K H) : QbV C p_v K H := by
 refine Ye Tryz.func74 rfl Tryz.ntmps74 [(0, .agg (Qb.c p_v).toArray)] (Zo (GL.box (v := .agg (Qb.c p_v).toArray) (cs := Qb.c p_v) h trivial rfl rfl rfl ?_))
 intro b1 H2 h
 refine Za (GL.nil (GC.seq (Zo ?_)))
 obtain ⟨x3, v4, h⟩ := h
 refine Zv (OV.loadT rfl rfl rfl v4) (Zc h QdX ?_)
 rintro _ H6 ⟨r5, rfl, h⟩
 refine Zi (.bool ((r5 : Int) != 0)) (GL.nil (Yd h (fun u7 h => ?_) fun u7 h => ?_))
 refine Zo (Za (GL.nil ?_))
 exact Y1 I3 ⟨[], rfl, h⟩
 refine GC.skip (Zo (GL.allocB (T := 128) (e := 5) h trivial rfl rfl rfl ?_))
 intro b8 H9 h
 refine GL.nil (Zo (GL.alloc (cs := [.nilFunc]) h trivial rfl rfl rfl ?_))
 intro b10 H11 h
 refine GL.nil (Zo (Zv (OV.makeFunc (vs := []) (us := [pv (some (b8, 0)), pv (some (b10, 0))]) rfl rfl) (GL.alloc (cs := [.nilFunc]) h trivial rfl rfl rfl ?_)))
 intro b12 H13 h
 refine GL.store (p := (b12, 0)) (v := .func (.func 87) (List.toArray []) (List.toArray [pv (some (b8, 0)), pv (some (b10, 0))])) h trivial rfl rfl rfl rfl ?_
 intro H14 h
 refine GL.nil (Zo (Zv (OV.makeFunc (vs := []) (us := [pv (some (b8, 0)), pv (some (b12, 0))]) rfl rfl) (GL.store (p := (b10, 0)) (v := .func (.func 90) (List.toArray []) (List.toArray [pv (some (b8, 0)), pv (some (b12, 0))])) h trivial rfl rfl rfl rfl ?_)))
 intro H15 h
 refine GL.nil (Zo (Yl h fun x16 h => ?_))
 obtain ⟨x18, v19, h⟩ := h
 refine Zv (OV.loadT rfl rfl rfl v19) (GL.callU (xv := x16) (vs := [.agg (Qb.c x18).toArray]) h trivial rfl rfl rfl ?_)
 rintro _ H20 ⟨rfl, h⟩
 refine GL.nil (Zo (Zc h QdV ?_))
 rintro _ H22 ⟨r21, rfl, h⟩
 refine Za (GL.nil ?_)
 exact Y1 I3 ⟨r21, rfl, h⟩
def QfV (C : Ctx) (p_l : Sl) (K : Int → Heap → Prop) (H : Heap) : Prop :=
 lp (α := Int) 0 H (fun x1 J2 H3 =>
 ift (decide ((x1 : Int) < (Sl.len p_l : Int)))
 (ixa p_l x1 fun p5 =>
 ldL H3 ((p5.1, p5.2 + (x1 : Int).toNat * 2).1, (p5.1, p5.2 + (x1 : Int).toNat * 2).2 + 0) fun x10 =>
 Qc3 C x10 (fun r12 H13 =>
 ift (!r12)
 (K 4 H13)
 (J2 (w .i64 (x1 + 1)) H13)) H3)
 (lp (α := Int) 0 H3 (fun x15 J16 H17 =>
 ift (decide ((x15 : Int) < (Sl.len p_l : Int)))
 (ixa p_l x15 fun p19 =>
 ldI H17 .i64 ((p19.1, p19.2 + (x15 : Int).toNat * 2).1, (p19.1, p19.2 + (x15 : Int).toNat * 2).2 + 1) fun x24 =>
 jn (α := Bool) (fun b26 H37 =>
 ift b26
 (K 80 H37)
 (J16 (w .i64 (x15 + 1)) H37))
 (fun J27 => ift (decide ((x24 : Int) < (-2147483647)))
 (J27 true H17)
 (ixa p_l x15 fun p30 =>
 ldI H17 .i64 ((p30.1, p30.2 + (x15 : Int).toNat * 2).1, (p30.1, p30.2 + (x15 : Int).toNat * 2).2 + 1) fun x35 =>
 J27 (decide ((x35 : Int) > 2147483647)) H17)))
 (K 0 H17))))
theorem Qjf (C p_l K H) (h : QfV C p_l K H) : QaU C p_l K H := by
 refine Ye Tryz.func75 rfl Tryz.ntmps75 [(0, slv p_l)] (Zo (Za (GL.nil (GC.seq (Zo (Za (GL.nil (GC.block (Yp h (fun x1 => [(3, .int .i64 x1), (0, slv p_l)]) ?_)))))))))
 intro x1 H3 J2 h
 refine GC.seq (Zo (Zm (Zm (Zq (Zi (.bool (decide ((x1 : Int) < (Sl.len p_l : Int)))) (GL.nil (Yd h (fun u4 h => ?_) fun u4 h => ?_)))))))
 refine GC.skip (GC.seq (GC.block (Zo (Zm (Zm (Yx h fun p5 h => ?_))))))
 refine Zf (Yl h fun x10 h => ?_)
 refine Zc h Qe8 ?_
 rintro _ H13 ⟨r12, rfl, h⟩
 refine Zv (OV.not rfl) (GL.nil (Yd h (fun u14 h => ?_) fun u14 h => ?_))
 refine Zo (Za (GL.nil ?_))
 exact Y1 I3 ⟨4, rfl, h⟩
 refine GC.skip_to (fun _ _ h => h) (GC.region (Zm (Zi (.int .i64 (w .i64 (x1 + 1))) (Za ?_))))
 exact Yj I3 (w .i64 (x1 + 1)) h
 refine GC.exit_to (fun _ _ h => h) (GC.seq (Zo (Za (GL.nil (GC.block (Yp h (fun x15 => [(4, .int .i64 x15), (0, slv p_l)]) ?_))))))
 intro x15 H17 J16 h
 refine GC.seq (Zo (Zm (Zm (Zq (Zi (.bool (decide ((x15 : Int) < (Sl.len p_l : Int)))) (GL.nil (Yd h (fun u18 h => ?_) fun u18 h => ?_)))))))
 refine GC.skip (GC.seq (GC.block (Zo (Zm (Zm (Yx h fun p19 h => ?_))))))
 refine Zf (Yl h fun x24 h => ?_)
 refine Zi (.bool (decide ((x24 : Int) < (-2147483647)))) (Zm ?_)
 obtain ⟨J27, h, hR28⟩ := h
 refine GL.cut (α := Bool) 7 J27 (fun b26 => [(37, .bool b26), (0, slv p_l), (4, .int .i64 x15)]) ?_ ?_
 rcases h.em with ⟨u29, h⟩ | ⟨u29, h⟩
 refine Zk u29 (Zk u29 (Zk u29 (Zk u29 (Zk u29 (Zk u29 (Zt u29 ?_))))))
 exact Yj I3 true h
 refine Zu u29 Ym (Zu u29 Ym ?_)
 obtain ⟨p30, ha31, hb32, u33, hd34, h⟩ := h
 refine Zu u29 (OV.indexAddr rfl rfl rfl rfl ha31 hb32 u33 hd34) (Zu u29 Yf ?_)
 obtain ⟨x35, v36, h⟩ := h
 refine Zu u29 (Yo v36) (Zu u29 (OV.ibin (v := .bool (decide ((x35 : Int) > 2147483647))) rfl rfl rfl) (Zn u29 ?_))
 exact Yj I3 (decide ((x35 : Int) > 2147483647)) h
 intro b26 H37 h
 replace h := hR28 b26 H37 h
 refine GL.nil (Yd h (fun u38 h => ?_) fun u38 h => ?_)
 refine Zo (Za (GL.nil ?_))
 exact Y1 I3 ⟨80, rfl, h⟩
 refine GC.skip_to (fun _ _ h => h) (GC.region (Zm (Zi (.int .i64 (w .i64 (x15 + 1))) (Za ?_))))
 exact Yj I3 (w .i64 (x15 + 1)) h
 refine GC.exit_to (fun _ _ h => h) (Zo (Za (GL.nil ?_)))
 exact Y1 I3 ⟨0, rfl, h⟩
def QeN (C : Ctx) (p_a : Sl) (p_b : Sl) (K : Int → Heap → Prop) (H : Heap) : Prop :=
 Qc3 C p_a (fun r1 H2 =>
 Qc3 C p_b (fun r3 H4 =>
 ift ((!r1) || (!r3))
 (QeZ C r1 r3 (fun r7 H8 =>
 K r7 H8) H4)
 (QbT C p_a p_b (fun r9 H10 =>
 K r9 H10) H4)) H2) H
theorem Qh4 (C p_a p_b K H) (h : QeN C p_a p_b K H) : Qcb C p_a p_b K H := by
 refine Ye Tryz.func76 rfl Tryz.ntmps76 [(0, slv p_a), (1, slv p_b)] (Zo (Za (GL.nil (Zo (Zm (Zc h Qe8 ?_))))))
 rintro _ H2 ⟨r1, rfl, h⟩
 refine Zm (Zc h Qe8 ?_)
 rintro _ H4 ⟨r3, rfl, h⟩
 refine Za (Za (GL.nil (GC.seq (Zo (Zm (Zv (OV.not rfl) (Zm (GL.cut0 3 [(16, .bool ((!r1) || (!r3))), (0, slv p_a), (1, slv p_b), (5, .bool r1), (6, .bool r3)] ?_ ?_))))))))
 rcases Zb (!r1) with u5 | u5
 refine Zk u5 (Zk u5 (Zt u5 ?_))
 exact GL.jump0 (fun _ _ h => h) () rfl ⟨(by rw [u5]; rfl), rfl, rfl, rfl, rfl, trivial⟩
 refine Zu u5 Ym (Zu u5 (OV.not rfl) (Zn u5 ?_))
 exact GL.jump0 (fun _ _ h => h) () rfl ⟨(by rw [u5]; rfl), rfl, rfl, rfl, rfl, trivial⟩
 refine GL.nil (Yd h (fun u6 h => ?_) fun u6 h => ?_)
 refine Zo (Zm (Zm (Zc h QkG ?_)))
 rintro _ H8 ⟨r7, rfl, h⟩
 refine Za (GL.nil ?_)
 exact Y1 I3 ⟨r7, rfl, h⟩
 refine GC.skip (Zo (Zm (Zm (Zc h Qes ?_))))
 rintro _ H10 ⟨r9, rfl, h⟩
 refine Za (GL.nil ?_)
 exact Y1 I3 ⟨r9, rfl, h⟩
end
end Sx
end
