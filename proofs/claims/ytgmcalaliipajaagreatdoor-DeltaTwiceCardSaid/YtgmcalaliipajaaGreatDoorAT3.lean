/-
  Texts of this family, one behind the other: Sh2.
-/
import Derived.Test.YtgmcalaliipajaaGreatDoorAT2
noncomputable section
set_option linter.unusedVariables false
set_option maxRecDepth 100000
namespace Sx
open Go Go.Proofs
def sh_delta_DistinctChange (C : Ctx) (p_a : Sl) (p_da : Sl) (K : Sl → Int → Heap → Prop) (H : Heap) : Prop :=
 c_delta_parts C p_a p_da Sl.nil Sl.nil (fun r1 r2 r3 H4 =>
 nw (T_delta_part.c T_delta_part.zero) (fun b5 H6 =>
 nw (T_delta_part.c T_delta_part.zero) (fun b7 H8 =>
 stT (b5, 0) (T_delta_part.c r1) (fun H9 =>
 stT (b7, 0) (T_delta_part.c r2) (fun H10 =>
 ift ((r3 : Int) != 0)
 (K Sl.nil r3 H10)
 (mkM (fun b12 H13 =>
 nw (T_delta_side.c T_delta_side.zero) (fun b14 H15 =>
 stT (b14, 0) (T_delta_side.c (⟨Sl.nil⟩ : T_delta_side)) (fun H16 =>
 ldL H16 ((b5, 0).1, (b5, 0).2 + 1) fun x17 =>
 lp (α := Int) 0 H16 (fun x19 J20 H21 =>
 ift (decide ((x19 : Int) < (Sl.len x17 : Int)))
 (ixa x17 x19 fun p23 =>
 ldT H21 T_zset_Entry.c (p23.1, p23.2 + (x19 : Int).toNat * 2) fun x28 =>
 nw (T_zset_Entry.c T_zset_Entry.zero) (fun b30 H31 =>
 stT (b30, 0) (T_zset_Entry.c x28) (fun H32 =>
 ldT H32 T_delta_side.c (b14, 0) fun x33 =>
 ldL H32 ((b30, 0).1, (b30, 0).2 + 0) fun x35 =>
 c_delta_side_whole C x33 x35 (fun r37 r38 H39 =>
 upM (fun x : Int => (.int .i64 x : Value)) (some b12) r37 0 (fun H40 =>
 J20 (w .i64 (x19 + 1)) H40) H39) H32) H31) H21)
 (ldL H21 ((b5, 0).1, (b5, 0).2 + 0) fun x41 =>
 lp (α := Int) 0 H21 (fun x43 J44 H45 =>
 ift (decide ((x43 : Int) < (Sl.len x41 : Int)))
 (jn (α := Unit) (fun x48 H49 =>
 J44 (w .i64 (x43 + 1)) H49)
 (fun J47 => ixa x41 x43 fun p51 =>
 ldT H45 T_zset_Entry.c (p51.1, p51.2 + (x43 : Int).toNat * 2) fun x56 =>
 nw (T_zset_Entry.c T_zset_Entry.zero) (fun b58 H59 =>
 stT (b58, 0) (T_zset_Entry.c x56) (fun H60 =>
 ldT H60 T_delta_side.c (b14, 0) fun x61 =>
 ldL H60 ((b58, 0).1, (b58, 0).2 + 0) fun x63 =>
 c_delta_side_whole C x61 x63 (fun r65 r66 H67 =>
 lnM (some b12) (fun m68 =>
 ift (decide (((m68 : Int) : Int) > 0))
 (ldI H67 .i64 ((b58, 0).1, (b58, 0).2 + 1) fun x71 =>
 upM (fun x : Int => (.int .i64 x : Value)) (some b12) r65 x71 (fun H73 =>
 J47 () H73) H67)
 (J47 () H67)) H67) H60) H59) H45))
 (ldL H45 ((b5, 0).1, (b5, 0).2 + 1) fun x74 =>
 lp (α := Sl × Int) (Sl.nil, 0) H45 (fun x76 J77 H78 =>
 ift (decide ((x76.2 : Int) < (Sl.len x74 : Int)))
 (jn (α := Sl) (fun x81 H82 =>
 J77 (x81, (w .i64 (x76.2 + 1))) H82)
 (fun J80 => ixa x74 x76.2 fun p84 =>
 ldT H78 T_zset_Entry.c (p84.1, p84.2 + (x76.2 : Int).toNat * 2) fun x89 =>
 nw (T_zset_Entry.c T_zset_Entry.zero) (fun b91 H92 =>
 stT (b91, 0) (T_zset_Entry.c x89) (fun H93 =>
 ldT H93 T_delta_side.c (b14, 0) fun x94 =>
 ldL H93 ((b91, 0).1, (b91, 0).2 + 0) fun x96 =>
 c_delta_side_whole C x94 x96 (fun r98 r99 H100 =>
 lkM (fun x : Int => (.int .i64 x : Value)) 0 (some b12) r98 (fun x101 is102 =>
 lkM (fun x : Int => (.int .i64 x : Value)) 0 (some b12) r98 (fun x104 is105 =>
 ldI H100 .i64 ((b91, 0).1, (b91, 0).2 + 1) fun x107 =>
 ift ((decide (((w .i64 (x104 + x107)) : Int) > 0)) && (!(decide ((x101 : Int) > 0))))
 (ldL H100 ((b91, 0).1, (b91, 0).2 + 0) fun x111 =>
 apd (T_zset_Entry.c T_zset_Entry.zero) 32 x76.1 ((T_zset_Entry.c (⟨x111, 1⟩ : T_zset_Entry)) ++ []) 1 (fun r113 H114 =>
 J80 r113 H114) H100)
 (ift ((decide ((x101 : Int) > 0)) && (!(decide (((w .i64 (x104 + x107)) : Int) > 0))))
 (ldL H100 ((b91, 0).1, (b91, 0).2 + 0) fun x117 =>
 apd (T_zset_Entry.c T_zset_Entry.zero) 32 x76.1 ((T_zset_Entry.c (⟨x117, (-1)⟩ : T_zset_Entry)) ++ []) 1 (fun r119 H120 =>
 J80 r119 H120) H100)
 (J80 x76.1 H100))) H100) H100) H93) H92) H78))
 (c_zset_Clean C x76.1 (fun r121 r122 H123 =>
 K r121 r122 H123) H78))))))) H15) H13) H10)) H9) H8) H6) H4) H
theorem ad_delta_DistinctChange (C : Ctx) (p_a : Sl) (p_da : Sl) (K : Sl → Int → Heap → Prop) (H : Heap) (h : sh_delta_DistinctChange C p_a p_da K H) : c_delta_DistinctChange C p_a p_da K H := by
 refine Spec.enter Tryz.func17 rfl Tryz.ntmps17 rfl (GC.sub [(0, slv p_a), (1, slv p_da)] ⟨rfl, rfl, trivial⟩ (Zo (Za (Za (GL.nil (Zo (Zm (Zm (Zc h ok_delta_parts ?_)))))))))
 rintro _ H4 ⟨r1, r2, r3, rfl, h⟩
 refine Zm (Zv (OV.extract (v := .agg (T_delta_part.c r1).toArray) rfl rfl) (Zv (OV.extract (v := .agg (T_delta_part.c r2).toArray) rfl rfl) (Zv (OV.extract (v := .int .i64 r3) rfl rfl) (GL.alloc (cs := T_delta_part.c T_delta_part.zero) h trivial rfl rfl rfl ?_))))
 intro b5 H6 h
 refine GL.alloc (cs := T_delta_part.c T_delta_part.zero) h trivial rfl rfl rfl ?_
 intro b7 H8 h
 refine GL.storeT (p := (b5, 0)) (vs := T_delta_part.c r1) h trivial rfl rfl rfl rfl ?_
 intro H9 h
 refine GL.storeT (p := (b7, 0)) (vs := T_delta_part.c r2) h trivial rfl rfl rfl rfl ?_
 intro H10 h
 refine Za (GL.nil (GC.seq (Zo (Zm (Zi (.bool ((r3 : Int) != 0)) (GL.nil ?_))))))
 refine Zd (fun hc11 => ?_) fun hc11 => ?_
 replace h := h.1 hc11
 refine Zo (Zm (Za (Za (GL.nil ?_))))
 exact GC.ret (fun _ _ hf hs => post_tmp2 rfl rfl rfl hf hs ⟨Sl.nil, r3, rfl, h⟩)
 replace h := h.2 hc11
 refine GC.skip (Zo (GL.makeMap h trivial rfl ?_))
 intro b12 H13 h
 refine Za (GL.nil (Zo (Zv (OV.build (vs := []) (v := .agg (T_delta_side.c (⟨Sl.nil⟩ : T_delta_side)).toArray) rfl (fun _ => by kernel_rfl)) (GL.alloc (cs := T_delta_side.c T_delta_side.zero) h trivial rfl rfl rfl ?_))))
 intro b14 H15 h
 refine GL.storeT (p := (b14, 0)) (vs := T_delta_side.c (⟨Sl.nil⟩ : T_delta_side)) h trivial rfl rfl rfl rfl ?_
 intro H16 h
 refine GL.nil (GC.seq (Zo (Zf ?_)))
 obtain ⟨x17, hr18, h⟩ := h
 refine Zl hr18 (Zq (Zm (GL.nil (GC.block (GC.loop (α := Int) h (fun x19 => [(41, .int .i64 x19), (6, pv (some (b5, 0))), (9, mv (some b12)), (10, pv (some (b14, 0))), (39, slv x17), (40, .int .i64 (Sl.len x17 : Int))]) ⟨rfl, rfl, rfl, rfl, rfl, rfl, trivial⟩ ?_)))))
 intro x19 H21 J20 h
 refine Zo (Zi (.bool (decide ((x19 : Int) < (Sl.len x17 : Int)))) (GL.nil (GC.seq ?_)))
 refine Zd (fun hc22 => ?_) fun hc22 => ?_
 replace h := h.1 hc22
 refine GC.skip (GC.seq (GC.block (Zo ?_)))
 obtain ⟨p23, ha24, hb25, hc26, hd27, h⟩ := h
 refine Zx ha24 hb25 hc26 hd27 ?_
 obtain ⟨x28, hr29, h⟩ := h
 refine Zv (OV.loadT rfl rfl rfl hr29) (GL.alloc (cs := T_zset_Entry.c T_zset_Entry.zero) h trivial rfl rfl rfl ?_)
 intro b30 H31 h
 refine GL.storeT (p := (b30, 0)) (vs := T_zset_Entry.c x28) h trivial rfl rfl rfl rfl ?_
 intro H32 h
 refine GL.nil (Zo ?_)
 obtain ⟨x33, hr34, h⟩ := h
 refine Zv (OV.loadT rfl rfl rfl hr34) (Zf ?_)
 obtain ⟨x35, hr36, h⟩ := h
 refine Zl hr36 (Zc h ok_delta_side_whole ?_)
 rintro _ H39 ⟨r37, r38, rfl, h⟩
 refine Zm (Zv (OV.extract (v := sv r37) rfl rfl) (Zv (OV.extract (v := .bool r38) rfl rfl) (Za (Za (GL.nil (GC.region (Zm (Zm (GL.mapUpdate (enc := (fun x : Int => (.int .i64 x : Value))) (q := (some b12)) (k := r37) (x := 0) h trivial rfl rfl rfl rfl rfl ?_)))))))))
 intro H40 h
 refine GL.nil_to (fun _ _ h => h) (GC.region (Zi (.int .i64 (w .i64 (x19 + 1))) (Zm ?_)))
 exact GL.jump (fun _ _ h => h) (w .i64 (x19 + 1)) h ⟨rfl, rfl, rfl, rfl, rfl, rfl, trivial⟩
 replace h := h.2 hc22
 refine GC.exit_to (fun _ _ h => h) (GC.seq (Zo (Zf ?_)))
 obtain ⟨x41, hr42, h⟩ := h
 refine Zl hr42 (Zq (Zm (GL.nil (GC.block (GC.loop (α := Int) h (fun x43 => [(58, .int .i64 x43), (6, pv (some (b5, 0))), (9, mv (some b12)), (10, pv (some (b14, 0))), (56, slv x41), (57, .int .i64 (Sl.len x41 : Int))]) ⟨rfl, rfl, rfl, rfl, rfl, rfl, trivial⟩ ?_)))))
 intro x43 H45 J44 h
 refine Zo (Zi (.bool (decide ((x43 : Int) < (Sl.len x41 : Int)))) (GL.nil (GC.seq ?_)))
 refine Zd (fun hc46 => ?_) fun hc46 => ?_
 replace h := h.1 hc46
 refine GC.skip ?_
 obtain ⟨J47, h, hR50⟩ := h
 refine GC.join (α := Unit) J47 (fun _ => [(6, pv (some (b5, 0))), (9, mv (some b12)), (10, pv (some (b14, 0))), (56, slv x41), (57, .int .i64 (Sl.len x41 : Int)), (58, .int .i64 x43)]) ?_ ?_
 refine GC.block (Zo ?_)
 obtain ⟨p51, ha52, hb53, hc54, hd55, h⟩ := h
 refine Zx ha52 hb53 hc54 hd55 ?_
 obtain ⟨x56, hr57, h⟩ := h
 refine Zv (OV.loadT rfl rfl rfl hr57) (GL.alloc (cs := T_zset_Entry.c T_zset_Entry.zero) h trivial rfl rfl rfl ?_)
 intro b58 H59 h
 refine GL.storeT (p := (b58, 0)) (vs := T_zset_Entry.c x56) h trivial rfl rfl rfl rfl ?_
 intro H60 h
 refine GL.nil (Zo ?_)
 obtain ⟨x61, hr62, h⟩ := h
 refine Zv (OV.loadT rfl rfl rfl hr62) (Zf ?_)
 obtain ⟨x63, hr64, h⟩ := h
 refine Zl hr64 (Zc h ok_delta_side_whole ?_)
 rintro _ H67 ⟨r65, r66, rfl, h⟩
 refine Zm (Zv (OV.extract (v := sv r65) rfl rfl) (Zv (OV.extract (v := .bool r66) rfl rfl) (Za (Za (GL.nil (Zo (Zm ?_)))))))
 obtain ⟨m68, hm69, h⟩ := h
 refine Zv (OV.lenMap (q := (some b12)) (m := m68) hm69 rfl rfl) (Zi (.bool (decide (((m68 : Int) : Int) > 0))) (GL.nil ?_))
 refine Zd (fun hc70 => ?_) fun hc70 => ?_
 replace h := h.1 hc70
 refine GC.region (Zm (Zm (Zf ?_)))
 obtain ⟨x71, hr72, h⟩ := h
 refine Zl hr72 (GL.mapUpdate (enc := (fun x : Int => (.int .i64 x : Value))) (q := (some b12)) (k := r65) (x := x71) h trivial rfl rfl rfl rfl rfl ?_)
 intro H73 h
 exact GL.jump (fun _ _ h => h) () h ⟨rfl, rfl, rfl, rfl, rfl, rfl, trivial⟩
 replace h := h.2 hc70
 exact GC.jump (fun _ _ h => h) () h ⟨rfl, rfl, rfl, rfl, rfl, rfl, trivial⟩
 intro x48 H49 h
 replace h := hR50 x48 H49 h
 refine GC.region (Zi (.int .i64 (w .i64 (x43 + 1))) (Zm ?_))
 exact GL.jump (fun _ _ h => h) (w .i64 (x43 + 1)) h ⟨rfl, rfl, rfl, rfl, rfl, rfl, trivial⟩
 replace h := h.2 hc46
 refine GC.exit_to (fun _ _ h => h) (Zo (Za (GL.nil (GC.seq (Zo (Zf ?_))))))
 obtain ⟨x74, hr75, h⟩ := h
 refine Zl hr75 (Zq (Zm (GL.nil (GC.block (GC.loop (α := Sl × Int) h (fun x76 => [(19, slv x76.1), (80, .int .i64 x76.2), (9, mv (some b12)), (10, pv (some (b14, 0))), (78, slv x74), (79, .int .i64 (Sl.len x74 : Int))]) ⟨rfl, rfl, rfl, rfl, rfl, rfl, trivial⟩ ?_)))))
 intro x76 H78 J77 h
 refine Zo (Zi (.bool (decide ((x76.2 : Int) < (Sl.len x74 : Int)))) (GL.nil (GC.seq ?_)))
 refine Zd (fun hc79 => ?_) fun hc79 => ?_
 replace h := h.1 hc79
 refine GC.skip ?_
 obtain ⟨J80, h, hR83⟩ := h
 refine GC.join (α := Sl) J80 (fun x81 => [(19, slv x81), (9, mv (some b12)), (10, pv (some (b14, 0))), (78, slv x74), (79, .int .i64 (Sl.len x74 : Int)), (80, .int .i64 x76.2)]) ?_ ?_
 refine GC.block (Zo ?_)
 obtain ⟨p84, ha85, hb86, hc87, hd88, h⟩ := h
 refine Zx ha85 hb86 hc87 hd88 ?_
 obtain ⟨x89, hr90, h⟩ := h
 refine Zv (OV.loadT rfl rfl rfl hr90) (GL.alloc (cs := T_zset_Entry.c T_zset_Entry.zero) h trivial rfl rfl rfl ?_)
 intro b91 H92 h
 refine GL.storeT (p := (b91, 0)) (vs := T_zset_Entry.c x89) h trivial rfl rfl rfl rfl ?_
 intro H93 h
 refine GL.nil (Zo ?_)
 obtain ⟨x94, hr95, h⟩ := h
 refine Zv (OV.loadT rfl rfl rfl hr95) (Zf ?_)
 obtain ⟨x96, hr97, h⟩ := h
 refine Zl hr97 (Zc h ok_delta_side_whole ?_)
 rintro _ H100 ⟨r98, r99, rfl, h⟩
 refine Zm (Zv (OV.extract (v := sv r98) rfl rfl) (Zv (OV.extract (v := .bool r99) rfl rfl) (Za (Za (GL.nil (GC.seq (GC.draw (by kernel_rfl) (by kernel_rfl) (GQ.val trivial rfl (OV.move (v := mv (some b12)) rfl) (GQ.val trivial rfl (OV.move (v := sv r98) rfl) ?_)))))))))
 obtain ⟨x101, is102, hr103, h⟩ := h
 refine GQ.val trivial rfl (OV.lookup1 (v := .int .i64 x101) (enc := (fun x : Int => (.int .i64 x : Value))) (z := 0) (q := (some b12)) (k := r98) (x := x101) (b := is102) rfl hr103 rfl rfl rfl rfl rfl) (GQ.val trivial rfl (OV.ibin (v := .bool (decide ((x101 : Int) > 0))) rfl rfl rfl) (GQ.val trivial rfl (OV.move (v := mv (some b12)) rfl) (GQ.val trivial rfl (OV.move (v := sv r98) rfl) ?_)))
 obtain ⟨x104, is105, hr106, h⟩ := h
 refine GQ.val trivial rfl (OV.lookup1 (v := .int .i64 x104) (enc := (fun x : Int => (.int .i64 x : Value))) (z := 0) (q := (some b12)) (k := r98) (x := x104) (b := is105) rfl hr106 rfl rfl rfl rfl rfl) (GQ.val trivial rfl (OV.fieldAddr (p := (b91, 0)) rfl rfl) ?_)
 obtain ⟨x107, hr108, h⟩ := h
 refine GQ.val trivial rfl (OV.load (p := ((b91, 0).1, (b91, 0).2 + 1)) rfl rfl hr108) (GQ.val trivial rfl (OV.ibin (v := .int .i64 (w .i64 (x104 + x107))) rfl rfl rfl) (GQ.val trivial rfl (OV.ibin (v := .bool (decide (((w .i64 (x104 + x107)) : Int) > 0))) rfl rfl rfl) (GQ.val trivial rfl (OV.assign (v := .bool (decide ((x101 : Int) > 0))) rfl) (GQ.val trivial rfl (OV.assign (v := .bool (decide (((w .i64 (x104 + x107)) : Int) > 0))) rfl) (GQ.nil (GL.nil (GC.block (Zo (Zm (Zm ?_))))))))))
 refine GL.cut0 3 [(107, .bool ((decide (((w .i64 (x104 + x107)) : Int) > 0)) && (!(decide ((x101 : Int) > 0))))), (9, mv (some b12)), (10, pv (some (b14, 0))), (19, slv x76.1), (21, pv (some (b91, 0))), (24, .bool (decide ((x101 : Int) > 0))), (25, .bool (decide (((w .i64 (x104 + x107)) : Int) > 0))), (78, slv x74), (79, .int .i64 (Sl.len x74 : Int)), (80, .int .i64 x76.2)] ?_ ?_
 rcases Zb (decide (((w .i64 (x104 + x107)) : Int) > 0)) with hc109 | hc109
 refine Zu hc109 (OV.move rfl) (Zu hc109 (OV.not rfl) (Zt hc109 ?_))
 exact GL.jump0 (fun _ _ h => h) () rfl ⟨(by rw [hc109]; rfl), rfl, rfl, rfl, rfl, rfl, rfl, rfl, rfl, rfl, trivial⟩
 refine Zk hc109 (Zk hc109 (Zn hc109 ?_))
 exact GL.jump0 (fun _ _ h => h) () rfl ⟨(by rw [hc109]; rfl), rfl, rfl, rfl, rfl, rfl, rfl, rfl, rfl, rfl, trivial⟩
 refine Za (GL.nil ?_)
 refine Zd (fun hc110 => ?_) fun hc110 => ?_
 replace h := h.1 hc110
 refine GC.region (Zm (Zf ?_))
 obtain ⟨x111, hr112, h⟩ := h
 refine Zl hr112 (Zv (OV.build (vs := [(0, slv x111), (1, .int .i64 1)]) (v := .agg (T_zset_Entry.c (⟨x111, 1⟩ : T_zset_Entry)).toArray) rfl (fun _ => by kernel_rfl)) (GL.appendLit (s := x76.1) (ys := (T_zset_Entry.c (⟨x111, 1⟩ : T_zset_Entry)) ++ []) (zc := T_zset_Entry.c T_zset_Entry.zero) (bytes := 32) h trivial rfl (fun _ => trivial) rfl (fun _ => rfl) (fun _ => rfl) (vs := [(0, .agg (T_zset_Entry.c (⟨x111, 1⟩ : T_zset_Entry)).toArray)]) rfl ⟨47, fun _ => by kernel_rfl⟩ ⟨⟨_, _, _, rfl, rfl, rfl, rfl, rfl, rfl⟩⟩ rfl rfl ?_))
 intro _ r113 H114 h
 refine Za ?_
 exact GL.jump (fun _ _ h => h) r113 h ⟨rfl, rfl, rfl, rfl, rfl, rfl, trivial⟩
 replace h := h.2 hc110
 refine Zo (Zm (Zm ?_))
 refine GL.cut0 3 [(119, .bool ((decide ((x101 : Int) > 0)) && (!(decide (((w .i64 (x104 + x107)) : Int) > 0))))), (9, mv (some b12)), (10, pv (some (b14, 0))), (19, slv x76.1), (21, pv (some (b91, 0))), (78, slv x74), (79, .int .i64 (Sl.len x74 : Int)), (80, .int .i64 x76.2)] ?_ ?_
 rcases Zb (decide ((x101 : Int) > 0)) with hc115 | hc115
 refine Zu hc115 (OV.move rfl) (Zu hc115 (OV.not rfl) (Zt hc115 ?_))
 exact GL.jump0 (fun _ _ h => h) () rfl ⟨(by rw [hc115]; rfl), rfl, rfl, rfl, rfl, rfl, rfl, rfl, trivial⟩
 refine Zk hc115 (Zk hc115 (Zn hc115 ?_))
 exact GL.jump0 (fun _ _ h => h) () rfl ⟨(by rw [hc115]; rfl), rfl, rfl, rfl, rfl, rfl, rfl, rfl, trivial⟩
 refine Za (GL.nil ?_)
 refine Zd (fun hc116 => ?_) fun hc116 => ?_
 replace h := h.1 hc116
 refine GC.region (Zm (Zf ?_))
 obtain ⟨x117, hr118, h⟩ := h
 refine Zl hr118 (Zv (OV.build (vs := [(0, slv x117), (1, .int .i64 (-1))]) (v := .agg (T_zset_Entry.c (⟨x117, (-1)⟩ : T_zset_Entry)).toArray) rfl (fun _ => by kernel_rfl)) (GL.appendLit (s := x76.1) (ys := (T_zset_Entry.c (⟨x117, (-1)⟩ : T_zset_Entry)) ++ []) (zc := T_zset_Entry.c T_zset_Entry.zero) (bytes := 32) h trivial rfl (fun _ => trivial) rfl (fun _ => rfl) (fun _ => rfl) (vs := [(0, .agg (T_zset_Entry.c (⟨x117, (-1)⟩ : T_zset_Entry)).toArray)]) rfl ⟨47, fun _ => by kernel_rfl⟩ ⟨⟨_, _, _, rfl, rfl, rfl, rfl, rfl, rfl⟩⟩ rfl rfl ?_))
 intro _ r119 H120 h
 refine Za ?_
 exact GL.jump (fun _ _ h => h) r119 h ⟨rfl, rfl, rfl, rfl, rfl, rfl, trivial⟩
 replace h := h.2 hc116
 exact GC.jump (fun _ _ h => h) x76.1 h ⟨rfl, rfl, rfl, rfl, rfl, rfl, trivial⟩
 intro x81 H82 h
 replace h := hR83 x81 H82 h
 refine GC.region (Zi (.int .i64 (w .i64 (x76.2 + 1))) (Zm ?_))
 exact GL.jump (fun _ _ h => h) (x81, (w .i64 (x76.2 + 1))) h ⟨rfl, rfl, rfl, rfl, rfl, rfl, trivial⟩
 replace h := h.2 hc79
 refine GC.exit_to (fun _ _ h => h) (Zo (Zm (Zc h ok_zset_Clean ?_)))
 rintro _ H123 ⟨r121, r122, rfl, h⟩
 refine Zv (OV.extract (v := slv r121) rfl rfl) (Zv (OV.extract (v := .int .i64 r122) rfl rfl) (Za (Za (GL.nil ?_))))
 exact GC.ret (fun _ _ hf hs => post_tmp2 rfl rfl rfl hf hs ⟨r121, r122, rfl, h⟩)
def sh_ref16_Same (C : Ctx) (p_a : Sl) (p_b : Sl) (K : Bool → Heap → Prop) (H : Heap) : Prop :=
 ift (((Sl.len p_a : Int) : Int) != (Sl.len p_b : Int))
 (K false H)
 (lp (α := Int) 0 H (fun x2 J3 H4 =>
 ift (decide ((x2 : Int) < (Sl.len p_a : Int)))
 (jn (α := Bool) (fun x7 H8 =>
 ift x7
 (K false H8)
 (J3 (w .i64 (x2 + 1)) H8))
 (fun J6 => dr H4 fun Hs10 =>
 ixa p_a x2 fun p12 =>
 ldI Hs10 .i64 ((p12.1, p12.2 + (x2 : Int).toNat * 2).1, (p12.1, p12.2 + (x2 : Int).toNat * 2).2 + 1) fun x17 =>
 ixa p_b x2 fun p19 =>
 ldI Hs10 .i64 ((p19.1, p19.2 + (x2 : Int).toNat * 2).1, (p19.1, p19.2 + (x2 : Int).toNat * 2).2 + 1) fun x24 =>
 ift ((x17 : Int) != x24)
 (J6 true H4)
 (ixa p_a x2 fun p27 =>
 ldL Hs10 ((p27.1, p27.2 + (x2 : Int).toNat * 2).1, (p27.1, p27.2 + (x2 : Int).toNat * 2).2 + 0) fun x32 =>
 ixa p_b x2 fun p34 =>
 ldL Hs10 ((p34.1, p34.2 + (x2 : Int).toNat * 2).1, (p34.1, p34.2 + (x2 : Int).toNat * 2).2 + 0) fun x39 =>
 c_ref02_SameRow C x32 x39 (fun r42 H43 =>
 Heap.le Hs10 H43 ∧
 J6 (!r42) H43) H4)))
 (K true H4)))
theorem ad_ref16_Same (C : Ctx) (p_a : Sl) (p_b : Sl) (K : Bool → Heap → Prop) (H : Heap) (h : sh_ref16_Same C p_a p_b K H) : c_ref16_Same C p_a p_b K H := by
 refine Spec.enter Tryz.func19 rfl Tryz.ntmps19 rfl (GC.sub [(0, slv p_a), (1, slv p_b)] ⟨rfl, rfl, trivial⟩ (Zo (Za (GL.nil (GC.seq (Zo (Zm (Zq (Zm (Zq (Zi (.bool (((Sl.len p_a : Int) : Int) != (Sl.len p_b : Int))) ?_)))))))))))
 refine GL.nil ?_
 refine Zd (fun hc1 => ?_) fun hc1 => ?_
 replace h := h.1 hc1
 refine Zo (Za (GL.nil ?_))
 exact GC.ret (fun _ _ hf hs => post_tmp1 rfl rfl hf hs ⟨false, rfl, h⟩)
 replace h := h.2 hc1
 refine GC.skip (GC.seq (Zo (Za (GL.nil (GC.block (GC.loop (α := Int) h (fun x2 => [(5, .int .i64 x2), (0, slv p_a), (1, slv p_b)]) ⟨rfl, rfl, rfl, trivial⟩ ?_))))))
 intro x2 H4 J3 h
 refine GC.seq (Zo (Zm (Zm (Zq (Zi (.bool (decide ((x2 : Int) < (Sl.len p_a : Int)))) (GL.nil ?_))))))
 refine Zd (fun hc5 => ?_) fun hc5 => ?_
 replace h := h.1 hc5
 refine GC.skip (GC.seq (GC.block (GC.seq ?_)))
 obtain ⟨J6, h, hR9⟩ := h
 refine GC.meet (α := Bool) J6 (fun x7 => [(41, .bool x7), (0, slv p_a), (1, slv p_b), (5, .int .i64 x2)]) ?_ ?_
 obtain ⟨Hs10, hle11, h⟩ := h
 refine GC.any (Hs := Hs10) (by kernel_rfl) hle11 (Zp 0 rfl (OV.move rfl) (Zp 1 rfl (OV.move rfl) ?_))
 obtain ⟨p12, ha13, hb14, hc15, hd16, h⟩ := h
 refine Zp 2 rfl (OV.indexAddr rfl rfl rfl rfl ha13 hb14 hc15 hd16) (Zp 3 rfl (OV.fieldAddr rfl rfl) ?_)
 obtain ⟨x17, hr18, h⟩ := h
 refine Zp 4 rfl (OV.load rfl rfl hr18) (Zp 5 rfl (OV.move rfl) (Zp 6 rfl (OV.move rfl) ?_))
 obtain ⟨p19, ha20, hb21, hc22, hd23, h⟩ := h
 refine Zp 7 rfl (OV.indexAddr rfl rfl rfl rfl ha20 hb21 hc22 hd23) (Zp 8 rfl (OV.fieldAddr rfl rfl) ?_)
 obtain ⟨x24, hr25, h⟩ := h
 refine Zp 9 rfl (OV.load rfl rfl hr25) (Zp 10 rfl (OV.ibin (v := .bool ((x17 : Int) != x24)) rfl rfl rfl) (Zp 11 rfl (OV.move rfl) ?_))
 rcases Zb ((x17 : Int) != x24) with hc26 | hc26
 replace h := h.1 hc26
 refine Zj 12 rfl ⟨_, rfl, .inl ⟨_, rfl, hc26⟩⟩ (Zj 13 rfl ⟨_, rfl, .inl ⟨_, rfl, hc26⟩⟩ (Zj 14 rfl ⟨_, rfl, .inl ⟨_, rfl, hc26⟩⟩ (Zj 15 rfl ⟨_, rfl, .inl ⟨_, rfl, hc26⟩⟩ (Zj 16 rfl ⟨_, rfl, .inl ⟨_, rfl, hc26⟩⟩ (Zj 17 rfl ⟨_, rfl, .inl ⟨_, rfl, hc26⟩⟩ (Zj 18 rfl ⟨_, rfl, .inl ⟨_, rfl, hc26⟩⟩ (Zj 19 rfl ⟨_, rfl, .inl ⟨_, rfl, hc26⟩⟩ (Zj 20 rfl ⟨_, rfl, .inl ⟨_, rfl, hc26⟩⟩ (Zj 21 rfl ⟨_, rfl, .inl ⟨_, rfl, hc26⟩⟩ (Zj 22 rfl ⟨_, rfl, .inl ⟨_, rfl, hc26⟩⟩ (Zj 23 rfl ⟨_, rfl, .inl ⟨_, rfl, hc26⟩⟩ ?_)))))))))))
 refine Zp 24 rfl (OV.pickT rfl hc26 rfl) (GA.done (by kernel_rfl) ?_)
 exact GL.jump (fun _ _ h => h) true h ⟨rfl, rfl, rfl, rfl, trivial⟩
 replace h := h.2 hc26
 refine Zg 12 rfl ⟨_, _, rfl, rfl, hc26⟩ (OV.move rfl) (Zg 13 rfl ⟨_, _, rfl, rfl, hc26⟩ (OV.move rfl) ?_)
 obtain ⟨p27, ha28, hb29, hc30, hd31, h⟩ := h
 refine Zg 14 rfl ⟨_, _, rfl, rfl, hc26⟩ (OV.indexAddr rfl rfl rfl rfl ha28 hb29 hc30 hd31) (Zg 15 rfl ⟨_, _, rfl, rfl, hc26⟩ (OV.fieldAddr rfl rfl) ?_)
 obtain ⟨x32, hr33, h⟩ := h
 refine Zg 16 rfl ⟨_, _, rfl, rfl, hc26⟩ (OV.load rfl rfl hr33) (Zg 17 rfl ⟨_, _, rfl, rfl, hc26⟩ (OV.move rfl) (Zg 18 rfl ⟨_, _, rfl, rfl, hc26⟩ (OV.move rfl) ?_))
 obtain ⟨p34, ha35, hb36, hc37, hd38, h⟩ := h
 refine Zg 19 rfl ⟨_, _, rfl, rfl, hc26⟩ (OV.indexAddr rfl rfl rfl rfl ha35 hb36 hc37 hd38) (Zg 20 rfl ⟨_, _, rfl, rfl, hc26⟩ (OV.fieldAddr rfl rfl) ?_)
 obtain ⟨x39, hr40, h⟩ := h
 refine Zg 21 rfl ⟨_, _, rfl, rfl, hc26⟩ (OV.load rfl rfl hr40) (GA.eff 22 rfl (by kernel_rfl) (GL.call h ⟨_, _, rfl, rfl, hc26⟩ rfl ok_ref02_SameRow (vs := [slv x32, slv x39]) rfl ?_))
 rintro _ H43 ⟨r42, rfl, h⟩
 obtain ⟨hle41, h⟩ := h
 refine GA.back hle41 (Zg 23 rfl ⟨_, _, rfl, rfl, hc26⟩ (OV.not rfl) (Zp 24 rfl (OV.pickF rfl hc26 rfl) (GA.done (by kernel_rfl) ?_)))
 exact GL.jump (fun _ _ h => h) (!r42) h ⟨rfl, rfl, rfl, rfl, trivial⟩
 intro x7 H8 h
 replace h := hR9 x7 H8 h
 refine GL.nil ?_
 refine Zd (fun hc44 => ?_) fun hc44 => ?_
 replace h := h.1 hc44
 refine Zo (Za (GL.nil ?_))
 exact GC.ret (fun _ _ hf hs => post_tmp1 rfl rfl hf hs ⟨false, rfl, h⟩)
 replace h := h.2 hc44
 refine GC.skip_to (fun _ _ h => h) (GC.region (Zm (Zi (.int .i64 (w .i64 (x2 + 1))) (Za ?_))))
 exact GL.jump (fun _ _ h => h) (w .i64 (x2 + 1)) h ⟨rfl, rfl, rfl, trivial⟩
 replace h := h.2 hc5
 refine GC.exit_to (fun _ _ h => h) (Zo (Za (GL.nil ?_)))
 exact GC.ret (fun _ _ hf hs => post_tmp1 rfl rfl hf hs ⟨true, rfl, h⟩)
def sh_law24_back (C : Ctx) (p_l : Sl) (K : Sl → Heap → Prop) (H : Heap) : Prop :=
 lp (α := Sl × Int) (Sl.nil, 0) H (fun x1 J2 H3 =>
 ift (decide ((x1.2 : Int) < (Sl.len p_l : Int)))
 (dr H3 fun Hs5 =>
 ixa p_l x1.2 fun p7 =>
 ldL Hs5 ((p7.1, p7.2 + (x1.2 : Int).toNat * 2).1, (p7.1, p7.2 + (x1.2 : Int).toNat * 2).2 + 0) fun x12 =>
 ixa p_l x1.2 fun p14 =>
 ldI Hs5 .i64 ((p14.1, p14.2 + (x1.2 : Int).toNat * 2).1, (p14.1, p14.2 + (x1.2 : Int).toNat * 2).2 + 1) fun x19 =>
 nw ((T_zset_Entry.c (⟨x12, x19⟩ : T_zset_Entry)) ++ []) (fun b22 H23 =>
 Heap.le Hs5 H23 ∧
 apS (T_zset_Entry.c T_zset_Entry.zero) 32 x1.1 (Sl.of (some (b22, 0)) 1 1) (fun r25 H26 =>
 Heap.le Hs5 H26 ∧
 J2 (r25, (w .i64 (x1.2 + 1))) H26) H23) H3)
 (K x1.1 H3))
theorem ad_law24_back (C : Ctx) (p_l : Sl) (K : Sl → Heap → Prop) (H : Heap) (h : sh_law24_back C p_l K H) : c_law24_back C p_l K H := by
 refine Spec.enter Tryz.func20 rfl Tryz.ntmps20 rfl (GC.sub [(0, slv p_l)] ⟨rfl, trivial⟩ (Zo (Za (GL.nil (Zo (Za (GL.nil (GC.seq (Zo (Za (GL.nil ?_)))))))))))
 refine GC.block (GC.loop (α := Sl × Int) h (fun x1 => [(3, slv x1.1), (4, .int .i64 x1.2), (0, slv p_l)]) ⟨rfl, rfl, rfl, trivial⟩ ?_)
 intro x1 H3 J2 h
 refine GC.seq (Zo (Zm (Zm (Zq (Zi (.bool (decide ((x1.2 : Int) < (Sl.len p_l : Int)))) (GL.nil ?_))))))
 refine Zd (fun hc4 => ?_) fun hc4 => ?_
 replace h := h.1 hc4
 refine GC.skip (GC.seq (GC.block ?_))
 obtain ⟨Hs5, hle6, h⟩ := h
 refine GC.any (Hs := Hs5) (by kernel_rfl) hle6 (Zp 0 rfl (OV.move rfl) (Zp 1 rfl (OV.move rfl) (Zp 2 rfl (OV.move rfl) ?_)))
 obtain ⟨p7, ha8, hb9, hc10, hd11, h⟩ := h
 refine Zp 3 rfl (OV.indexAddr rfl rfl rfl rfl ha8 hb9 hc10 hd11) (Zp 4 rfl (OV.fieldAddr rfl rfl) ?_)
 obtain ⟨x12, hr13, h⟩ := h
 refine Zp 5 rfl (OV.load rfl rfl hr13) (Zp 6 rfl (OV.move rfl) (Zp 7 rfl (OV.move rfl) ?_))
 obtain ⟨p14, ha15, hb16, hc17, hd18, h⟩ := h
 refine Zp 8 rfl (OV.indexAddr rfl rfl rfl rfl ha15 hb16 hc17 hd18) (Zp 9 rfl (OV.fieldAddr rfl rfl) ?_)
 obtain ⟨x19, hr20, h⟩ := h
 refine Zp 10 rfl (OV.load rfl rfl hr20) (Zp 11 rfl (OV.build (vs := [(0, slv x12), (1, .int .i64 x19)]) (v := .agg (T_zset_Entry.c (⟨x12, x19⟩ : T_zset_Entry)).toArray) rfl (fun _ => by kernel_rfl)) (GA.eff 12 rfl (by kernel_rfl) (GL.buildSlice (cs := (T_zset_Entry.c (⟨x12, x19⟩ : T_zset_Entry)) ++ []) h trivial rfl (vs := [(0, .agg (T_zset_Entry.c (⟨x12, x19⟩ : T_zset_Entry)).toArray)]) rfl ⟨59, fun _ => by kernel_rfl⟩ ?_)))
 intro b22 H23 h
 obtain ⟨hle21, h⟩ := h
 refine GA.back hle21 (GA.eff 13 rfl (by kernel_rfl) (GL.appendS (s := x1.1) (s2 := (Sl.of (some (b22, 0)) 1 1)) (zc := T_zset_Entry.c T_zset_Entry.zero) (bytes := 32) h trivial rfl rfl rfl ⟨⟨_, _, _, rfl, rfl, rfl, rfl, rfl, rfl⟩⟩ rfl ?_))
 intro r25 H26 h
 obtain ⟨hle24, h⟩ := h
 refine GA.back hle24 (Zp 14 rfl (OV.assign rfl) (GA.done (by kernel_rfl) (GL.nil_to (fun _ _ h => h) (GC.region (Zm (Zi (.int .i64 (w .i64 (x1.2 + 1))) (Za ?_)))))))
 exact GL.jump (fun _ _ h => h) (r25, (w .i64 (x1.2 + 1))) h ⟨rfl, rfl, rfl, trivial⟩
 replace h := h.2 hc4
 refine GC.exit_to (fun _ _ h => h) (Zo (Zm (Za (GL.nil ?_))))
 exact GC.ret (fun _ _ hf hs => post_tmp1 rfl rfl hf hs ⟨x1.1, rfl, h⟩)
def sh_delta_Join (C : Ctx) (p_a : Sl) (p_b : Sl) (p_on : Sl) (K : Sl → Int → Heap → Prop) (H : Heap) : Prop :=
 c_zset_Clean C p_a (fun r1 r2 H3 =>
 ift ((r2 : Int) != 0)
 (K Sl.nil r2 H3)
 (c_zset_Clean C p_b (fun r5 r6 H7 =>
 ift ((r6 : Int) != 0)
 (K Sl.nil r6 H7)
 (c_delta_pair C r1 r5 p_on (fun r9 H10 =>
 c_zset_Clean C r9 (fun r11 r12 H13 =>
 K r11 r12 H13) H10) H7)) H3)) H
theorem ad_delta_Join (C : Ctx) (p_a : Sl) (p_b : Sl) (p_on : Sl) (K : Sl → Int → Heap → Prop) (H : Heap) (h : sh_delta_Join C p_a p_b p_on K H) : c_delta_Join C p_a p_b p_on K H := by
 refine Spec.enter Tryz.func22 rfl Tryz.ntmps22 rfl (GC.sub [(0, slv p_a), (1, slv p_b), (2, slv p_on)] ⟨rfl, rfl, rfl, trivial⟩ (Zo (Za (Za (GL.nil (Zo (Zm (Zc h ok_zset_Clean ?_))))))))
 rintro _ H3 ⟨r1, r2, rfl, h⟩
 refine Zm (Zv (OV.extract (v := slv r1) rfl rfl) (Zv (OV.extract (v := .int .i64 r2) rfl rfl) (Za (Za (GL.nil (GC.seq (Zo (Zm (Zi (.bool ((r2 : Int) != 0)) (GL.nil ?_))))))))))
 refine Zd (fun hc4 => ?_) fun hc4 => ?_
 replace h := h.1 hc4
 refine Zo (Zm (Za (Za (GL.nil ?_))))
 exact GC.ret (fun _ _ hf hs => post_tmp2 rfl rfl rfl hf hs ⟨Sl.nil, r2, rfl, h⟩)
 replace h := h.2 hc4
 refine GC.skip (Zo (Zm (Zc h ok_zset_Clean ?_)))
 rintro _ H7 ⟨r5, r6, rfl, h⟩
 refine Zm (Zv (OV.extract (v := slv r5) rfl rfl) (Zv (OV.extract (v := .int .i64 r6) rfl rfl) (Za (Za (GL.nil (GC.seq (Zo (Zm (Zi (.bool ((r6 : Int) != 0)) (GL.nil ?_))))))))))
 refine Zd (fun hc8 => ?_) fun hc8 => ?_
 replace h := h.1 hc8
 refine Zo (Zm (Za (Za (GL.nil ?_))))
 exact GC.ret (fun _ _ hf hs => post_tmp2 rfl rfl rfl hf hs ⟨Sl.nil, r6, rfl, h⟩)
 replace h := h.2 hc8
 refine GC.skip (Zo (Zm (Zm (Zm (Zc h ok_delta_pair ?_)))))
 rintro _ H10 ⟨r9, rfl, h⟩
 refine Zc h ok_zset_Clean ?_
 rintro _ H13 ⟨r11, r12, rfl, h⟩
 refine Zv (OV.extract (v := slv r11) rfl rfl) (Zv (OV.extract (v := .int .i64 r12) rfl rfl) (Za (Za (GL.nil ?_))))
 exact GC.ret (fun _ _ hf hs => post_tmp2 rfl rfl rfl hf hs ⟨r11, r12, rfl, h⟩)
def sh_delta_Anti (C : Ctx) (p_a : Sl) (p_b : Sl) (p_on : Sl) (K : Sl → Int → Heap → Prop) (H : Heap) : Prop :=
 c_zset_Clean C p_a (fun r1 r2 H3 =>
 ift ((r2 : Int) != 0)
 (K Sl.nil r2 H3)
 (c_zset_Distinct C p_b (fun r5 r6 H7 =>
 ift ((r6 : Int) != 0)
 (K Sl.nil r6 H7)
 (c_delta_none C r1 r5 p_on (fun r9 H10 =>
 c_zset_Clean C r9 (fun r11 r12 H13 =>
 K r11 r12 H13) H10) H7)) H3)) H
theorem ad_delta_Anti (C : Ctx) (p_a : Sl) (p_b : Sl) (p_on : Sl) (K : Sl → Int → Heap → Prop) (H : Heap) (h : sh_delta_Anti C p_a p_b p_on K H) : c_delta_Anti C p_a p_b p_on K H := by
 refine Spec.enter Tryz.func23 rfl Tryz.ntmps23 rfl (GC.sub [(0, slv p_a), (1, slv p_b), (2, slv p_on)] ⟨rfl, rfl, rfl, trivial⟩ (Zo (Za (Za (GL.nil (Zo (Zm (Zc h ok_zset_Clean ?_))))))))
 rintro _ H3 ⟨r1, r2, rfl, h⟩
 refine Zm (Zv (OV.extract (v := slv r1) rfl rfl) (Zv (OV.extract (v := .int .i64 r2) rfl rfl) (Za (Za (GL.nil (GC.seq (Zo (Zm (Zi (.bool ((r2 : Int) != 0)) (GL.nil ?_))))))))))
 refine Zd (fun hc4 => ?_) fun hc4 => ?_
 replace h := h.1 hc4
 refine Zo (Zm (Za (Za (GL.nil ?_))))
 exact GC.ret (fun _ _ hf hs => post_tmp2 rfl rfl rfl hf hs ⟨Sl.nil, r2, rfl, h⟩)
 replace h := h.2 hc4
 refine GC.skip (Zo (Zm (Zc h ok_zset_Distinct ?_)))
 rintro _ H7 ⟨r5, r6, rfl, h⟩
 refine Zm (Zv (OV.extract (v := slv r5) rfl rfl) (Zv (OV.extract (v := .int .i64 r6) rfl rfl) (Za (Za (GL.nil (GC.seq (Zo (Zm (Zi (.bool ((r6 : Int) != 0)) (GL.nil ?_))))))))))
 refine Zd (fun hc8 => ?_) fun hc8 => ?_
 replace h := h.1 hc8
 refine Zo (Zm (Za (Za (GL.nil ?_))))
 exact GC.ret (fun _ _ hf hs => post_tmp2 rfl rfl rfl hf hs ⟨Sl.nil, r6, rfl, h⟩)
 replace h := h.2 hc8
 refine GC.skip (Zo (Zm (Zm (Zm (Zc h ok_delta_none ?_)))))
 rintro _ H10 ⟨r9, rfl, h⟩
 refine Zc h ok_zset_Clean ?_
 rintro _ H13 ⟨r11, r12, rfl, h⟩
 refine Zv (OV.extract (v := slv r11) rfl rfl) (Zv (OV.extract (v := .int .i64 r12) rfl rfl) (Za (Za (GL.nil ?_))))
 exact GC.ret (fun _ _ hf hs => post_tmp2 rfl rfl rfl hf hs ⟨r11, r12, rfl, h⟩)
def sh_law24_small (C : Ctx) (p_l : Sl) (K : Bool → Heap → Prop) (H : Heap) : Prop :=
 lp (α := Int) 0 H (fun x1 J2 H3 =>
 ift (decide ((x1 : Int) < (Sl.len p_l : Int)))
 (ixa p_l x1 fun p5 =>
 ldI H3 .i64 ((p5.1, p5.2 + (x1 : Int).toNat * 2).1, (p5.1, p5.2 + (x1 : Int).toNat * 2).2 + 1) fun x10 =>
 jn (α := Bool) (fun b12 H23 =>
 ift b12
 (K false H23)
 (lp (α := Int) 0 H23 (fun x25 J26 H27 =>
 ixa p_l x1 fun p28 =>
 ldL H27 ((p28.1, p28.2 + (x1 : Int).toNat * 2).1, (p28.1, p28.2 + (x1 : Int).toNat * 2).2 + 0) fun x33 =>
 ift (decide ((x25 : Int) < (Sl.len x33 : Int)))
 (ixa p_l x1 fun p36 =>
 ldL H27 ((p36.1, p36.2 + (x1 : Int).toNat * 2).1, (p36.1, p36.2 + (x1 : Int).toNat * 2).2 + 0) fun x41 =>
 ixa x41 x25 fun p43 =>
 ldT H27 T_api_Value.c (p43.1, p43.2 + (x25 : Int).toNat * 4) fun x48 =>
 c_value_Check C x48 (fun r50 H51 =>
 ift ((r50 : Int) != 0)
 (K false H51)
 (J26 (w .i64 (x25 + 1)) H51)) H27)
 (J2 (w .i64 (x1 + 1)) H27))))
 (fun J13 => ift (decide ((x10 : Int) < (-100)))
 (J13 true H3)
 (ixa p_l x1 fun p16 =>
 ldI H3 .i64 ((p16.1, p16.2 + (x1 : Int).toNat * 2).1, (p16.1, p16.2 + (x1 : Int).toNat * 2).2 + 1) fun x21 =>
 J13 (decide ((x21 : Int) > 100)) H3)))
 (K true H3))
theorem ad_law24_small (C : Ctx) (p_l : Sl) (K : Bool → Heap → Prop) (H : Heap) (h : sh_law24_small C p_l K H) : c_law24_small C p_l K H := by
 refine Spec.enter Tryz.func24 rfl Tryz.ntmps24 rfl (GC.sub [(0, slv p_l)] ⟨rfl, trivial⟩ (Zo (Za (GL.nil (GC.seq (Zo (Za (GL.nil (GC.block (GC.loop (α := Int) h (fun x1 => [(3, .int .i64 x1), (0, slv p_l)]) ⟨rfl, rfl, trivial⟩ ?_))))))))))
 intro x1 H3 J2 h
 refine GC.seq (Zo (Zm (Zm (Zq (Zi (.bool (decide ((x1 : Int) < (Sl.len p_l : Int)))) (GL.nil ?_))))))
 refine Zd (fun hc4 => ?_) fun hc4 => ?_
 replace h := h.1 hc4
 refine GC.skip (GC.seq (GC.block (GC.seq (Zo (Zm (Zm ?_))))))
 obtain ⟨p5, ha6, hb7, hc8, hd9, h⟩ := h
 refine Zx ha6 hb7 hc8 hd9 (Zf ?_)
 obtain ⟨x10, hr11, h⟩ := h
 refine Zl hr11 (Zi (.bool (decide ((x10 : Int) < (-100)))) (Zm ?_))
 obtain ⟨J13, h, hR14⟩ := h
 refine GL.cut (α := Bool) 7 J13 (fun b12 => [(24, .bool b12), (0, slv p_l), (3, .int .i64 x1)]) ?_ ?_
 rcases Zb (decide ((x10 : Int) < (-100))) with hc15 | hc15
 replace h := h.1 hc15
 refine Zk hc15 (Zk hc15 (Zk hc15 (Zk hc15 (Zk hc15 (Zk hc15 (Zt hc15 ?_))))))
 exact GL.jump (fun _ _ h => h) true h ⟨rfl, rfl, rfl, trivial⟩
 replace h := h.2 hc15
 refine Zu hc15 (OV.move rfl) (Zu hc15 (OV.move rfl) ?_)
 obtain ⟨p16, ha17, hb18, hc19, hd20, h⟩ := h
 refine Zu hc15 (OV.indexAddr rfl rfl rfl rfl ha17 hb18 hc19 hd20) (Zu hc15 (OV.fieldAddr rfl rfl) ?_)
 obtain ⟨x21, hr22, h⟩ := h
 refine Zu hc15 (OV.load rfl rfl hr22) (Zu hc15 (OV.ibin (v := .bool (decide ((x21 : Int) > 100))) rfl rfl rfl) (Zn hc15 ?_))
 exact GL.jump (fun _ _ h => h) (decide ((x21 : Int) > 100)) h ⟨rfl, rfl, rfl, trivial⟩
 intro b12 H23 h
 replace h := hR14 b12 H23 h
 refine GL.nil ?_
 refine Zd (fun hc24 => ?_) fun hc24 => ?_
 replace h := h.1 hc24
 refine Zo (Za (GL.nil ?_))
 exact GC.ret (fun _ _ hf hs => post_tmp1 rfl rfl hf hs ⟨false, rfl, h⟩)
 replace h := h.2 hc24
 refine GC.skip (Zo (Za (GL.nil (GC.block (GC.loop (α := Int) h (fun x25 => [(4, .int .i64 x25), (0, slv p_l), (3, .int .i64 x1)]) ⟨rfl, rfl, rfl, trivial⟩ ?_)))))
 intro x25 H27 J26 h
 refine GC.seq (Zo (Zm (Zm (Zm ?_))))
 obtain ⟨p28, ha29, hb30, hc31, hd32, h⟩ := h
 refine Zx ha29 hb30 hc31 hd32 (Zf ?_)
 obtain ⟨x33, hr34, h⟩ := h
 refine Zl hr34 (Zq (Zi (.bool (decide ((x25 : Int) < (Sl.len x33 : Int)))) (GL.nil ?_)))
 refine Zd (fun hc35 => ?_) fun hc35 => ?_
 replace h := h.1 hc35
 refine GC.skip (GC.seq (GC.block (Zo (Zm (Zm ?_)))))
 obtain ⟨p36, ha37, hb38, hc39, hd40, h⟩ := h
 refine Zx ha37 hb38 hc39 hd40 (Zf ?_)
 obtain ⟨x41, hr42, h⟩ := h
 refine Zl hr42 (Zm ?_)
 obtain ⟨p43, ha44, hb45, hc46, hd47, h⟩ := h
 refine Zx ha44 hb45 hc46 hd47 ?_
 obtain ⟨x48, hr49, h⟩ := h
 refine Zv (OV.loadT rfl rfl rfl hr49) (Zc h ok_value_Check ?_)
 rintro _ H51 ⟨r50, rfl, h⟩
 refine Zi (.bool ((r50 : Int) != 0)) (GL.nil ?_)
 refine Zd (fun hc52 => ?_) fun hc52 => ?_
 replace h := h.1 hc52
 refine Zo (Za (GL.nil ?_))
 exact GC.ret (fun _ _ hf hs => post_tmp1 rfl rfl hf hs ⟨false, rfl, h⟩)
 replace h := h.2 hc52
 refine GC.skip_to (fun _ _ h => h) (GC.region (Zm (Zi (.int .i64 (w .i64 (x25 + 1))) (Za ?_))))
 exact GL.jump (fun _ _ h => h) (w .i64 (x25 + 1)) h ⟨rfl, rfl, rfl, trivial⟩
 replace h := h.2 hc35
 refine GC.exit_to (fun _ _ h => h) (GC.region (Zm (Zi (.int .i64 (w .i64 (x1 + 1))) (Za ?_))))
 exact GL.jump (fun _ _ h => h) (w .i64 (x1 + 1)) h ⟨rfl, rfl, trivial⟩
 replace h := h.2 hc4
 refine GC.exit_to (fun _ _ h => h) (Zo (Za (GL.nil ?_)))
 exact GC.ret (fun _ _ hf hs => post_tmp1 rfl rfl hf hs ⟨true, rfl, h⟩)
def sh_law24_plus (C : Ctx) (p_a : Sl) (p_b : Sl) (K : Sl → Heap → Prop) (H : Heap) : Prop :=
 c_zset_Add C p_a p_b (fun r1 r2 H3 =>
 ift ((r2 : Int) != 0)
 (nw ((T_zset_Entry.c (⟨Sl.nil, 77⟩ : T_zset_Entry)) ++ []) (fun b5 H6 =>
 K (Sl.of (some (b5, 0)) 1 1) H6) H3)
 (K r1 H3)) H
theorem ad_law24_plus (C : Ctx) (p_a : Sl) (p_b : Sl) (K : Sl → Heap → Prop) (H : Heap) (h : sh_law24_plus C p_a p_b K H) : c_law24_plus C p_a p_b K H := by
 refine Spec.enter Tryz.func25 rfl Tryz.ntmps25 rfl (GC.sub [(0, slv p_a), (1, slv p_b)] ⟨rfl, rfl, trivial⟩ (Zo (Za (GL.nil (Zo (Zm (Zm (Zc h ok_zset_Add ?_))))))))
 rintro _ H3 ⟨r1, r2, rfl, h⟩
 refine Zm (Zv (OV.extract (v := slv r1) rfl rfl) (Zv (OV.extract (v := .int .i64 r2) rfl rfl) (Za (Za (GL.nil (GC.seq (Zo (Zm (Zi (.bool ((r2 : Int) != 0)) (GL.nil ?_))))))))))
 refine Zd (fun hc4 => ?_) fun hc4 => ?_
 replace h := h.1 hc4
 refine Zo (Zv (OV.build (vs := [(1, .int .i64 77)]) (v := .agg (T_zset_Entry.c (⟨Sl.nil, 77⟩ : T_zset_Entry)).toArray) rfl (fun _ => by kernel_rfl)) (GL.buildSlice (cs := (T_zset_Entry.c (⟨Sl.nil, 77⟩ : T_zset_Entry)) ++ []) h trivial rfl (vs := [(0, .agg (T_zset_Entry.c (⟨Sl.nil, 77⟩ : T_zset_Entry)).toArray)]) rfl ⟨47, fun _ => by kernel_rfl⟩ ?_))
 intro b5 H6 h
 refine Za (GL.nil ?_)
 exact GC.ret (fun _ _ hf hs => post_tmp1 rfl rfl hf hs ⟨(Sl.of (some (b5, 0)) 1 1), rfl, h⟩)
 replace h := h.2 hc4
 refine GC.skip (Zo (Zm (Za (GL.nil ?_))))
 exact GC.ret (fun _ _ hf hs => post_tmp1 rfl rfl hf hs ⟨r1, rfl, h⟩)
def sh_law24_same (C : Ctx) (p_a : Sl) (p_e : Int) (p_b : Sl) (p_f : Int) (K : Bool → Heap → Prop) (H : Heap) : Prop :=
 jn (α := Bool) (fun b2 H12 =>
 K b2 H12)
 (fun J3 => ift (((p_e : Int) == 0) && ((p_f : Int) == 0))
 (c_law24_back C p_a (fun r6 H7 =>
 c_law24_back C p_b (fun r8 H9 =>
 c_ref16_Same C r6 r8 (fun r10 H11 =>
 J3 r10 H11) H9) H7) H)
 (J3 false H))
theorem ad_law24_same (C : Ctx) (p_a : Sl) (p_e : Int) (p_b : Sl) (p_f : Int) (K : Bool → Heap → Prop) (H : Heap) (h : sh_law24_same C p_a p_e p_b p_f K H) : c_law24_same C p_a p_e p_b p_f K H := by
 refine Spec.enter Tryz.func26 rfl Tryz.ntmps26 rfl (GC.sub [(0, slv p_a), (1, .int .i64 p_e), (2, slv p_b), (3, .int .i64 p_f)] ⟨rfl, rfl, rfl, rfl, trivial⟩ (Zo (Za (GL.nil (Zo (Zm (Zi (.bool ((p_e : Int) == 0)) (Zm ?_))))))))
 refine GL.cut0 3 [(14, .bool (((p_e : Int) == 0) && ((p_f : Int) == 0))), (0, slv p_a), (2, slv p_b)] ?_ ?_
 rcases Zb ((p_e : Int) == 0) with hc1 | hc1
 refine Zu hc1 (OV.move rfl) (Zu hc1 (OV.ibin (v := .bool ((p_f : Int) == 0)) rfl rfl rfl) (Zt hc1 ?_))
 exact GL.jump0 (fun _ _ h => h) () rfl ⟨(by rw [hc1]; rfl), rfl, rfl, trivial⟩
 refine Zk hc1 (Zk hc1 (Zn hc1 ?_))
 exact GL.jump0 (fun _ _ h => h) () rfl ⟨(by rw [hc1]; rfl), rfl, rfl, trivial⟩
 refine Zm ?_
 obtain ⟨J3, h, hR4⟩ := h
 refine GL.cut (α := Bool) 6 J3 (fun b2 => [(21, .bool b2)]) ?_ ?_
 rcases Zb (((p_e : Int) == 0) && ((p_f : Int) == 0)) with hc5 | hc5
 replace h := h.1 hc5
 refine Zu hc5 (OV.move rfl) (GL.call h ⟨_, _, rfl, rfl, hc5⟩ rfl ok_law24_back (vs := [slv p_a]) rfl ?_)
 rintro _ H7 ⟨r6, rfl, h⟩
 refine Zu hc5 (OV.move rfl) (GL.call h ⟨_, _, rfl, rfl, hc5⟩ rfl ok_law24_back (vs := [slv p_b]) rfl ?_)
 rintro _ H9 ⟨r8, rfl, h⟩
 refine GL.call h ⟨_, _, rfl, rfl, hc5⟩ rfl ok_ref16_Same (vs := [slv r6, slv r8]) rfl ?_
 rintro _ H11 ⟨r10, rfl, h⟩
 refine Zt hc5 ?_
 exact GL.jump (fun _ _ h => h) r10 h ⟨rfl, trivial⟩
 replace h := h.2 hc5
 refine Zk hc5 (Zk hc5 (Zk hc5 (Zk hc5 (Zk hc5 (Zn hc5 ?_)))))
 exact GL.jump (fun _ _ h => h) false h ⟨rfl, trivial⟩
 intro b2 H12 h
 replace h := hR4 b2 H12 h
 refine Za (GL.nil ?_)
 exact GC.ret (fun _ _ hf hs => post_tmp1 rfl rfl hf hs ⟨b2, rfl, h⟩)
def sh_zset_Distinct (C : Ctx) (p_l : Sl) (K : Sl → Int → Heap → Prop) (H : Heap) : Prop :=
 c_zset_Clean C p_l (fun r1 r2 H3 =>
 c_slices_DeleteFunc_zset_Entry_zset_Entry C r1 (.func (.func 49) (List.toArray []) (List.toArray []) : Value) (fun r4 H5 =>
 lp (α := Int) 0 H5 (fun x6 J7 H8 =>
 ift (decide ((x6 : Int) < (Sl.len r4 : Int)))
 (ixa r4 x6 fun p10 =>
 st ((p10.1, p10.2 + (x6 : Int).toNat * 2).1, (p10.1, p10.2 + (x6 : Int).toNat * 2).2 + 1) (.int .i64 1) (fun H15 =>
 J7 (w .i64 (x6 + 1)) H15) H8)
 (K r4 r2 H8))) H3) H
theorem ad_zset_Distinct (C : Ctx) (p_l : Sl) (K : Sl → Int → Heap → Prop) (H : Heap) (h : sh_zset_Distinct C p_l K H) : c_zset_Distinct C p_l K H := by
 refine Spec.enter Tryz.func27 rfl Tryz.ntmps27 rfl (GC.sub [(0, slv p_l)] ⟨rfl, trivial⟩ (Zo (Za (Za (GL.nil (Zo (Zm (Zc h ok_zset_Clean ?_))))))))
 rintro _ H3 ⟨r1, r2, rfl, h⟩
 refine Zm (Zv (OV.extract (v := slv r1) rfl rfl) (Zv (OV.extract (v := .int .i64 r2) rfl rfl) (Za (Za (GL.nil (Zo (Zm (Zc h ok_slices_DeleteFunc_zset_Entry_zset_Entry ?_))))))))
 rintro _ H5 ⟨r4, rfl, h⟩
 refine Za (GL.nil (GC.seq (Zo (Zm (Zq (Zm (GL.nil (GC.block (GC.loop (α := Int) h (fun x6 => [(16, .int .i64 x6), (4, slv r4), (5, .int .i64 r2), (15, .int .i64 (Sl.len r4 : Int))]) ⟨rfl, rfl, rfl, rfl, trivial⟩ ?_)))))))))
 intro x6 H8 J7 h
 refine Zo (Zi (.bool (decide ((x6 : Int) < (Sl.len r4 : Int)))) (GL.nil (GC.seq ?_)))
 refine Zd (fun hc9 => ?_) fun hc9 => ?_
 replace h := h.1 hc9
 refine GC.skip (GC.seq (GC.block (Zo (Zm (Za (GL.nil (GC.region (Zm (Zm ?_)))))))))
 obtain ⟨p10, ha11, hb12, hc13, hd14, h⟩ := h
 refine Zx ha11 hb12 hc13 hd14 (Zf (GL.store (p := ((p10.1, p10.2 + (x6 : Int).toNat * 2).1, (p10.1, p10.2 + (x6 : Int).toNat * 2).2 + 1)) (v := .int .i64 1) h trivial rfl rfl rfl rfl ?_))
 intro H15 h
 refine GL.nil_to (fun _ _ h => h) (GC.region (Zi (.int .i64 (w .i64 (x6 + 1))) (Zm ?_)))
 exact GL.jump (fun _ _ h => h) (w .i64 (x6 + 1)) h ⟨rfl, rfl, rfl, rfl, trivial⟩
 replace h := h.2 hc9
 refine GC.exit_to (fun _ _ h => h) (Zo (Zm (Zm (Za (Za (GL.nil ?_))))))
 exact GC.ret (fun _ _ hf hs => post_tmp2 rfl rfl rfl hf hs ⟨r4, r2, rfl, h⟩)
def sh_law24_large (C : Ctx) (p_l : Sl) (K : Bool → Heap → Prop) (H : Heap) : Prop :=
 lp (α := Int × Int) ((Sl.len p_l : Int), 0) H (fun x1 J2 H3 =>
 ift ((decide ((x1.2 : Int) < (Sl.len p_l : Int))) && (decide ((x1.1 : Int) < 120)))
 (ixa p_l x1.2 fun p6 =>
 ldL H3 ((p6.1, p6.2 + (x1.2 : Int).toNat * 2).1, (p6.1, p6.2 + (x1.2 : Int).toNat * 2).2 + 0) fun x11 =>
 lp (α := Int × Int) ((w .i64 (x1.1 + (Sl.len x11 : Int))), 0) H3 (fun x13 J14 H15 =>
 ixa p_l x1.2 fun p16 =>
 ldL H15 ((p16.1, p16.2 + (x1.2 : Int).toNat * 2).1, (p16.1, p16.2 + (x1.2 : Int).toNat * 2).2 + 0) fun x21 =>
 ift ((decide ((x13.2 : Int) < (Sl.len x21 : Int))) && (decide ((x13.1 : Int) < 120)))
 (ixa p_l x1.2 fun p25 =>
 ldL H15 ((p25.1, p25.2 + (x1.2 : Int).toNat * 2).1, (p25.1, p25.2 + (x1.2 : Int).toNat * 2).2 + 0) fun x30 =>
 ixa x30 x13.2 fun p32 =>
 ldT H15 T_api_Value.c (p32.1, p32.2 + (x13.2 : Int).toNat * 4) fun x37 =>
 c_law24_weight C x37 120 (fun r39 H40 =>
 J14 ((w .i64 (x13.1 + r39)), (w .i64 (x13.2 + 1))) H40) H15)
 (J2 (x13.1, (w .i64 (x1.2 + 1))) H15)))
 (K (decide ((x1.1 : Int) ≥ 120)) H3))
theorem ad_law24_large (C : Ctx) (p_l : Sl) (K : Bool → Heap → Prop) (H : Heap) (h : sh_law24_large C p_l K H) : c_law24_large C p_l K H := by
 refine Spec.enter Tryz.func28 rfl Tryz.ntmps28 rfl (GC.sub [(0, slv p_l)] ⟨rfl, trivial⟩ (Zo (Za (GL.nil (Zo (Zm (Zq (Za (GL.nil (GC.seq (Zo ?_)))))))))))
 refine Za (GL.nil (GC.block (GC.loop (α := Int × Int) h (fun x1 => [(3, .int .i64 x1.1), (4, .int .i64 x1.2), (0, slv p_l)]) ⟨rfl, rfl, rfl, trivial⟩ ?_)))
 intro x1 H3 J2 h
 refine GC.seq (Zo (Zm (Zm (Zq (Zi (.bool (decide ((x1.2 : Int) < (Sl.len p_l : Int)))) (Zm ?_))))))
 refine GL.cut0 3 [(15, .bool ((decide ((x1.2 : Int) < (Sl.len p_l : Int))) && (decide ((x1.1 : Int) < 120)))), (0, slv p_l), (3, .int .i64 x1.1), (4, .int .i64 x1.2)] ?_ ?_
 rcases Zb (decide ((x1.2 : Int) < (Sl.len p_l : Int))) with hc4 | hc4
 refine Zu hc4 (OV.move rfl) (Zu hc4 (OV.ibin (v := .bool (decide ((x1.1 : Int) < 120))) rfl rfl rfl) (Zt hc4 ?_))
 exact GL.jump0 (fun _ _ h => h) () rfl ⟨(by rw [hc4]; rfl), rfl, rfl, rfl, trivial⟩
 refine Zk hc4 (Zk hc4 (Zn hc4 ?_))
 exact GL.jump0 (fun _ _ h => h) () rfl ⟨(by rw [hc4]; rfl), rfl, rfl, rfl, trivial⟩
 refine GL.nil ?_
 refine Zd (fun hc5 => ?_) fun hc5 => ?_
 replace h := h.1 hc5
 refine GC.skip (GC.seq (GC.block (Zo (Zm (Zm (Zm ?_))))))
 obtain ⟨p6, ha7, hb8, hc9, hd10, h⟩ := h
 refine Zx ha7 hb8 hc9 hd10 (Zf ?_)
 obtain ⟨x11, hr12, h⟩ := h
 refine Zl hr12 (Zq (Zi (.int .i64 (w .i64 (x1.1 + (Sl.len x11 : Int)))) (Za (GL.nil (Zo (Za (GL.nil (GC.block (GC.loop (α := Int × Int) h (fun x13 => [(3, .int .i64 x13.1), (5, .int .i64 x13.2), (0, slv p_l), (4, .int .i64 x1.2)]) ⟨rfl, rfl, rfl, rfl, trivial⟩ ?_)))))))))
 intro x13 H15 J14 h
 refine GC.seq (Zo (Zm (Zm (Zm ?_))))
 obtain ⟨p16, ha17, hb18, hc19, hd20, h⟩ := h
 refine Zx ha17 hb18 hc19 hd20 (Zf ?_)
 obtain ⟨x21, hr22, h⟩ := h
 refine Zl hr22 (Zq (Zi (.bool (decide ((x13.2 : Int) < (Sl.len x21 : Int)))) (Zm ?_)))
 refine GL.cut0 3 [(37, .bool ((decide ((x13.2 : Int) < (Sl.len x21 : Int))) && (decide ((x13.1 : Int) < 120)))), (0, slv p_l), (3, .int .i64 x13.1), (4, .int .i64 x1.2), (5, .int .i64 x13.2)] ?_ ?_
 rcases Zb (decide ((x13.2 : Int) < (Sl.len x21 : Int))) with hc23 | hc23
 refine Zu hc23 (OV.move rfl) (Zu hc23 (OV.ibin (v := .bool (decide ((x13.1 : Int) < 120))) rfl rfl rfl) (Zt hc23 ?_))
 exact GL.jump0 (fun _ _ h => h) () rfl ⟨(by rw [hc23]; rfl), rfl, rfl, rfl, rfl, trivial⟩
 refine Zk hc23 (Zk hc23 (Zn hc23 ?_))
 exact GL.jump0 (fun _ _ h => h) () rfl ⟨(by rw [hc23]; rfl), rfl, rfl, rfl, rfl, trivial⟩
 refine GL.nil ?_
 refine Zd (fun hc24 => ?_) fun hc24 => ?_
 replace h := h.1 hc24
 refine GC.skip (GC.seq (GC.block (GC.region (Zm (Zm (Zm ?_))))))
 obtain ⟨p25, ha26, hb27, hc28, hd29, h⟩ := h
 refine Zx ha26 hb27 hc28 hd29 (Zf ?_)
 obtain ⟨x30, hr31, h⟩ := h
 refine Zl hr31 (Zm ?_)
 obtain ⟨p32, ha33, hb34, hc35, hd36, h⟩ := h
 refine Zx ha33 hb34 hc35 hd36 ?_
 obtain ⟨x37, hr38, h⟩ := h
 refine Zv (OV.loadT rfl rfl rfl hr38) (Zc h ok_law24_weight ?_)
 rintro _ H40 ⟨r39, rfl, h⟩
 refine Zi (.int .i64 (w .i64 (x13.1 + r39))) (Za (GL.nil_to (fun _ _ h => h) (GC.region (Zm (Zi (.int .i64 (w .i64 (x13.2 + 1))) (Za ?_))))))
 exact GL.jump (fun _ _ h => h) ((w .i64 (x13.1 + r39)), (w .i64 (x13.2 + 1))) h ⟨rfl, rfl, rfl, rfl, trivial⟩
 replace h := h.2 hc24
 refine GC.exit_to (fun _ _ h => h) (GC.region (Zm (Zi (.int .i64 (w .i64 (x1.2 + 1))) (Za ?_))))
 exact GL.jump (fun _ _ h => h) (x13.1, (w .i64 (x1.2 + 1))) h ⟨rfl, rfl, rfl, trivial⟩
 replace h := h.2 hc5
 refine GC.exit_to (fun _ _ h => h) (Zo (Zm (Zi (.bool (decide ((x1.1 : Int) ≥ 120))) (Za (GL.nil ?_)))))
 exact GC.ret (fun _ _ hf hs => post_tmp1 rfl rfl hf hs ⟨(decide ((x1.1 : Int) ≥ 120)), rfl, h⟩)
def sh_law24_awake_1 (C : Ctx) (p_n : Int) (K : T_api_Value → Heap → Prop) (H : Heap) : Prop :=
 nw (T_api_Value.c T_api_Value.zero) (fun b1 H2 =>
 stT (b1, 0) (T_api_Value.c (⟨2, p_n, [], Sl.nil⟩ : T_api_Value)) (fun H3 =>
 ldT H3 T_api_Value.c (b1, 0) fun x4 =>
 K x4 H3) H2) H
theorem ad_law24_awake_1 (C : Ctx) (p_n : Int) (K : T_api_Value → Heap → Prop) (H : Heap) (h : sh_law24_awake_1 C p_n K H) : c_law24_awake_1 C p_n K H := by
 refine Spec.enter Tryz.func29 rfl Tryz.ntmps29 rfl (GC.sub [(0, .int .i64 p_n)] ⟨rfl, trivial⟩ (Zo (GL.alloc (cs := T_api_Value.c T_api_Value.zero) h trivial rfl rfl rfl ?_)))
 intro b1 H2 h
 refine GL.nil (Zo (Zm (Zv (OV.build (vs := [(0, .int .u8 2), (1, .int .i64 p_n)]) (v := .agg (T_api_Value.c (⟨2, p_n, [], Sl.nil⟩ : T_api_Value)).toArray) rfl (fun _ => by kernel_rfl)) (GL.storeT (p := (b1, 0)) (vs := T_api_Value.c (⟨2, p_n, [], Sl.nil⟩ : T_api_Value)) h trivial rfl rfl rfl rfl ?_))))
 intro H3 h
 refine GL.nil ?_
 obtain ⟨x4, hr5, h⟩ := h
 exact GC.ret (fun _ _ hf hs => post_res1 rfl (RV.cellT (p := (b1, 0)) (cs := T_api_Value.c x4) rfl rfl rfl hr5) hf hs ⟨x4, rfl, h⟩)
def sh_law24_awake_2 (C : Ctx) (p_s : Str) (K : T_api_Value → Heap → Prop) (H : Heap) : Prop :=
 nw (T_api_Value.c T_api_Value.zero) (fun b1 H2 =>
 stT (b1, 0) (T_api_Value.c (⟨4, 0, p_s, Sl.nil⟩ : T_api_Value)) (fun H3 =>
 ldT H3 T_api_Value.c (b1, 0) fun x4 =>
 K x4 H3) H2) H
theorem ad_law24_awake_2 (C : Ctx) (p_s : Str) (K : T_api_Value → Heap → Prop) (H : Heap) (h : sh_law24_awake_2 C p_s K H) : c_law24_awake_2 C p_s K H := by
 refine Spec.enter Tryz.func30 rfl Tryz.ntmps30 rfl (GC.sub [(0, sv p_s)] ⟨rfl, trivial⟩ (Zo (GL.alloc (cs := T_api_Value.c T_api_Value.zero) h trivial rfl rfl rfl ?_)))
 intro b1 H2 h
 refine GL.nil (Zo (Zm (Zv (OV.build (vs := [(0, .int .u8 4), (2, sv p_s)]) (v := .agg (T_api_Value.c (⟨4, 0, p_s, Sl.nil⟩ : T_api_Value)).toArray) rfl (fun _ => by kernel_rfl)) (GL.storeT (p := (b1, 0)) (vs := T_api_Value.c (⟨4, 0, p_s, Sl.nil⟩ : T_api_Value)) h trivial rfl rfl rfl rfl ?_))))
 intro H3 h
 refine GL.nil ?_
 obtain ⟨x4, hr5, h⟩ := h
 exact GC.ret (fun _ _ hf hs => post_res1 rfl (RV.cellT (p := (b1, 0)) (cs := T_api_Value.c x4) rfl rfl rfl hr5) hf hs ⟨x4, rfl, h⟩)
def sh_ref02_Own (C : Ctx) (p_l : Sl) (K : Sl → Heap → Prop) (H : Heap) : Prop :=
 lp (α := Sl × Int) (Sl.nil, 0) H (fun x1 J2 H3 =>
 ift (decide ((x1.2 : Int) < (Sl.len p_l : Int)))
 (ixa p_l x1.2 fun p5 =>
 ldT H3 T_api_Value.c (p5.1, p5.2 + (x1.2 : Int).toNat * 4) fun x10 =>
 nw (T_api_Value.c T_api_Value.zero) (fun b12 H13 =>
 stT (b12, 0) (T_api_Value.c x10) (fun H14 =>
 ldL H14 ((b12, 0).1, (b12, 0).2 + 3) fun x15 =>
 c_ref02_Own C x15 (fun r17 H18 =>
 st ((b12, 0).1, (b12, 0).2 + 3) (slv r17) (fun H19 =>
 ldT H19 T_api_Value.c (b12, 0) fun x20 =>
 apd (T_api_Value.c T_api_Value.zero) 56 x1.1 ((T_api_Value.c x20) ++ []) 1 (fun r22 H23 =>
 J2 (r22, (w .i64 (x1.2 + 1))) H23) H19) H18) H14) H13) H3)
 (K x1.1 H3))
theorem ad_ref02_Own (C : Ctx) (p_l : Sl) (K : Sl → Heap → Prop) (H : Heap) (h : sh_ref02_Own C p_l K H) : c_ref02_Own C p_l K H := by
 refine Spec.enter Tryz.func31 rfl Tryz.ntmps31 rfl (GC.sub [(0, slv p_l)] ⟨rfl, trivial⟩ (Zo (Za (GL.nil (Zo (Za (GL.nil (GC.seq (Zo (Za (GL.nil ?_)))))))))))
 refine GC.block (GC.loop (α := Sl × Int) h (fun x1 => [(3, slv x1.1), (4, .int .i64 x1.2), (0, slv p_l)]) ⟨rfl, rfl, rfl, trivial⟩ ?_)
 intro x1 H3 J2 h
 refine GC.seq (Zo (Zm (Zm (Zq (Zi (.bool (decide ((x1.2 : Int) < (Sl.len p_l : Int)))) (GL.nil ?_))))))
 refine Zd (fun hc4 => ?_) fun hc4 => ?_
 replace h := h.1 hc4
 refine GC.skip (GC.seq (GC.block (Zo (Zm (Zm ?_)))))
 obtain ⟨p5, ha6, hb7, hc8, hd9, h⟩ := h
 refine Zx ha6 hb7 hc8 hd9 ?_
 obtain ⟨x10, hr11, h⟩ := h
 refine Zv (OV.loadT rfl rfl rfl hr11) (GL.alloc (cs := T_api_Value.c T_api_Value.zero) h trivial rfl rfl rfl ?_)
 intro b12 H13 h
 refine GL.storeT (p := (b12, 0)) (vs := T_api_Value.c x10) h trivial rfl rfl rfl rfl ?_
 intro H14 h
 refine GL.nil (Zo (Zf ?_))
 obtain ⟨x15, hr16, h⟩ := h
 refine Zl hr16 (Zc h ok_ref02_Own ?_)
 rintro _ H18 ⟨r17, rfl, h⟩
 refine Zf (GL.store (p := ((b12, 0).1, (b12, 0).2 + 3)) (v := slv r17) h trivial rfl rfl rfl rfl ?_)
 intro H19 h
 refine GL.nil (GC.region (Zm ?_))
 obtain ⟨x20, hr21, h⟩ := h
 refine Zv (OV.loadT rfl rfl rfl hr21) (GL.appendLit (s := x1.1) (ys := (T_api_Value.c x20) ++ []) (zc := T_api_Value.c T_api_Value.zero) (bytes := 56) h trivial rfl (fun _ => trivial) rfl (fun _ => rfl) (fun _ => rfl) (vs := [(0, .agg (T_api_Value.c x20).toArray)]) rfl ⟨44, fun _ => by kernel_rfl⟩ ⟨⟨_, _, _, rfl, rfl, rfl, rfl, rfl, rfl⟩⟩ rfl rfl ?_)
 intro _ r22 H23 h
 refine Za (GL.nil_to (fun _ _ h => h) (GC.region (Zm (Zi (.int .i64 (w .i64 (x1.2 + 1))) (Za ?_)))))
 exact GL.jump (fun _ _ h => h) (r22, (w .i64 (x1.2 + 1))) h ⟨rfl, rfl, rfl, trivial⟩
 replace h := h.2 hc4
 refine GC.exit_to (fun _ _ h => h) (Zo (Zm (Za (GL.nil ?_))))
 exact GC.ret (fun _ _ hf hs => post_tmp1 rfl rfl hf hs ⟨x1.1, rfl, h⟩)
def sh_delta_parts (C : Ctx) (p_a : Sl) (p_da : Sl) (p_b : Sl) (p_db : Sl) (K : T_delta_part → T_delta_part → Int → Heap → Prop) (H : Heap) : Prop :=
 nw (T_delta_part.c T_delta_part.zero) (fun b1 H2 =>
 nw (T_delta_part.c T_delta_part.zero) (fun b3 H4 =>
 nw ((T_S_from_zset_Entry_to_zset_Entry.c (⟨p_a, (some ((b1, 0).1, (b1, 0).2 + 0))⟩ : T_S_from_zset_Entry_to_zset_Entry)) ++ (T_S_from_zset_Entry_to_zset_Entry.c (⟨p_da, (some ((b1, 0).1, (b1, 0).2 + 1))⟩ : T_S_from_zset_Entry_to_zset_Entry)) ++ (T_S_from_zset_Entry_to_zset_Entry.c (⟨p_b, (some ((b3, 0).1, (b3, 0).2 + 0))⟩ : T_S_from_zset_Entry_to_zset_Entry)) ++ (T_S_from_zset_Entry_to_zset_Entry.c (⟨p_db, (some ((b3, 0).1, (b3, 0).2 + 1))⟩ : T_S_from_zset_Entry_to_zset_Entry)) ++ []) (fun b5 H6 =>
 lp (α := Int) 0 H6 (fun x7 J8 H9 =>
 ift (decide ((x7 : Int) < (Sl.len (Sl.of (some (b5, 0)) 4 4) : Int)))
 (ixa (Sl.of (some (b5, 0)) 4 4) x7 fun p11 =>
 ldT H9 T_S_from_zset_Entry_to_zset_Entry.c (p11.1, p11.2 + (x7 : Int).toNat * 2) fun x16 =>
 nw (T_S_from_zset_Entry_to_zset_Entry.c T_S_from_zset_Entry_to_zset_Entry.zero) (fun b18 H19 =>
 stT (b18, 0) (T_S_from_zset_Entry_to_zset_Entry.c x16) (fun H20 =>
 dr H20 fun Hs21 =>
 ldP Hs21 ((b18, 0).1, (b18, 0).2 + 1) fun x23 =>
 ldL Hs21 ((b18, 0).1, (b18, 0).2 + 0) fun x25 =>
 c_zset_Clean C x25 (fun r28 r29 H30 =>
 Heap.le Hs21 H30 ∧
 nck x23 fun p31 =>
 st p31 (slv r28) (fun H34 =>
 Heap.le Hs21 H34 ∧
 ift ((r29 : Int) != 0)
 (ldT H34 T_delta_part.c (b1, 0) fun x36 =>
 ldT H34 T_delta_part.c (b3, 0) fun x38 =>
 stT (b1, 0) (T_delta_part.c x36) (fun H40 =>
 stT (b3, 0) (T_delta_part.c x38) (fun H41 =>
 ldT H41 T_delta_part.c (b1, 0) fun x42 => ldT H41 T_delta_part.c (b3, 0) fun x44 =>
 K x42 x44 r29 H41) H40) H34)
 (J8 (w .i64 (x7 + 1)) H34)) H30) H20) H19) H9)
 (c_zset_Add C p_a p_da (fun r46 r47 H48 =>
 st ((b1, 0).1, (b1, 0).2 + 2) (slv r46) (fun H49 =>
 ift ((r47 : Int) != 0)
 (ldT H49 T_delta_part.c (b1, 0) fun x51 =>
 ldT H49 T_delta_part.c (b3, 0) fun x53 =>
 stT (b1, 0) (T_delta_part.c x51) (fun H55 =>
 stT (b3, 0) (T_delta_part.c x53) (fun H56 =>
 ldT H56 T_delta_part.c (b1, 0) fun x57 => ldT H56 T_delta_part.c (b3, 0) fun x59 =>
 K x57 x59 r47 H56) H55) H49)
 (c_zset_Add C p_b p_db (fun r61 r62 H63 =>
 st ((b3, 0).1, (b3, 0).2 + 2) (slv r61) (fun H64 =>
 ldT H64 T_delta_part.c (b1, 0) fun x65 =>
 ldT H64 T_delta_part.c (b3, 0) fun x67 =>
 stT (b1, 0) (T_delta_part.c x65) (fun H69 =>
 stT (b3, 0) (T_delta_part.c x67) (fun H70 =>
 ldT H70 T_delta_part.c (b1, 0) fun x71 => ldT H70 T_delta_part.c (b3, 0) fun x73 =>
 K x71 x73 r62 H70) H69) H64) H63) H49)) H48) H9))) H4) H2) H
theorem ad_delta_parts (C : Ctx) (p_a : Sl) (p_da : Sl) (p_b : Sl) (p_db : Sl) (K : T_delta_part → T_delta_part → Int → Heap → Prop) (H : Heap) (h : sh_delta_parts C p_a p_da p_b p_db K H) : c_delta_parts C p_a p_da p_b p_db K H := by
 refine Spec.enter Tryz.func32 rfl Tryz.ntmps32 rfl (GC.sub [(0, slv p_a), (1, slv p_da), (2, slv p_b), (3, slv p_db)] ⟨rfl, rfl, rfl, rfl, trivial⟩ (Zo (GL.alloc (cs := T_delta_part.c T_delta_part.zero) h trivial rfl rfl rfl ?_)))
 intro b1 H2 h
 refine GL.alloc (cs := T_delta_part.c T_delta_part.zero) h trivial rfl rfl rfl ?_
 intro b3 H4 h
 refine Za (GL.nil (GC.seq (Zo (Zm (Zf (Zv (OV.build (vs := [(0, slv p_a), (1, pv (some ((b1, 0).1, (b1, 0).2 + 0)))]) (v := .agg (T_S_from_zset_Entry_to_zset_Entry.c (⟨p_a, (some ((b1, 0).1, (b1, 0).2 + 0))⟩ : T_S_from_zset_Entry_to_zset_Entry)).toArray) rfl (fun _ => by kernel_rfl)) (Zm (Zf (Zv (OV.build (vs := [(0, slv p_da), (1, pv (some ((b1, 0).1, (b1, 0).2 + 1)))]) (v := .agg (T_S_from_zset_Entry_to_zset_Entry.c (⟨p_da, (some ((b1, 0).1, (b1, 0).2 + 1))⟩ : T_S_from_zset_Entry_to_zset_Entry)).toArray) rfl (fun _ => by kernel_rfl)) (Zm (Zf ?_)))))))))))
 refine Zv (OV.build (vs := [(0, slv p_b), (1, pv (some ((b3, 0).1, (b3, 0).2 + 0)))]) (v := .agg (T_S_from_zset_Entry_to_zset_Entry.c (⟨p_b, (some ((b3, 0).1, (b3, 0).2 + 0))⟩ : T_S_from_zset_Entry_to_zset_Entry)).toArray) rfl (fun _ => by kernel_rfl)) (Zm (Zf (Zv (OV.build (vs := [(0, slv p_db), (1, pv (some ((b3, 0).1, (b3, 0).2 + 1)))]) (v := .agg (T_S_from_zset_Entry_to_zset_Entry.c (⟨p_db, (some ((b3, 0).1, (b3, 0).2 + 1))⟩ : T_S_from_zset_Entry_to_zset_Entry)).toArray) rfl (fun _ => by kernel_rfl)) (GL.buildSlice (cs := (T_S_from_zset_Entry_to_zset_Entry.c (⟨p_a, (some ((b1, 0).1, (b1, 0).2 + 0))⟩ : T_S_from_zset_Entry_to_zset_Entry)) ++ (T_S_from_zset_Entry_to_zset_Entry.c (⟨p_da, (some ((b1, 0).1, (b1, 0).2 + 1))⟩ : T_S_from_zset_Entry_to_zset_Entry)) ++ (T_S_from_zset_Entry_to_zset_Entry.c (⟨p_b, (some ((b3, 0).1, (b3, 0).2 + 0))⟩ : T_S_from_zset_Entry_to_zset_Entry)) ++ (T_S_from_zset_Entry_to_zset_Entry.c (⟨p_db, (some ((b3, 0).1, (b3, 0).2 + 1))⟩ : T_S_from_zset_Entry_to_zset_Entry)) ++ []) h trivial rfl (vs := [(0, .agg (T_S_from_zset_Entry_to_zset_Entry.c (⟨p_a, (some ((b1, 0).1, (b1, 0).2 + 0))⟩ : T_S_from_zset_Entry_to_zset_Entry)).toArray), (1, .agg (T_S_from_zset_Entry_to_zset_Entry.c (⟨p_da, (some ((b1, 0).1, (b1, 0).2 + 1))⟩ : T_S_from_zset_Entry_to_zset_Entry)).toArray), (2, .agg (T_S_from_zset_Entry_to_zset_Entry.c (⟨p_b, (some ((b3, 0).1, (b3, 0).2 + 0))⟩ : T_S_from_zset_Entry_to_zset_Entry)).toArray), (3, .agg (T_S_from_zset_Entry_to_zset_Entry.c (⟨p_db, (some ((b3, 0).1, (b3, 0).2 + 1))⟩ : T_S_from_zset_Entry_to_zset_Entry)).toArray)]) rfl ⟨84, fun _ => by kernel_rfl⟩ ?_))))
 intro b5 H6 h
 refine Zq (Zm (GL.nil (GC.block (GC.loop (α := Int) h (fun x7 => [(27, .int .i64 x7), (0, slv p_a), (1, slv p_da), (2, slv p_b), (3, slv p_db), (8, pv (some (b1, 0))), (9, pv (some (b3, 0))), (25, slv (Sl.of (some (b5, 0)) 4 4)), (26, .int .i64 (Sl.len (Sl.of (some (b5, 0)) 4 4) : Int))]) ⟨rfl, rfl, rfl, rfl, rfl, rfl, rfl, rfl, rfl, trivial⟩ ?_))))
 intro x7 H9 J8 h
 refine Zo (Zi (.bool (decide ((x7 : Int) < (Sl.len (Sl.of (some (b5, 0)) 4 4) : Int)))) (GL.nil (GC.seq ?_)))
 refine Zd (fun hc10 => ?_) fun hc10 => ?_
 replace h := h.1 hc10
 refine GC.skip (GC.seq (GC.block (Zo ?_)))
 obtain ⟨p11, ha12, hb13, hc14, hd15, h⟩ := h
 refine Zx ha12 hb13 hc14 hd15 ?_
 obtain ⟨x16, hr17, h⟩ := h
 refine Zv (OV.loadT rfl rfl rfl hr17) (GL.alloc (cs := T_S_from_zset_Entry_to_zset_Entry.c T_S_from_zset_Entry_to_zset_Entry.zero) h trivial rfl rfl rfl ?_)
 intro b18 H19 h
 refine GL.storeT (p := (b18, 0)) (vs := T_S_from_zset_Entry_to_zset_Entry.c x16) h trivial rfl rfl rfl rfl ?_
 intro H20 h
 refine GL.nil (GC.seq ?_)
 obtain ⟨Hs21, hle22, h⟩ := h
 refine GC.any (Hs := Hs21) (by kernel_rfl) hle22 (Zp 0 rfl (OV.fieldAddr rfl rfl) ?_)
 obtain ⟨x23, hr24, h⟩ := h
 refine Zp 1 rfl (OV.load rfl rfl hr24) (Zp 2 rfl (OV.fieldAddr rfl rfl) ?_)
 obtain ⟨x25, hr26, h⟩ := h
 refine Zp 3 rfl (OV.load rfl rfl hr26) (GA.eff 4 rfl (by kernel_rfl) (Zc h ok_zset_Clean ?_))
 rintro _ H30 ⟨r28, r29, rfl, h⟩
 obtain ⟨hle27, h⟩ := h
 refine GA.back hle27 (Zp 5 rfl (OV.move rfl) (Zp 6 rfl (OV.extract (v := slv r28) rfl rfl) (Zp 7 rfl (OV.extract (v := .int .i64 r29) rfl rfl) ?_)))
 obtain ⟨p31, hp32, h⟩ := h
 refine Zp 8 rfl (OV.nilCheck (q := x23) rfl hp32) (GA.eff 9 rfl (by kernel_rfl) (GL.store (p := p31) (v := slv r28) h trivial rfl rfl rfl rfl ?_))
 intro H34 h
 obtain ⟨hle33, h⟩ := h
 refine GA.back hle33 (Zp 10 rfl (OV.assign rfl) (GA.done (by kernel_rfl) (GL.nil (Zo (Zm (Zi (.bool ((r29 : Int) != 0)) (GL.nil ?_)))))))
 refine Zd (fun hc35 => ?_) fun hc35 => ?_
 replace h := h.1 hc35
 refine Zo ?_
 obtain ⟨x36, hr37, h⟩ := h
 refine Zv (OV.loadT rfl rfl rfl hr37) ?_
 obtain ⟨x38, hr39, h⟩ := h
 refine Zv (OV.loadT rfl rfl rfl hr39) (Zm (GL.storeT (p := (b1, 0)) (vs := T_delta_part.c x36) h trivial rfl rfl rfl rfl ?_))
 intro H40 h
 refine GL.storeT (p := (b3, 0)) (vs := T_delta_part.c x38) h trivial rfl rfl rfl rfl ?_
 intro H41 h
 refine Za (GL.nil ?_)
 obtain ⟨x42, hr43, h⟩ := h
 obtain ⟨x44, hr45, h⟩ := h
 exact GC.ret (fun _ _ hf hs => post_res3 rfl (RV.cellT (p := (b1, 0)) (cs := T_delta_part.c x42) rfl rfl rfl hr43) (RV.cellT (p := (b3, 0)) (cs := T_delta_part.c x44) rfl rfl rfl hr45) (RV.tmp rfl) hf hs ⟨x42, x44, r29, rfl, h⟩)
 replace h := h.2 hc35
 refine GC.skip_to (fun _ _ h => h) (GC.region (Zi (.int .i64 (w .i64 (x7 + 1))) (Zm ?_)))
 exact GL.jump (fun _ _ h => h) (w .i64 (x7 + 1)) h ⟨rfl, rfl, rfl, rfl, rfl, rfl, rfl, rfl, rfl, trivial⟩
 replace h := h.2 hc10
 refine GC.exit_to (fun _ _ h => h) (GC.seq (Zo (Zm (Zm (Zc h ok_zset_Add ?_)))))
 rintro _ H48 ⟨r46, r47, rfl, h⟩
 refine Zm (Zv (OV.extract (v := slv r46) rfl rfl) (Zv (OV.extract (v := .int .i64 r47) rfl rfl) (Zf (GL.store (p := ((b1, 0).1, (b1, 0).2 + 2)) (v := slv r46) h trivial rfl rfl rfl rfl ?_))))
 intro H49 h
 refine Za (GL.nil (Zo (Zm (Zi (.bool ((r47 : Int) != 0)) (GL.nil ?_)))))
 refine Zd (fun hc50 => ?_) fun hc50 => ?_
 replace h := h.1 hc50
 refine Zo ?_
 obtain ⟨x51, hr52, h⟩ := h
 refine Zv (OV.loadT rfl rfl rfl hr52) ?_
 obtain ⟨x53, hr54, h⟩ := h
 refine Zv (OV.loadT rfl rfl rfl hr54) (Zm (GL.storeT (p := (b1, 0)) (vs := T_delta_part.c x51) h trivial rfl rfl rfl rfl ?_))
 intro H55 h
 refine GL.storeT (p := (b3, 0)) (vs := T_delta_part.c x53) h trivial rfl rfl rfl rfl ?_
 intro H56 h
 refine Za (GL.nil ?_)
 obtain ⟨x57, hr58, h⟩ := h
 obtain ⟨x59, hr60, h⟩ := h
 exact GC.ret (fun _ _ hf hs => post_res3 rfl (RV.cellT (p := (b1, 0)) (cs := T_delta_part.c x57) rfl rfl rfl hr58) (RV.cellT (p := (b3, 0)) (cs := T_delta_part.c x59) rfl rfl rfl hr60) (RV.tmp rfl) hf hs ⟨x57, x59, r47, rfl, h⟩)
 replace h := h.2 hc50
 refine GC.skip (Zo (Zm (Zm (Zc h ok_zset_Add ?_))))
 rintro _ H63 ⟨r61, r62, rfl, h⟩
 refine Zm (Zv (OV.extract (v := slv r61) rfl rfl) (Zv (OV.extract (v := .int .i64 r62) rfl rfl) (Zf (GL.store (p := ((b3, 0).1, (b3, 0).2 + 2)) (v := slv r61) h trivial rfl rfl rfl rfl ?_))))
 intro H64 h
 refine Za (GL.nil (Zo ?_))
 obtain ⟨x65, hr66, h⟩ := h
 refine Zv (OV.loadT rfl rfl rfl hr66) ?_
 obtain ⟨x67, hr68, h⟩ := h
 refine Zv (OV.loadT rfl rfl rfl hr68) (Zm (GL.storeT (p := (b1, 0)) (vs := T_delta_part.c x65) h trivial rfl rfl rfl rfl ?_))
 intro H69 h
 refine GL.storeT (p := (b3, 0)) (vs := T_delta_part.c x67) h trivial rfl rfl rfl rfl ?_
 intro H70 h
 refine Za (GL.nil ?_)
 obtain ⟨x71, hr72, h⟩ := h
 obtain ⟨x73, hr74, h⟩ := h
 exact GC.ret (fun _ _ hf hs => post_res3 rfl (RV.cellT (p := (b1, 0)) (cs := T_delta_part.c x71) rfl rfl rfl hr72) (RV.cellT (p := (b3, 0)) (cs := T_delta_part.c x73) rfl rfl rfl hr74) (RV.tmp rfl) hf hs ⟨x71, x73, r62, rfl, h⟩)
def sh_zset_Clean (C : Ctx) (p_l : Sl) (K : Sl → Int → Heap → Prop) (H : Heap) : Prop :=
 nw ((T_zset_part.c (⟨p_l, (.func (.func 52) (List.toArray []) (List.toArray []) : Value)⟩ : T_zset_part)) ++ []) (fun b1 H2 =>
 c_zset_sums C (Sl.of (some (b1, 0)) 1 1) (fun r3 r4 H5 =>
 K r3 r4 H5) H2) H
theorem ad_zset_Clean (C : Ctx) (p_l : Sl) (K : Sl → Int → Heap → Prop) (H : Heap) (h : sh_zset_Clean C p_l K H) : c_zset_Clean C p_l K H := by
 refine Spec.enter Tryz.func33 rfl Tryz.ntmps33 rfl (GC.sub [(0, slv p_l)] ⟨rfl, trivial⟩ (Zo (Za (Za (GL.nil (Zo (Zm (Zv (OV.build (vs := [(0, slv p_l), (1, .func (.func 52) (List.toArray []) (List.toArray []))]) (v := .agg (T_zset_part.c (⟨p_l, (.func (.func 52) (List.toArray []) (List.toArray []) : Value)⟩ : T_zset_part)).toArray) rfl (fun _ => by kernel_rfl)) (GL.buildSlice (cs := (T_zset_part.c (⟨p_l, (.func (.func 52) (List.toArray []) (List.toArray []) : Value)⟩ : T_zset_part)) ++ []) h trivial rfl (vs := [(0, .agg (T_zset_part.c (⟨p_l, (.func (.func 52) (List.toArray []) (List.toArray []) : Value)⟩ : T_zset_part)).toArray)]) rfl ⟨89, fun _ => by kernel_rfl⟩ ?_)))))))))
 intro b1 H2 h
 refine Zc h ok_zset_sums ?_
 rintro _ H5 ⟨r3, r4, rfl, h⟩
 refine Zv (OV.extract (v := slv r3) rfl rfl) (Zv (OV.extract (v := .int .i64 r4) rfl rfl) (Za (Za (GL.nil ?_))))
 exact GC.ret (fun _ _ hf hs => post_tmp2 rfl rfl rfl hf hs ⟨r3, r4, rfl, h⟩)
def sh_delta_pair (C : Ctx) (p_a : Sl) (p_b : Sl) (p_on : Sl) (K : Sl → Heap → Prop) (H : Heap) : Prop :=
 c_delta_sides C p_on (fun r1 r2 H3 =>
 nw (T_delta_side.c T_delta_side.zero) (fun b4 H5 =>
 nw (T_delta_side.c T_delta_side.zero) (fun b6 H7 =>
 stT (b4, 0) (T_delta_side.c r1) (fun H8 =>
 stT (b6, 0) (T_delta_side.c r2) (fun H9 =>
 ldT H9 T_delta_side.c (b6, 0) fun x10 =>
 c_delta_side_by C x10 p_b (fun r12 H13 =>
 lp (α := Sl × Int) (Sl.nil, 0) H13 (fun x14 J15 H16 =>
 ift (decide ((x14.2 : Int) < (Sl.len p_a : Int)))
 (jn (α := Sl) (fun x19 H20 =>
 J15 (x19, (w .i64 (x14.2 + 1))) H20)
 (fun J18 => ixa p_a x14.2 fun p22 =>
 ldT H16 T_zset_Entry.c (p22.1, p22.2 + (x14.2 : Int).toNat * 2) fun x27 =>
 nw (T_zset_Entry.c T_zset_Entry.zero) (fun b29 H30 =>
 stT (b29, 0) (T_zset_Entry.c x27) (fun H31 =>
 ldT H31 T_delta_side.c (b4, 0) fun x32 =>
 ldL H31 ((b29, 0).1, (b29, 0).2 + 0) fun x34 =>
 c_delta_side_key C x32 x34 (fun r36 r37 H38 =>
 ift (!r37)
 (J18 x14.1 H38)
 (lkM (fun x : Sl => (slv x : Value)) Sl.nil r12 r36 (fun x40 is41 =>
 lp (α := Sl × Int) (x14.1, 0) H38 (fun x43 J44 H45 =>
 ift (decide ((x43.2 : Int) < (Sl.len x40 : Int)))
 (ixa x40 x43.2 fun p47 =>
 ldT H45 T_zset_Entry.c (p47.1, p47.2 + (x43.2 : Int).toNat * 2) fun x52 =>
 nw (T_zset_Entry.c T_zset_Entry.zero) (fun b54 H55 =>
 stT (b54, 0) (T_zset_Entry.c x52) (fun H56 =>
 dr H56 fun Hs57 =>
 ldL Hs57 ((b29, 0).1, (b29, 0).2 + 0) fun x59 =>
 ldL Hs57 ((b29, 0).1, (b29, 0).2 + 0) fun x61 =>
 ldL Hs57 ((b29, 0).1, (b29, 0).2 + 0) fun x63 =>
 slL x59 0 (Sl.len x61 : Int) (Sl.len x63 : Int) 4 fun t65 =>
 ldL Hs57 ((b54, 0).1, (b54, 0).2 + 0) fun x71 =>
 apS (T_api_Value.c T_api_Value.zero) 56 t65 x71 (fun r74 H75 =>
 Heap.le Hs57 H75 ∧
 ldI H75 .i64 ((b29, 0).1, (b29, 0).2 + 1) fun x76 =>
 ldI H75 .i64 ((b54, 0).1, (b54, 0).2 + 1) fun x78 =>
 apd (T_zset_Entry.c T_zset_Entry.zero) 32 x43.1 ((T_zset_Entry.c (⟨r74, (w .i64 (x76 * x78))⟩ : T_zset_Entry)) ++ []) 1 (fun r80 H81 =>
 J44 (r80, (w .i64 (x43.2 + 1))) H81) H75) H56) H55) H45)
 (J18 x43.1 H45))) H38)) H31) H30) H16))
 (K x14.1 H16))) H9) H8) H7) H5) H3) H
theorem ad_delta_pair (C : Ctx) (p_a : Sl) (p_b : Sl) (p_on : Sl) (K : Sl → Heap → Prop) (H : Heap) (h : sh_delta_pair C p_a p_b p_on K H) : c_delta_pair C p_a p_b p_on K H := by
 refine Spec.enter Tryz.func34 rfl Tryz.ntmps34 rfl (GC.sub [(0, slv p_a), (1, slv p_b), (2, slv p_on)] ⟨rfl, rfl, rfl, trivial⟩ (Zo (Za (GL.nil (Zo (Zm (Zc h ok_delta_sides ?_)))))))
 rintro _ H3 ⟨r1, r2, rfl, h⟩
 refine Zm (Zv (OV.extract (v := .agg (T_delta_side.c r1).toArray) rfl rfl) (Zv (OV.extract (v := .agg (T_delta_side.c r2).toArray) rfl rfl) (GL.alloc (cs := T_delta_side.c T_delta_side.zero) h trivial rfl rfl rfl ?_)))
 intro b4 H5 h
 refine GL.alloc (cs := T_delta_side.c T_delta_side.zero) h trivial rfl rfl rfl ?_
 intro b6 H7 h
 refine GL.storeT (p := (b4, 0)) (vs := T_delta_side.c r1) h trivial rfl rfl rfl rfl ?_
 intro H8 h
 refine GL.storeT (p := (b6, 0)) (vs := T_delta_side.c r2) h trivial rfl rfl rfl rfl ?_
 intro H9 h
 refine GL.nil (Zo ?_)
 obtain ⟨x10, hr11, h⟩ := h
 refine Zv (OV.loadT rfl rfl rfl hr11) (Zm (Zc h ok_delta_side_by ?_))
 rintro _ H13 ⟨r12, rfl, h⟩
 refine Za (GL.nil (Zo (Za (GL.nil (GC.seq (Zo (Zm (Zq (Zm (GL.nil (GC.block ?_)))))))))))
 refine GC.loop (α := Sl × Int) h (fun x14 => [(10, slv x14.1), (28, .int .i64 x14.2), (7, pv (some (b4, 0))), (9, mv r12), (26, slv p_a), (27, .int .i64 (Sl.len p_a : Int))]) ⟨rfl, rfl, rfl, rfl, rfl, rfl, trivial⟩ ?_
 intro x14 H16 J15 h
 refine Zo (Zi (.bool (decide ((x14.2 : Int) < (Sl.len p_a : Int)))) (GL.nil (GC.seq ?_)))
 refine Zd (fun hc17 => ?_) fun hc17 => ?_
 replace h := h.1 hc17
 refine GC.skip ?_
 obtain ⟨J18, h, hR21⟩ := h
 refine GC.join (α := Sl) J18 (fun x19 => [(10, slv x19), (7, pv (some (b4, 0))), (9, mv r12), (26, slv p_a), (27, .int .i64 (Sl.len p_a : Int)), (28, .int .i64 x14.2)]) ?_ ?_
 refine GC.block (Zo ?_)
 obtain ⟨p22, ha23, hb24, hc25, hd26, h⟩ := h
 refine Zx ha23 hb24 hc25 hd26 ?_
 obtain ⟨x27, hr28, h⟩ := h
 refine Zv (OV.loadT rfl rfl rfl hr28) (GL.alloc (cs := T_zset_Entry.c T_zset_Entry.zero) h trivial rfl rfl rfl ?_)
 intro b29 H30 h
 refine GL.storeT (p := (b29, 0)) (vs := T_zset_Entry.c x27) h trivial rfl rfl rfl rfl ?_
 intro H31 h
 refine GL.nil (Zo ?_)
 obtain ⟨x32, hr33, h⟩ := h
 refine Zv (OV.loadT rfl rfl rfl hr33) (Zf ?_)
 obtain ⟨x34, hr35, h⟩ := h
 refine Zl hr35 (Zc h ok_delta_side_key ?_)
 rintro _ H38 ⟨r36, r37, rfl, h⟩
 refine Zm (Zv (OV.extract (v := sv r36) rfl rfl) (Zv (OV.extract (v := .bool r37) rfl rfl) (Za (Za (GL.nil (GC.seq (Zo (Zm (Zv (OV.not rfl) (GL.nil ?_))))))))))
 refine Zd (fun hc39 => ?_) fun hc39 => ?_
 replace h := h.1 hc39
 exact GC.exit_jump (fun _ _ h => h) x14.1 h ⟨rfl, rfl, rfl, rfl, rfl, rfl, trivial⟩
 replace h := h.2 hc39
 refine GC.skip (Zo (Zm (Zm ?_)))
 obtain ⟨x40, is41, hr42, h⟩ := h
 refine Zv (OV.lookup1 (v := slv x40) (enc := (fun x : Sl => (slv x : Value))) (z := Sl.nil) (q := r12) (k := r36) (x := x40) (b := is41) rfl hr42 rfl rfl rfl rfl rfl) (Zq (Zm (GL.nil (GC.block (GC.loop (α := Sl × Int) h (fun x43 => [(10, slv x43.1), (45, .int .i64 x43.2), (7, pv (some (b4, 0))), (9, mv r12), (12, pv (some (b29, 0))), (26, slv p_a), (27, .int .i64 (Sl.len p_a : Int)), (28, .int .i64 x14.2), (43, slv x40), (44, .int .i64 (Sl.len x40 : Int))]) ⟨rfl, rfl, rfl, rfl, rfl, rfl, rfl, rfl, rfl, rfl, trivial⟩ ?_)))))
 intro x43 H45 J44 h
 refine Zo (Zi (.bool (decide ((x43.2 : Int) < (Sl.len x40 : Int)))) (GL.nil (GC.seq ?_)))
 refine Zd (fun hc46 => ?_) fun hc46 => ?_
 replace h := h.1 hc46
 refine GC.skip (GC.seq (GC.block (Zo ?_)))
 obtain ⟨p47, ha48, hb49, hc50, hd51, h⟩ := h
 refine Zx ha48 hb49 hc50 hd51 ?_
 obtain ⟨x52, hr53, h⟩ := h
 refine Zv (OV.loadT rfl rfl rfl hr53) (GL.alloc (cs := T_zset_Entry.c T_zset_Entry.zero) h trivial rfl rfl rfl ?_)
 intro b54 H55 h
 refine GL.storeT (p := (b54, 0)) (vs := T_zset_Entry.c x52) h trivial rfl rfl rfl rfl ?_
 intro H56 h
 refine GL.nil (GC.seq ?_)
 obtain ⟨Hs57, hle58, h⟩ := h
 refine GC.any (Hs := Hs57) (by kernel_rfl) hle58 (Zp 0 rfl (OV.fieldAddr rfl rfl) ?_)
 obtain ⟨x59, hr60, h⟩ := h
 refine Zp 1 rfl (OV.load rfl rfl hr60) (Zp 2 rfl (OV.fieldAddr rfl rfl) ?_)
 obtain ⟨x61, hr62, h⟩ := h
 refine Zp 3 rfl (OV.load rfl rfl hr62) (Zp 4 rfl (OV.lenSl rfl rfl) (Zp 5 rfl (OV.fieldAddr rfl rfl) ?_))
 obtain ⟨x63, hr64, h⟩ := h
 refine Zp 6 rfl (OV.load rfl rfl hr64) (Zp 7 rfl (OV.lenSl rfl rfl) ?_)
 obtain ⟨h66, h67, h68, h69, t65, h70, h⟩ := h
 refine Zp 8 rfl (OV.sliceSl (s := x59) h66 h67 h68 h69 h70 rfl rfl rfl rfl rfl rfl rfl (fun h => by first | rfl | cases h) rfl rfl) (Zp 9 rfl (OV.fieldAddr rfl rfl) ?_)
 obtain ⟨x71, hr72, h⟩ := h
 refine Zp 10 rfl (OV.load rfl rfl hr72) (GA.eff 11 rfl (by kernel_rfl) (GL.appendS (s := t65) (s2 := x71) (zc := T_api_Value.c T_api_Value.zero) (bytes := 56) h trivial rfl rfl rfl ⟨⟨_, _, _, rfl, rfl, rfl, rfl, rfl, rfl⟩⟩ rfl ?_))
 intro r74 H75 h
 obtain ⟨hle73, h⟩ := h
 refine GA.back hle73 (Zp 12 rfl (OV.assign rfl) (GA.done (by kernel_rfl) (GL.nil (GC.region (Zm (Zm (Zf ?_)))))))
 obtain ⟨x76, hr77, h⟩ := h
 refine Zl hr77 (Zf ?_)
 obtain ⟨x78, hr79, h⟩ := h
 refine Zl hr79 (Zi (.int .i64 (w .i64 (x76 * x78))) (Zv (OV.build (vs := [(0, slv r74), (1, .int .i64 (w .i64 (x76 * x78)))]) (v := .agg (T_zset_Entry.c (⟨r74, (w .i64 (x76 * x78))⟩ : T_zset_Entry)).toArray) rfl (fun _ => by kernel_rfl)) (GL.appendLit (s := x43.1) (ys := (T_zset_Entry.c (⟨r74, (w .i64 (x76 * x78))⟩ : T_zset_Entry)) ++ []) (zc := T_zset_Entry.c T_zset_Entry.zero) (bytes := 32) h trivial rfl (fun _ => trivial) rfl (fun _ => rfl) (fun _ => rfl) (vs := [(0, .agg (T_zset_Entry.c (⟨r74, (w .i64 (x76 * x78))⟩ : T_zset_Entry)).toArray)]) rfl ⟨47, fun _ => by kernel_rfl⟩ ⟨⟨_, _, _, rfl, rfl, rfl, rfl, rfl, rfl⟩⟩ rfl rfl ?_)))
 intro _ r80 H81 h
 refine Za (GL.nil_to (fun _ _ h => h) (GC.region (Zi (.int .i64 (w .i64 (x43.2 + 1))) (Zm ?_))))
 exact GL.jump (fun _ _ h => h) (r80, (w .i64 (x43.2 + 1))) h ⟨rfl, rfl, rfl, rfl, rfl, rfl, rfl, rfl, rfl, rfl, trivial⟩
 replace h := h.2 hc46
 exact GC.exit_jump (fun _ _ h => h) x43.1 h ⟨rfl, rfl, rfl, rfl, rfl, rfl, trivial⟩
 intro x19 H20 h
 replace h := hR21 x19 H20 h
 refine GC.region (Zi (.int .i64 (w .i64 (x14.2 + 1))) (Zm ?_))
 exact GL.jump (fun _ _ h => h) (x19, (w .i64 (x14.2 + 1))) h ⟨rfl, rfl, rfl, rfl, rfl, rfl, trivial⟩
 replace h := h.2 hc17
 refine GC.exit_to (fun _ _ h => h) (Zo (Zm (Za (GL.nil ?_))))
 exact GC.ret (fun _ _ hf hs => post_tmp1 rfl rfl hf hs ⟨x14.1, rfl, h⟩)
def sh_zset_Less (C : Ctx) (p_a : Sl) (p_b : Sl) (K : Sl → Int → Heap → Prop) (H : Heap) : Prop :=
 nw ((T_zset_part.c (⟨p_a, (.func (.func 52) (List.toArray []) (List.toArray []) : Value)⟩ : T_zset_part)) ++ (T_zset_part.c (⟨p_b, (.func (.func 56) (List.toArray []) (List.toArray []) : Value)⟩ : T_zset_part)) ++ []) (fun b1 H2 =>
 c_zset_sums C (Sl.of (some (b1, 0)) 2 2) (fun r3 r4 H5 =>
 K r3 r4 H5) H2) H
theorem ad_zset_Less (C : Ctx) (p_a : Sl) (p_b : Sl) (K : Sl → Int → Heap → Prop) (H : Heap) (h : sh_zset_Less C p_a p_b K H) : c_zset_Less C p_a p_b K H := by
 refine Spec.enter Tryz.func35 rfl Tryz.ntmps35 rfl (GC.sub [(0, slv p_a), (1, slv p_b)] ⟨rfl, rfl, trivial⟩ (Zo (Za (Za (GL.nil (Zo (Zm (Zv (OV.build (vs := [(0, slv p_a), (1, .func (.func 52) (List.toArray []) (List.toArray []))]) (v := .agg (T_zset_part.c (⟨p_a, (.func (.func 52) (List.toArray []) (List.toArray []) : Value)⟩ : T_zset_part)).toArray) rfl (fun _ => by kernel_rfl)) (Zm (Zv (OV.build (vs := [(0, slv p_b), (1, .func (.func 56) (List.toArray []) (List.toArray []))]) (v := .agg (T_zset_part.c (⟨p_b, (.func (.func 56) (List.toArray []) (List.toArray []) : Value)⟩ : T_zset_part)).toArray) rfl (fun _ => by kernel_rfl)) (GL.buildSlice (cs := (T_zset_part.c (⟨p_a, (.func (.func 52) (List.toArray []) (List.toArray []) : Value)⟩ : T_zset_part)) ++ (T_zset_part.c (⟨p_b, (.func (.func 56) (List.toArray []) (List.toArray []) : Value)⟩ : T_zset_part)) ++ []) h trivial rfl (vs := [(0, .agg (T_zset_part.c (⟨p_a, (.func (.func 52) (List.toArray []) (List.toArray []) : Value)⟩ : T_zset_part)).toArray), (1, .agg (T_zset_part.c (⟨p_b, (.func (.func 56) (List.toArray []) (List.toArray []) : Value)⟩ : T_zset_part)).toArray)]) rfl ⟨89, fun _ => by kernel_rfl⟩ ?_)))))))))))
 intro b1 H2 h
 refine Zc h ok_zset_sums ?_
 rintro _ H5 ⟨r3, r4, rfl, h⟩
 refine Zv (OV.extract (v := slv r3) rfl rfl) (Zv (OV.extract (v := .int .i64 r4) rfl rfl) (Za (Za (GL.nil ?_))))
 exact GC.ret (fun _ _ hf hs => post_tmp2 rfl rfl rfl hf hs ⟨r3, r4, rfl, h⟩)
def sh_delta_none (C : Ctx) (p_a : Sl) (p_b : Sl) (p_on : Sl) (K : Sl → Heap → Prop) (H : Heap) : Prop :=
 c_delta_sides C p_on (fun r1 r2 H3 =>
 nw (T_delta_side.c T_delta_side.zero) (fun b4 H5 =>
 nw (T_delta_side.c T_delta_side.zero) (fun b6 H7 =>
 stT (b4, 0) (T_delta_side.c r1) (fun H8 =>
 stT (b6, 0) (T_delta_side.c r2) (fun H9 =>
 ldT H9 T_delta_side.c (b6, 0) fun x10 =>
 c_delta_side_by C x10 p_b (fun r12 H13 =>
 lp (α := Sl × Int) (Sl.nil, 0) H13 (fun x14 J15 H16 =>
 ift (decide ((x14.2 : Int) < (Sl.len p_a : Int)))
 (jn (α := Sl) (fun x19 H20 =>
 J15 (x19, (w .i64 (x14.2 + 1))) H20)
 (fun J18 => ixa p_a x14.2 fun p22 =>
 ldT H16 T_zset_Entry.c (p22.1, p22.2 + (x14.2 : Int).toNat * 2) fun x27 =>
 nw (T_zset_Entry.c T_zset_Entry.zero) (fun b29 H30 =>
 stT (b29, 0) (T_zset_Entry.c x27) (fun H31 =>
 ldT H31 T_delta_side.c (b4, 0) fun x32 =>
 ldL H31 ((b29, 0).1, (b29, 0).2 + 0) fun x34 =>
 c_delta_side_key C x32 x34 (fun r36 r37 H38 =>
 jn (α := Bool) (fun b39 H46 =>
 ift b39
 (ldT H46 T_zset_Entry.c (b29, 0) fun x48 =>
 apd (T_zset_Entry.c T_zset_Entry.zero) 32 x14.1 ((T_zset_Entry.c x48) ++ []) 1 (fun r50 H51 =>
 J18 r50 H51) H46)
 (J18 x14.1 H46))
 (fun J40 => ift (!r37)
 (J40 true H38)
 (lkM (fun x : Sl => (slv x : Value)) Sl.nil r12 r36 (fun x43 is44 =>
 J40 (((Sl.len x43 : Int) : Int) == 0) H38) H38))) H31) H30) H16))
 (K x14.1 H16))) H9) H8) H7) H5) H3) H
theorem ad_delta_none (C : Ctx) (p_a : Sl) (p_b : Sl) (p_on : Sl) (K : Sl → Heap → Prop) (H : Heap) (h : sh_delta_none C p_a p_b p_on K H) : c_delta_none C p_a p_b p_on K H := by
 refine Spec.enter Tryz.func40 rfl Tryz.ntmps40 rfl (GC.sub [(0, slv p_a), (1, slv p_b), (2, slv p_on)] ⟨rfl, rfl, rfl, trivial⟩ (Zo (Za (GL.nil (Zo (Zm (Zc h ok_delta_sides ?_)))))))
 rintro _ H3 ⟨r1, r2, rfl, h⟩
 refine Zm (Zv (OV.extract (v := .agg (T_delta_side.c r1).toArray) rfl rfl) (Zv (OV.extract (v := .agg (T_delta_side.c r2).toArray) rfl rfl) (GL.alloc (cs := T_delta_side.c T_delta_side.zero) h trivial rfl rfl rfl ?_)))
 intro b4 H5 h
 refine GL.alloc (cs := T_delta_side.c T_delta_side.zero) h trivial rfl rfl rfl ?_
 intro b6 H7 h
 refine GL.storeT (p := (b4, 0)) (vs := T_delta_side.c r1) h trivial rfl rfl rfl rfl ?_
 intro H8 h
 refine GL.storeT (p := (b6, 0)) (vs := T_delta_side.c r2) h trivial rfl rfl rfl rfl ?_
 intro H9 h
 refine GL.nil (Zo ?_)
 obtain ⟨x10, hr11, h⟩ := h
 refine Zv (OV.loadT rfl rfl rfl hr11) (Zm (Zc h ok_delta_side_by ?_))
 rintro _ H13 ⟨r12, rfl, h⟩
 refine Za (GL.nil (Zo (Za (GL.nil (GC.seq (Zo (Zm (Zq (Zm (GL.nil (GC.block ?_)))))))))))
 refine GC.loop (α := Sl × Int) h (fun x14 => [(10, slv x14.1), (25, .int .i64 x14.2), (7, pv (some (b4, 0))), (9, mv r12), (23, slv p_a), (24, .int .i64 (Sl.len p_a : Int))]) ⟨rfl, rfl, rfl, rfl, rfl, rfl, trivial⟩ ?_
 intro x14 H16 J15 h
 refine Zo (Zi (.bool (decide ((x14.2 : Int) < (Sl.len p_a : Int)))) (GL.nil (GC.seq ?_)))
 refine Zd (fun hc17 => ?_) fun hc17 => ?_
 replace h := h.1 hc17
 refine GC.skip ?_
 obtain ⟨J18, h, hR21⟩ := h
 refine GC.join (α := Sl) J18 (fun x19 => [(10, slv x19), (7, pv (some (b4, 0))), (9, mv r12), (23, slv p_a), (24, .int .i64 (Sl.len p_a : Int)), (25, .int .i64 x14.2)]) ?_ ?_
 refine GC.block (Zo ?_)
 obtain ⟨p22, ha23, hb24, hc25, hd26, h⟩ := h
 refine Zx ha23 hb24 hc25 hd26 ?_
 obtain ⟨x27, hr28, h⟩ := h
 refine Zv (OV.loadT rfl rfl rfl hr28) (GL.alloc (cs := T_zset_Entry.c T_zset_Entry.zero) h trivial rfl rfl rfl ?_)
 intro b29 H30 h
 refine GL.storeT (p := (b29, 0)) (vs := T_zset_Entry.c x27) h trivial rfl rfl rfl rfl ?_
 intro H31 h
 refine GL.nil (Zo ?_)
 obtain ⟨x32, hr33, h⟩ := h
 refine Zv (OV.loadT rfl rfl rfl hr33) (Zf ?_)
 obtain ⟨x34, hr35, h⟩ := h
 refine Zl hr35 (Zc h ok_delta_side_key ?_)
 rintro _ H38 ⟨r36, r37, rfl, h⟩
 refine Zm (Zv (OV.extract (v := sv r36) rfl rfl) (Zv (OV.extract (v := .bool r37) rfl rfl) (Za (Za (GL.nil (Zo (Zm (Zv (OV.not rfl) (Zm ?_)))))))))
 obtain ⟨J40, h, hR41⟩ := h
 refine GL.cut (α := Bool) 6 J40 (fun b39 => [(44, .bool b39), (7, pv (some (b4, 0))), (9, mv r12), (10, slv x14.1), (12, pv (some (b29, 0))), (23, slv p_a), (24, .int .i64 (Sl.len p_a : Int)), (25, .int .i64 x14.2)]) ?_ ?_
 rcases Zb (!r37) with hc42 | hc42
 replace h := h.1 hc42
 refine Zk hc42 (Zk hc42 (Zk hc42 (Zk hc42 (Zk hc42 (Zt hc42 ?_)))))
 exact GL.jump (fun _ _ h => h) true h ⟨rfl, rfl, rfl, rfl, rfl, rfl, rfl, rfl, trivial⟩
 replace h := h.2 hc42
 refine Zu hc42 (OV.move rfl) (Zu hc42 (OV.move rfl) ?_)
 obtain ⟨x43, is44, hr45, h⟩ := h
 refine Zu hc42 (OV.lookup1 (v := slv x43) (enc := (fun x : Sl => (slv x : Value))) (z := Sl.nil) (q := r12) (k := r36) (x := x43) (b := is44) rfl hr45 rfl rfl rfl rfl rfl) (Zu hc42 (OV.lenSl rfl rfl) (Zu hc42 (OV.ibin (v := .bool (((Sl.len x43 : Int) : Int) == 0)) rfl rfl rfl) (Zn hc42 ?_)))
 exact GL.jump (fun _ _ h => h) (((Sl.len x43 : Int) : Int) == 0) h ⟨rfl, rfl, rfl, rfl, rfl, rfl, rfl, rfl, trivial⟩
 intro b39 H46 h
 replace h := hR41 b39 H46 h
 refine GL.nil ?_
 refine Zd (fun hc47 => ?_) fun hc47 => ?_
 replace h := h.1 hc47
 refine GC.region (Zm ?_)
 obtain ⟨x48, hr49, h⟩ := h
 refine Zv (OV.loadT rfl rfl rfl hr49) (GL.appendLit (s := x14.1) (ys := (T_zset_Entry.c x48) ++ []) (zc := T_zset_Entry.c T_zset_Entry.zero) (bytes := 32) h trivial rfl (fun _ => trivial) rfl (fun _ => rfl) (fun _ => rfl) (vs := [(0, .agg (T_zset_Entry.c x48).toArray)]) rfl ⟨47, fun _ => by kernel_rfl⟩ ⟨⟨_, _, _, rfl, rfl, rfl, rfl, rfl, rfl⟩⟩ rfl rfl ?_)
 intro _ r50 H51 h
 refine Za ?_
 exact GL.jump (fun _ _ h => h) r50 h ⟨rfl, rfl, rfl, rfl, rfl, rfl, trivial⟩
 replace h := h.2 hc47
 exact GC.jump (fun _ _ h => h) x14.1 h ⟨rfl, rfl, rfl, rfl, rfl, rfl, trivial⟩
 intro x19 H20 h
 replace h := hR21 x19 H20 h
 refine GC.region (Zi (.int .i64 (w .i64 (x14.2 + 1))) (Zm ?_))
 exact GL.jump (fun _ _ h => h) (x19, (w .i64 (x14.2 + 1))) h ⟨rfl, rfl, rfl, rfl, rfl, rfl, trivial⟩
 replace h := h.2 hc17
 refine GC.exit_to (fun _ _ h => h) (Zo (Zm (Za (GL.nil ?_))))
 exact GC.ret (fun _ _ hf hs => post_tmp1 rfl rfl hf hs ⟨x14.1, rfl, h⟩)
def sh_delta_less (C : Ctx) (p_l : Sl) (K : Sl → Heap → Prop) (H : Heap) : Prop :=
 lp (α := Sl × Int) (Sl.nil, 0) H (fun x1 J2 H3 =>
 ift (decide ((x1.2 : Int) < (Sl.len p_l : Int)))
 (ixa p_l x1.2 fun p5 =>
 ldT H3 T_zset_Entry.c (p5.1, p5.2 + (x1.2 : Int).toNat * 2) fun x10 =>
 nw (T_zset_Entry.c T_zset_Entry.zero) (fun b12 H13 =>
 stT (b12, 0) (T_zset_Entry.c x10) (fun H14 =>
 ldL H14 ((b12, 0).1, (b12, 0).2 + 0) fun x15 =>
 ldI H14 .i64 ((b12, 0).1, (b12, 0).2 + 1) fun x17 =>
 apd (T_zset_Entry.c T_zset_Entry.zero) 32 x1.1 ((T_zset_Entry.c (⟨x15, (w .i64 (0 - x17))⟩ : T_zset_Entry)) ++ []) 1 (fun r19 H20 =>
 J2 (r19, (w .i64 (x1.2 + 1))) H20) H14) H13) H3)
 (K x1.1 H3))
theorem ad_delta_less (C : Ctx) (p_l : Sl) (K : Sl → Heap → Prop) (H : Heap) (h : sh_delta_less C p_l K H) : c_delta_less C p_l K H := by
 refine Spec.enter Tryz.func41 rfl Tryz.ntmps41 rfl (GC.sub [(0, slv p_l)] ⟨rfl, trivial⟩ (Zo (Za (GL.nil (Zo (Za (GL.nil (GC.seq (Zo (Zm (Zq ?_)))))))))))
 refine Zm (GL.nil (GC.block (GC.loop (α := Sl × Int) h (fun x1 => [(3, slv x1.1), (8, .int .i64 x1.2), (6, slv p_l), (7, .int .i64 (Sl.len p_l : Int))]) ⟨rfl, rfl, rfl, rfl, trivial⟩ ?_)))
 intro x1 H3 J2 h
 refine Zo (Zi (.bool (decide ((x1.2 : Int) < (Sl.len p_l : Int)))) (GL.nil (GC.seq ?_)))
 refine Zd (fun hc4 => ?_) fun hc4 => ?_
 replace h := h.1 hc4
 refine GC.skip (GC.seq (GC.block (Zo ?_)))
 obtain ⟨p5, ha6, hb7, hc8, hd9, h⟩ := h
 refine Zx ha6 hb7 hc8 hd9 ?_
 obtain ⟨x10, hr11, h⟩ := h
 refine Zv (OV.loadT rfl rfl rfl hr11) (GL.alloc (cs := T_zset_Entry.c T_zset_Entry.zero) h trivial rfl rfl rfl ?_)
 intro b12 H13 h
 refine GL.storeT (p := (b12, 0)) (vs := T_zset_Entry.c x10) h trivial rfl rfl rfl rfl ?_
 intro H14 h
 refine GL.nil (GC.region (Zm (Zf ?_)))
 obtain ⟨x15, hr16, h⟩ := h
 refine Zl hr16 (Zf ?_)
 obtain ⟨x17, hr18, h⟩ := h
 refine Zl hr18 (Zv (OV.iun (v := .int .i64 (w .i64 (0 - x17))) rfl rfl) (Zv (OV.build (vs := [(0, slv x15), (1, .int .i64 (w .i64 (0 - x17)))]) (v := .agg (T_zset_Entry.c (⟨x15, (w .i64 (0 - x17))⟩ : T_zset_Entry)).toArray) rfl (fun _ => by kernel_rfl)) (GL.appendLit (s := x1.1) (ys := (T_zset_Entry.c (⟨x15, (w .i64 (0 - x17))⟩ : T_zset_Entry)) ++ []) (zc := T_zset_Entry.c T_zset_Entry.zero) (bytes := 32) h trivial rfl (fun _ => trivial) rfl (fun _ => rfl) (fun _ => rfl) (vs := [(0, .agg (T_zset_Entry.c (⟨x15, (w .i64 (0 - x17))⟩ : T_zset_Entry)).toArray)]) rfl ⟨47, fun _ => by kernel_rfl⟩ ⟨⟨_, _, _, rfl, rfl, rfl, rfl, rfl, rfl⟩⟩ rfl rfl ?_)))
 intro _ r19 H20 h
 refine Za (GL.nil_to (fun _ _ h => h) (GC.region (Zi (.int .i64 (w .i64 (x1.2 + 1))) (Zm ?_))))
 exact GL.jump (fun _ _ h => h) (r19, (w .i64 (x1.2 + 1))) h ⟨rfl, rfl, rfl, rfl, trivial⟩
 replace h := h.2 hc4
 refine GC.exit_to (fun _ _ h => h) (Zo (Zm (Za (GL.nil ?_))))
 exact GC.ret (fun _ _ hf hs => post_tmp1 rfl rfl hf hs ⟨x1.1, rfl, h⟩)
def sh_delta_side_whole (C : Ctx) (p_s : T_delta_side) (p_row : Sl) (K : Str → Bool → Heap → Prop) (H : Heap) : Prop :=
 nw (T_delta_side.c p_s) (fun b1 H2 =>
 lp (α := Int) 0 H2 (fun x3 J4 H5 =>
 ift (decide ((x3 : Int) < (Sl.len p_row : Int)))
 (ldL H5 ((b1, 0).1, (b1, 0).2 + 0) fun x7 =>
 ldL H5 ((b1, 0).1, (b1, 0).2 + 0) fun x9 =>
 ldL H5 ((b1, 0).1, (b1, 0).2 + 0) fun x11 =>
 slL x7 0 (Sl.len x9 : Int) (Sl.len x11 : Int) 1 fun t13 =>
 apd ([.int .i64 0]) 8 t13 ([.int .i64 x3]) 1 (fun r19 H20 =>
 st ((b1, 0).1, (b1, 0).2 + 0) (slv r19) (fun H21 =>
 J4 (w .i64 (x3 + 1)) H21) H20) H5)
 (ldT H5 T_delta_side.c (b1, 0) fun x22 =>
 c_delta_side_key C x22 p_row (fun r24 r25 H26 =>
 K r24 r25 H26) H5))) H
theorem ad_delta_side_whole (C : Ctx) (p_s : T_delta_side) (p_row : Sl) (K : Str → Bool → Heap → Prop) (H : Heap) (h : sh_delta_side_whole C p_s p_row K H) : c_delta_side_whole C p_s p_row K H := by
 refine Spec.enter Tryz.func43 rfl Tryz.ntmps43 rfl (GC.sub [(0, .agg (T_delta_side.c p_s).toArray), (1, slv p_row)] ⟨rfl, rfl, trivial⟩ (Zo (GL.box (v := .agg (T_delta_side.c p_s).toArray) (cs := T_delta_side.c p_s) h trivial rfl rfl rfl ?_)))
 intro b1 H2 h
 refine Za (Za (GL.nil (GC.seq (Zo (Zm (Zq (Zm (GL.nil (GC.block (GC.loop (α := Int) h (fun x3 => [(9, .int .i64 x3), (1, slv p_row), (2, pv (some (b1, 0))), (8, .int .i64 (Sl.len p_row : Int))]) ⟨rfl, rfl, rfl, rfl, trivial⟩ ?_))))))))))
 intro x3 H5 J4 h
 refine Zo (Zi (.bool (decide ((x3 : Int) < (Sl.len p_row : Int)))) (GL.nil (GC.seq ?_)))
 refine Zd (fun hc6 => ?_) fun hc6 => ?_
 replace h := h.1 hc6
 refine GC.skip (GC.seq (GC.block (Zo (Zm (Za (GL.nil (GC.region (Zf ?_))))))))
 obtain ⟨x7, hr8, h⟩ := h
 refine Zl hr8 (Zf ?_)
 obtain ⟨x9, hr10, h⟩ := h
 refine Zl hr10 (Zq (Zf ?_))
 obtain ⟨x11, hr12, h⟩ := h
 refine Zl hr12 (Zq ?_)
 obtain ⟨h14, h15, h16, h17, t13, h18, h⟩ := h
 refine Zv (OV.sliceSl (s := x7) h14 h15 h16 h17 h18 rfl rfl rfl rfl rfl rfl rfl (fun h => by first | rfl | cases h) rfl rfl) (Zm (GL.appendLit (s := t13) (ys := [.int .i64 x3]) (zc := [.int .i64 0]) (bytes := 8) h trivial rfl (fun _ => trivial) rfl (fun _ => rfl) (fun _ => rfl) (vs := [(0, .int .i64 x3)]) rfl ⟨3, fun _ => by kernel_rfl⟩ ⟨⟨_, _, _, rfl, rfl, rfl, rfl, rfl, rfl⟩⟩ rfl rfl ?_))
 intro _ r19 H20 h
 refine Zf (GL.store (p := ((b1, 0).1, (b1, 0).2 + 0)) (v := slv r19) h trivial rfl rfl rfl rfl ?_)
 intro H21 h
 refine GL.nil_to (fun _ _ h => h) (GC.region (Zi (.int .i64 (w .i64 (x3 + 1))) (Zm ?_)))
 exact GL.jump (fun _ _ h => h) (w .i64 (x3 + 1)) h ⟨rfl, rfl, rfl, rfl, trivial⟩
 replace h := h.2 hc6
 refine GC.exit_to (fun _ _ h => h) (Zo ?_)
 obtain ⟨x22, hr23, h⟩ := h
 refine Zv (OV.loadT rfl rfl rfl hr23) (Zm (Zc h ok_delta_side_key ?_))
 rintro _ H26 ⟨r24, r25, rfl, h⟩
 refine Zv (OV.extract (v := sv r24) rfl rfl) (Zv (OV.extract (v := .bool r25) rfl rfl) (Za (Za (GL.nil ?_))))
 exact GC.ret (fun _ _ hf hs => post_tmp2 rfl rfl rfl hf hs ⟨r24, r25, rfl, h⟩)
def sh_ref02_SameRow (C : Ctx) (p_a : Sl) (p_b : Sl) (K : Bool → Heap → Prop) (H : Heap) : Prop :=
 ift (((Sl.len p_a : Int) : Int) != (Sl.len p_b : Int))
 (K false H)
 (lp (α := Int) 0 H (fun x2 J3 H4 =>
 ift (decide ((x2 : Int) < (Sl.len p_a : Int)))
 (dr H4 fun Hs6 =>
 ixa p_a x2 fun p8 =>
 ldT Hs6 T_api_Value.c (p8.1, p8.2 + (x2 : Int).toNat * 4) fun x13 =>
 ixa p_b x2 fun p15 =>
 ldT Hs6 T_api_Value.c (p15.1, p15.2 + (x2 : Int).toNat * 4) fun x20 =>
 c_ref02_Same C x13 x20 (fun r23 H24 =>
 Heap.le Hs6 H24 ∧
 ift (!r23)
 (K false H24)
 (J3 (w .i64 (x2 + 1)) H24)) H4)
 (K true H4)))
theorem ad_ref02_SameRow (C : Ctx) (p_a : Sl) (p_b : Sl) (K : Bool → Heap → Prop) (H : Heap) (h : sh_ref02_SameRow C p_a p_b K H) : c_ref02_SameRow C p_a p_b K H := by
 refine Spec.enter Tryz.func45 rfl Tryz.ntmps45 rfl (GC.sub [(0, slv p_a), (1, slv p_b)] ⟨rfl, rfl, trivial⟩ (Zo (Za (GL.nil (GC.seq (Zo (Zm (Zq (Zm (Zq (Zi (.bool (((Sl.len p_a : Int) : Int) != (Sl.len p_b : Int))) ?_)))))))))))
 refine GL.nil ?_
 refine Zd (fun hc1 => ?_) fun hc1 => ?_
 replace h := h.1 hc1
 refine Zo (Za (GL.nil ?_))
 exact GC.ret (fun _ _ hf hs => post_tmp1 rfl rfl hf hs ⟨false, rfl, h⟩)
 replace h := h.2 hc1
 refine GC.skip (GC.seq (Zo (Za (GL.nil (GC.block (GC.loop (α := Int) h (fun x2 => [(5, .int .i64 x2), (0, slv p_a), (1, slv p_b)]) ⟨rfl, rfl, rfl, trivial⟩ ?_))))))
 intro x2 H4 J3 h
 refine GC.seq (Zo (Zm (Zm (Zq (Zi (.bool (decide ((x2 : Int) < (Sl.len p_a : Int)))) (GL.nil ?_))))))
 refine Zd (fun hc5 => ?_) fun hc5 => ?_
 replace h := h.1 hc5
 refine GC.skip (GC.seq (GC.block (GC.seq ?_)))
 obtain ⟨Hs6, hle7, h⟩ := h
 refine GC.any (Hs := Hs6) (by kernel_rfl) hle7 (Zp 0 rfl (OV.move rfl) (Zp 1 rfl (OV.move rfl) ?_))
 obtain ⟨p8, ha9, hb10, hc11, hd12, h⟩ := h
 refine Zp 2 rfl (OV.indexAddr rfl rfl rfl rfl ha9 hb10 hc11 hd12) ?_
 obtain ⟨x13, hr14, h⟩ := h
 refine Zp 3 rfl (OV.loadT rfl rfl rfl hr14) (Zp 4 rfl (OV.move rfl) (Zp 5 rfl (OV.move rfl) ?_))
 obtain ⟨p15, ha16, hb17, hc18, hd19, h⟩ := h
 refine Zp 6 rfl (OV.indexAddr rfl rfl rfl rfl ha16 hb17 hc18 hd19) ?_
 obtain ⟨x20, hr21, h⟩ := h
 refine Zp 7 rfl (OV.loadT rfl rfl rfl hr21) (GA.eff 8 rfl (by kernel_rfl) (Zc h ok_ref02_Same ?_))
 rintro _ H24 ⟨r23, rfl, h⟩
 obtain ⟨hle22, h⟩ := h
 refine GA.back hle22 (Zp 9 rfl (OV.not rfl) (GA.done (by kernel_rfl) (GL.nil ?_)))
 refine Zd (fun hc25 => ?_) fun hc25 => ?_
 replace h := h.1 hc25
 refine Zo (Za (GL.nil ?_))
 exact GC.ret (fun _ _ hf hs => post_tmp1 rfl rfl hf hs ⟨false, rfl, h⟩)
 replace h := h.2 hc25
 refine GC.skip_to (fun _ _ h => h) (GC.region (Zm (Zi (.int .i64 (w .i64 (x2 + 1))) (Za ?_))))
 exact GL.jump (fun _ _ h => h) (w .i64 (x2 + 1)) h ⟨rfl, rfl, rfl, trivial⟩
 replace h := h.2 hc5
 refine GC.exit_to (fun _ _ h => h) (Zo (Za (GL.nil ?_)))
 exact GC.ret (fun _ _ hf hs => post_tmp1 rfl rfl hf hs ⟨true, rfl, h⟩)
def sh_value_Check (C : Ctx) (p_v : T_api_Value) (K : Int → Heap → Prop) (H : Heap) : Prop :=
 nw (T_api_Value.c p_v) (fun b1 H2 =>
 ldT H2 T_api_Value.c (b1, 0) fun x3 =>
 c_value_depth C x3 65 (fun r5 H6 =>
 ift (decide ((r5 : Int) > 64))
 (K 65 H6)
 (ldT H6 T_api_Value.c (b1, 0) fun x8 =>
 c_value_item_look C x8 (fun r10 r11 H12 =>
 ift (!r10)
 (K 4 H12)
 (ift (!r11)
 (K 40 H12)
 (K 0 H12))) H6)) H2) H
theorem ad_value_Check (C : Ctx) (p_v : T_api_Value) (K : Int → Heap → Prop) (H : Heap) (h : sh_value_Check C p_v K H) : c_value_Check C p_v K H := by
 refine Spec.enter Tryz.func46 rfl Tryz.ntmps46 rfl (GC.sub [(0, .agg (T_api_Value.c p_v).toArray)] ⟨rfl, trivial⟩ (Zo (GL.box (v := .agg (T_api_Value.c p_v).toArray) (cs := T_api_Value.c p_v) h trivial rfl rfl rfl ?_)))
 intro b1 H2 h
 refine Za (GL.nil (GC.seq (Zo ?_)))
 obtain ⟨x3, hr4, h⟩ := h
 refine Zv (OV.loadT rfl rfl rfl hr4) (Zc h ok_value_depth ?_)
 rintro _ H6 ⟨r5, rfl, h⟩
 refine Zi (.bool (decide ((r5 : Int) > 64))) (GL.nil ?_)
 refine Zd (fun hc7 => ?_) fun hc7 => ?_
 replace h := h.1 hc7
 refine Zo (Za (GL.nil ?_))
 exact GC.ret (fun _ _ hf hs => post_tmp1 rfl rfl hf hs ⟨65, rfl, h⟩)
 replace h := h.2 hc7
 refine GC.skip (GC.seq (Zo ?_))
 obtain ⟨x8, hr9, h⟩ := h
 refine Zv (OV.loadT rfl rfl rfl hr9) (Zc h ok_value_item_look ?_)
 rintro _ H12 ⟨r10, r11, rfl, h⟩
 refine Zm (Zv (OV.extract (v := .bool r10) rfl rfl) (Zv (OV.extract (v := .bool r11) rfl rfl) (Za (Za (GL.nil (GC.block (Zo (Zm (Zv (OV.not rfl) (Za (GL.nil ?_)))))))))))
 refine Zd (fun hc13 => ?_) fun hc13 => ?_
 replace h := h.1 hc13
 refine Zo (Za (GL.nil ?_))
 exact GC.ret (fun _ _ hf hs => post_tmp1 rfl rfl hf hs ⟨4, rfl, h⟩)
 replace h := h.2 hc13
 refine Zo (Zm (Zv (OV.not rfl) (Za (GL.nil ?_))))
 refine Zd (fun hc14 => ?_) fun hc14 => ?_
 replace h := h.1 hc14
 refine Zo (Za (GL.nil ?_))
 exact GC.ret (fun _ _ hf hs => post_tmp1 rfl rfl hf hs ⟨40, rfl, h⟩)
 replace h := h.2 hc14
 refine GC.skip_to (fun _ _ h => h) (Zo (Za (GL.nil ?_)))
 exact GC.ret (fun _ _ hf hs => post_tmp1 rfl rfl hf hs ⟨0, rfl, h⟩)
def sh_zset_Add (C : Ctx) (p_a : Sl) (p_b : Sl) (K : Sl → Int → Heap → Prop) (H : Heap) : Prop :=
 nw ((T_zset_part.c (⟨p_a, (.func (.func 52) (List.toArray []) (List.toArray []) : Value)⟩ : T_zset_part)) ++ (T_zset_part.c (⟨p_b, (.func (.func 52) (List.toArray []) (List.toArray []) : Value)⟩ : T_zset_part)) ++ []) (fun b1 H2 =>
 c_zset_sums C (Sl.of (some (b1, 0)) 2 2) (fun r3 r4 H5 =>
 K r3 r4 H5) H2) H
theorem ad_zset_Add (C : Ctx) (p_a : Sl) (p_b : Sl) (K : Sl → Int → Heap → Prop) (H : Heap) (h : sh_zset_Add C p_a p_b K H) : c_zset_Add C p_a p_b K H := by
 refine Spec.enter Tryz.func47 rfl Tryz.ntmps47 rfl (GC.sub [(0, slv p_a), (1, slv p_b)] ⟨rfl, rfl, trivial⟩ (Zo (Za (Za (GL.nil (Zo (Zm (Zv (OV.build (vs := [(0, slv p_a), (1, .func (.func 52) (List.toArray []) (List.toArray []))]) (v := .agg (T_zset_part.c (⟨p_a, (.func (.func 52) (List.toArray []) (List.toArray []) : Value)⟩ : T_zset_part)).toArray) rfl (fun _ => by kernel_rfl)) (Zm (Zv (OV.build (vs := [(0, slv p_b), (1, .func (.func 52) (List.toArray []) (List.toArray []))]) (v := .agg (T_zset_part.c (⟨p_b, (.func (.func 52) (List.toArray []) (List.toArray []) : Value)⟩ : T_zset_part)).toArray) rfl (fun _ => by kernel_rfl)) (GL.buildSlice (cs := (T_zset_part.c (⟨p_a, (.func (.func 52) (List.toArray []) (List.toArray []) : Value)⟩ : T_zset_part)) ++ (T_zset_part.c (⟨p_b, (.func (.func 52) (List.toArray []) (List.toArray []) : Value)⟩ : T_zset_part)) ++ []) h trivial rfl (vs := [(0, .agg (T_zset_part.c (⟨p_a, (.func (.func 52) (List.toArray []) (List.toArray []) : Value)⟩ : T_zset_part)).toArray), (1, .agg (T_zset_part.c (⟨p_b, (.func (.func 52) (List.toArray []) (List.toArray []) : Value)⟩ : T_zset_part)).toArray)]) rfl ⟨89, fun _ => by kernel_rfl⟩ ?_)))))))))))
 intro b1 H2 h
 refine Zc h ok_zset_sums ?_
 rintro _ H5 ⟨r3, r4, rfl, h⟩
 refine Zv (OV.extract (v := slv r3) rfl rfl) (Zv (OV.extract (v := .int .i64 r4) rfl rfl) (Za (Za (GL.nil ?_))))
 exact GC.ret (fun _ _ hf hs => post_tmp2 rfl rfl rfl hf hs ⟨r3, r4, rfl, h⟩)
def sh_slices_DeleteFunc_zset_Entry_zset_Entry (C : Ctx) (p_s : Sl) (p_del : Value) (K : Sl → Heap → Prop) (H : Heap) : Prop :=
 c_slices_IndexFunc_zset_Entry_zset_Entry C p_s p_del (fun r1 H2 =>
 ift ((r1 : Int) == (-1))
 (K p_s H2)
 (lp (α := Int × Int) (r1, (w .i64 (r1 + 1))) H2 (fun x4 J5 H6 =>
 ift (decide ((x4.2 : Int) < (Sl.len p_s : Int)))
 (jn (α := Int) (fun x9 H10 =>
 J5 (x9, (w .i64 (x4.2 + 1))) H10)
 (fun J8 => ixa p_s x4.2 fun p12 =>
 ldT H6 T_zset_Entry.c (p12.1, p12.2 + (x4.2 : Int).toNat * 2) fun x17 =>
 nw (T_zset_Entry.c T_zset_Entry.zero) (fun b19 H20 =>
 stT (b19, 0) (T_zset_Entry.c x17) (fun H21 =>
 ldT H21 T_zset_Entry.c (b19, 0) fun x22 =>
 callU Tryz.prog C p_del [.agg (T_zset_Entry.c x22).toArray] H21 (fun v H25 => ∃ (r24 : Bool), v = .bool r24 ∧
 ift (!r24)
 (ldT H25 T_zset_Entry.c (b19, 0) fun x27 =>
 ixa p_s x4.1 fun p29 =>
 stT (p29.1, p29.2 + (x4.1 : Int).toNat * 2) (T_zset_Entry.c x27) (fun H34 =>
 J8 (w .i64 (x4.1 + 1)) H34) H25)
 (J8 x4.1 H25))) H20) H6))
 (slL p_s x4.1 (Sl.len p_s : Int) (Sl.cap p_s : Int) 2 fun t35 =>
 clr (T_zset_Entry.c T_zset_Entry.zero) t35 (fun H41 =>
 slL p_s 0 x4.1 (Sl.cap p_s : Int) 2 fun t42 =>
 K t42 H41) H6)))) H
theorem ad_slices_DeleteFunc_zset_Entry_zset_Entry (C : Ctx) (p_s : Sl) (p_del : Value) (K : Sl → Heap → Prop) (H : Heap) (h : sh_slices_DeleteFunc_zset_Entry_zset_Entry C p_s p_del K H) : c_slices_DeleteFunc_zset_Entry_zset_Entry C p_s p_del K H := by
 refine Spec.enter Tryz.func48 rfl Tryz.ntmps48 rfl (GC.sub [(0, slv p_s), (1, p_del)] ⟨rfl, rfl, trivial⟩ (Zo (Za (GL.nil (Zo (Zm (Zm (Zc h ok_slices_IndexFunc_zset_Entry_zset_Entry ?_))))))))
 rintro _ H2 ⟨r1, rfl, h⟩
 refine Za (GL.nil (GC.seq (Zo (Zm (Zi (.bool ((r1 : Int) == (-1))) (GL.nil ?_))))))
 refine Zd (fun hc3 => ?_) fun hc3 => ?_
 replace h := h.1 hc3
 refine Zo (Zm (Za (GL.nil ?_)))
 exact GC.ret (fun _ _ hf hs => post_tmp1 rfl rfl hf hs ⟨p_s, rfl, h⟩)
 replace h := h.2 hc3
 refine GC.skip (GC.seq (Zo (Zm (Zi (.int .i64 (w .i64 (r1 + 1))) (Za (GL.nil (GC.block (GC.loop (α := Int × Int) h (fun x4 => [(5, .int .i64 x4.1), (6, .int .i64 x4.2), (0, slv p_s), (1, p_del)]) ⟨rfl, rfl, rfl, rfl, trivial⟩ ?_))))))))
 intro x4 H6 J5 h
 refine GC.seq (Zo (Zm (Zm (Zq (Zi (.bool (decide ((x4.2 : Int) < (Sl.len p_s : Int)))) (GL.nil ?_))))))
 refine Zd (fun hc7 => ?_) fun hc7 => ?_
 replace h := h.1 hc7
 refine GC.skip ?_
 obtain ⟨J8, h, hR11⟩ := h
 refine GC.join (α := Int) J8 (fun x9 => [(5, .int .i64 x9), (0, slv p_s), (1, p_del), (6, .int .i64 x4.2)]) ?_ ?_
 refine GC.block (Zo (Zm (Zm ?_)))
 obtain ⟨p12, ha13, hb14, hc15, hd16, h⟩ := h
 refine Zx ha13 hb14 hc15 hd16 ?_
 obtain ⟨x17, hr18, h⟩ := h
 refine Zv (OV.loadT rfl rfl rfl hr18) (GL.alloc (cs := T_zset_Entry.c T_zset_Entry.zero) h trivial rfl rfl rfl ?_)
 intro b19 H20 h
 refine GL.storeT (p := (b19, 0)) (vs := T_zset_Entry.c x17) h trivial rfl rfl rfl rfl ?_
 intro H21 h
 refine GL.nil (Zo (Zm ?_))
 obtain ⟨x22, hr23, h⟩ := h
 refine Zv (OV.loadT rfl rfl rfl hr23) (GL.callU (xv := p_del) (vs := [.agg (T_zset_Entry.c x22).toArray]) h trivial rfl rfl rfl ?_)
 rintro _ H25 ⟨r24, rfl, h⟩
 refine Zv (OV.not rfl) (GL.nil ?_)
 refine Zd (fun hc26 => ?_) fun hc26 => ?_
 replace h := h.1 hc26
 refine Zo (Zm (Zm ?_))
 obtain ⟨x27, hr28, h⟩ := h
 refine Zv (OV.loadT rfl rfl rfl hr28) ?_
 obtain ⟨p29, ha30, hb31, hc32, hd33, h⟩ := h
 refine Zx ha30 hb31 hc32 hd33 (GL.storeT (p := (p29.1, p29.2 + (x4.1 : Int).toNat * 2)) (vs := T_zset_Entry.c x27) h trivial rfl rfl rfl rfl ?_)
 intro H34 h
 refine GL.nil (GC.region (Zm (Zi (.int .i64 (w .i64 (x4.1 + 1))) (Za ?_))))
 exact GL.jump (fun _ _ h => h) (w .i64 (x4.1 + 1)) h ⟨rfl, rfl, rfl, rfl, trivial⟩
 replace h := h.2 hc26
 exact GC.jump (fun _ _ h => h) x4.1 h ⟨rfl, rfl, rfl, rfl, trivial⟩
 intro x9 H10 h
 replace h := hR11 x9 H10 h
 refine GC.region (Zm (Zi (.int .i64 (w .i64 (x4.2 + 1))) (Za ?_)))
 exact GL.jump (fun _ _ h => h) (x9, (w .i64 (x4.2 + 1))) h ⟨rfl, rfl, rfl, rfl, trivial⟩
 replace h := h.2 hc7
 refine GC.exit_to (fun _ _ h => h) (Zo (Zm (Zm ?_)))
 obtain ⟨h36, h37, h38, h39, t35, h40, h⟩ := h
 refine Zv (OV.sliceSl (s := p_s) h36 h37 h38 h39 h40 rfl rfl rfl rfl rfl rfl rfl (fun h => by first | rfl | cases h) rfl rfl) (GL.clear (s := t35) (zc := T_zset_Entry.c T_zset_Entry.zero) (bytes := 32) h trivial rfl ⟨⟨_, _, _, rfl, rfl, rfl, rfl, rfl, rfl⟩⟩ rfl ?_)
 intro H41 h
 refine GL.nil (Zo (Zm (Zm ?_)))
 obtain ⟨h43, h44, h45, h46, t42, h47, h⟩ := h
 refine Zv (OV.sliceSl (s := p_s) h43 h44 h45 h46 h47 rfl rfl rfl rfl rfl rfl rfl (fun h => by first | rfl | cases h) rfl rfl) (Za (GL.nil ?_))
 exact GC.ret (fun _ _ hf hs => post_tmp1 rfl rfl hf hs ⟨t42, rfl, h⟩)
def sh_zset_Distinct_1 (C : Ctx) (p_x : T_zset_Entry) (K : Bool → Heap → Prop) (H : Heap) : Prop :=
 nw (T_zset_Entry.c p_x) (fun b1 H2 =>
 ldI H2 .i64 ((b1, 0).1, (b1, 0).2 + 1) fun x3 =>
 K (decide ((x3 : Int) < 0)) H2) H
theorem ad_zset_Distinct_1 (C : Ctx) (p_x : T_zset_Entry) (K : Bool → Heap → Prop) (H : Heap) (h : sh_zset_Distinct_1 C p_x K H) : c_zset_Distinct_1 C p_x K H := by
 refine Spec.enter Tryz.func49 rfl Tryz.ntmps49 rfl (GC.sub [(0, .agg (T_zset_Entry.c p_x).toArray)] ⟨rfl, trivial⟩ (Zo (GL.box (v := .agg (T_zset_Entry.c p_x).toArray) (cs := T_zset_Entry.c p_x) h trivial rfl rfl rfl ?_)))
 intro b1 H2 h
 refine Za (GL.nil (Zo (Zf ?_)))
 obtain ⟨x3, hr4, h⟩ := h
 refine Zl hr4 (Zi (.bool (decide ((x3 : Int) < 0))) (Za (GL.nil ?_)))
 exact GC.ret (fun _ _ hf hs => post_tmp1 rfl rfl hf hs ⟨(decide ((x3 : Int) < 0)), rfl, h⟩)
def sh_law24_weight (C : Ctx) (p_v : T_api_Value) (p_most : Int) (K : Int → Heap → Prop) (H : Heap) : Prop :=
 nw (T_api_Value.c p_v) (fun b1 H2 =>
 ldS H2 ((b1, 0).1, (b1, 0).2 + 2) fun x3 =>
 lp (α := Int × Int) ((w .i64 (1 + (w .i64 (Int.tdiv (List.length x3 : Int) 50)))), 0) H2 (fun x5 J6 H7 =>
 ldL H7 ((b1, 0).1, (b1, 0).2 + 3) fun x8 =>
 ift ((decide ((x5.2 : Int) < (Sl.len x8 : Int))) && (decide ((x5.1 : Int) < p_most)))
 (ldL H7 ((b1, 0).1, (b1, 0).2 + 3) fun x12 =>
 ixa x12 x5.2 fun p14 =>
 ldT H7 T_api_Value.c (p14.1, p14.2 + (x5.2 : Int).toNat * 4) fun x19 =>
 c_law24_weight C x19 (w .i64 (p_most - x5.1)) (fun r21 H22 =>
 J6 ((w .i64 (x5.1 + r21)), (w .i64 (x5.2 + 1))) H22) H7)
 (K x5.1 H7))) H
theorem ad_law24_weight (C : Ctx) (p_v : T_api_Value) (p_most : Int) (K : Int → Heap → Prop) (H : Heap) (h : sh_law24_weight C p_v p_most K H) : c_law24_weight C p_v p_most K H := by
 refine Spec.enter Tryz.func50 rfl Tryz.ntmps50 rfl (GC.sub [(0, .agg (T_api_Value.c p_v).toArray), (1, .int .i64 p_most)] ⟨rfl, rfl, trivial⟩ (Zo (GL.box (v := .agg (T_api_Value.c p_v).toArray) (cs := T_api_Value.c p_v) h trivial rfl rfl rfl ?_)))
 intro b1 H2 h
 refine Za (GL.nil (Zo (Zf ?_)))
 obtain ⟨x3, hr4, h⟩ := h
 refine Zl hr4 (Zr (Zv (OV.quo rfl rfl (by decide)) (Zi (.int .i64 (w .i64 (1 + (w .i64 (Int.tdiv (List.length x3 : Int) 50))))) (Za (GL.nil (GC.seq (Zo (Za (GL.nil (GC.block (GC.loop (α := Int × Int) h (fun x5 => [(5, .int .i64 x5.1), (6, .int .i64 x5.2), (1, .int .i64 p_most), (2, pv (some (b1, 0)))]) ⟨rfl, rfl, rfl, rfl, trivial⟩ ?_)))))))))))
 intro x5 H7 J6 h
 refine GC.seq (Zo (Zm (Zf ?_)))
 obtain ⟨x8, hr9, h⟩ := h
 refine Zl hr9 (Zq (Zi (.bool (decide ((x5.2 : Int) < (Sl.len x8 : Int)))) (Zm ?_)))
 refine GL.cut0 4 [(21, .bool ((decide ((x5.2 : Int) < (Sl.len x8 : Int))) && (decide ((x5.1 : Int) < p_most)))), (1, .int .i64 p_most), (2, pv (some (b1, 0))), (5, .int .i64 x5.1), (6, .int .i64 x5.2)] ?_ ?_
 rcases Zb (decide ((x5.2 : Int) < (Sl.len x8 : Int))) with hc10 | hc10
 refine Zu hc10 (OV.move rfl) (Zu hc10 (OV.move rfl) (Zu hc10 (OV.ibin (v := .bool (decide ((x5.1 : Int) < p_most))) rfl rfl rfl) (Zt hc10 ?_)))
 exact GL.jump0 (fun _ _ h => h) () rfl ⟨(by rw [hc10]; rfl), rfl, rfl, rfl, rfl, trivial⟩
 refine Zk hc10 (Zk hc10 (Zk hc10 (Zn hc10 ?_)))
 exact GL.jump0 (fun _ _ h => h) () rfl ⟨(by rw [hc10]; rfl), rfl, rfl, rfl, rfl, trivial⟩
 refine GL.nil ?_
 refine Zd (fun hc11 => ?_) fun hc11 => ?_
 replace h := h.1 hc11
 refine GC.skip (GC.seq (GC.block (GC.region (Zm (Zf ?_)))))
 obtain ⟨x12, hr13, h⟩ := h
 refine Zl hr13 (Zm ?_)
 obtain ⟨p14, ha15, hb16, hc17, hd18, h⟩ := h
 refine Zx ha15 hb16 hc17 hd18 ?_
 obtain ⟨x19, hr20, h⟩ := h
 refine Zv (OV.loadT rfl rfl rfl hr20) (Zm (Zm (Zi (.int .i64 (w .i64 (p_most - x5.1))) (Zc h ok_law24_weight ?_))))
 rintro _ H22 ⟨r21, rfl, h⟩
 refine Zi (.int .i64 (w .i64 (x5.1 + r21))) (Za (GL.nil_to (fun _ _ h => h) (GC.region (Zm (Zi (.int .i64 (w .i64 (x5.2 + 1))) (Za ?_))))))
 exact GL.jump (fun _ _ h => h) ((w .i64 (x5.1 + r21)), (w .i64 (x5.2 + 1))) h ⟨rfl, rfl, rfl, rfl, trivial⟩
 replace h := h.2 hc11
 refine GC.exit_to (fun _ _ h => h) (Zo (Zm (Za (GL.nil ?_))))
 exact GC.ret (fun _ _ hf hs => post_tmp1 rfl rfl hf hs ⟨x5.1, rfl, h⟩)
def sh_zset_sums (C : Ctx) (p_parts : Sl) (K : Sl → Int → Heap → Prop) (H : Heap) : Prop :=
 nw ([slv Sl.nil]) (fun b1 H2 =>
 nw ([.int .i64 0]) (fun b3 H4 =>
 nw ([slv Sl.nil]) (fun b5 H6 =>
 nw ([.int .i64 0]) (fun b7 H8 =>
 st (b7, 0) (.int .i64 0) (fun H9 =>
 c_zset_each C p_parts (fun r10 H11 =>
 Rf.rng Tryz.prog C r10 2 H11
 (fun yl15 r16 us K19 H20 => ∃ (u12 : T_zset_Entry) (u13 : Value), us = [.agg (T_zset_Entry.c u12).toArray, u13] ∧
 nw (T_zset_Entry.c T_zset_Entry.zero) (fun b38 H39 =>
 stT (b38, 0) (T_zset_Entry.c u12) (fun H40 =>
 H40 yl15 = some (true, Rf.lrec r16 .ready none) ∧
 ldL (Heap.put H40 yl15 (Rf.lrec r16 .busy none)) ((b38, 0).1, (b38, 0).2 + 0) fun x43 =>
 c_slices_ContainsFunc_api_Value_api_Value C x43 (.func (.func 68) (List.toArray []) (List.toArray []) : Value) (fun r45 H46 =>
 ift r45
 (st (b1, 0) (slv Sl.nil) (fun H48 =>
 st (b3, 0) (.int .i64 4) (fun H49 =>
 H49 yl15 = some (true, Rf.lrec r16 .busy none) ∧ K19 false (Heap.put H49 yl15 (Rf.lrec r16 .done (some .ret)))) H48) H46)
 (jn (α := Unit) (fun x51 H52 =>
 dr H52 fun Hs60 =>
 ldL Hs60 (b5, 0) fun x62 =>
 ldL Hs60 ((b38, 0).1, (b38, 0).2 + 0) fun x64 =>
 ldI Hs60 .i64 ((b38, 0).1, (b38, 0).2 + 1) fun x66 =>
 callU Tryz.prog C u13 [.int .i64 x66] H52 (fun v H70 => ∃ (r69 : Int), v = .int .i64 r69 ∧
 Heap.le Hs60 H70 ∧
 nw ((T_zset_Entry.c (⟨x64, r69⟩ : T_zset_Entry)) ++ []) (fun b72 H73 =>
 Heap.le Hs60 H73 ∧
 apS (T_zset_Entry.c T_zset_Entry.zero) 32 x62 (Sl.of (some (b72, 0)) 1 1) (fun r75 H76 =>
 Heap.le Hs60 H76 ∧
 st (b5, 0) (slv r75) (fun H77 =>
 H77 yl15 = some (true, Rf.lrec r16 .busy none) ∧ K19 true (Heap.put H77 yl15 (Rf.lrec r16 .ready none))) H76) H73) H70))
 (fun J50 => ldI H46 .i64 ((b38, 0).1, (b38, 0).2 + 1) fun x54 =>
 c_zset_out C x54 (fun r56 H57 =>
 ift r56
 (st (b7, 0) (.int .i64 80) (fun H59 =>
 J50 () H59) H57)
 (J50 () H57)) H46))) (Heap.put H40 yl15 (Rf.lrec r16 .busy none))) H39) H20)
 (fun D14 H227 =>
 ldI H227 .i64 (b7, 0) fun x84 =>
 ift ((x84 : Int) != 0)
 (dr H227 fun Hs87 =>
 (ldI H227 .i64 (b7, 0) fun x90 =>
 Heap.le Hs87 H227 ∧
 st (b1, 0) (slv Sl.nil) (fun H93 =>
 Heap.le Hs87 H93 ∧
 st (b3, 0) (.int .i64 x90) (fun H94 =>
 Rf.mk1 H94 D14 (fun Hm95 =>
 ldL Hm95 (b1, 0) fun x99 => ldI Hm95 .i64 (b3, 0) fun x101 =>
 K x99 x101 Hm95)) H93) H227) ∧
 (st (b1, 0) (slv Sl.nil) (fun H104 =>
 Heap.le Hs87 H104 ∧
 ldI H104 .i64 (b7, 0) fun x106 =>
 Heap.le Hs87 H104 ∧
 st (b3, 0) (.int .i64 x106) (fun H108 =>
 Rf.mk1 H108 D14 (fun Hm109 =>
 ldL Hm109 (b1, 0) fun x113 => ldI Hm109 .i64 (b3, 0) fun x115 =>
 K x113 x115 Hm109)) H104) H227))
 (ldL H227 (b5, 0) fun x117 =>
 c_slices_SortStableFunc_zset_Entry_zset_Entry C x117 (.func (.func 71) (List.toArray []) (List.toArray []) : Value) (fun H119 =>
 lp (α := Sl) Sl.nil H119 (fun x120 J121 H122 =>
 ldL H122 (b5, 0) fun x123 =>
 ift (decide (((Sl.len x123 : Int) : Int) > 0))
 (lp (α := Int × Int) (0, 0) H122 (fun x126 J127 H128 =>
 jn (α := Bool) (fun x130 H131 =>
 ift x130
 (ldL H131 (b5, 0) fun x160 =>
 ixa x160 x126.1 fun p162 =>
 ldI H131 .i64 ((p162.1, p162.2 + (x126.1 : Int).toNat * 2).1, (p162.1, p162.2 + (x126.1 : Int).toNat * 2).2 + 1) fun x167 =>
 J127 ((w .i64 (x126.1 + 1)), (w .i64 (x126.2 + x167))) H131)
 (c_zset_out C x126.2 (fun r169 H170 =>
 ift r169
 (st (b1, 0) (slv Sl.nil) (fun H172 =>
 st (b3, 0) (.int .i64 80) (fun H173 =>
 Rf.mk1 H173 D14 (fun Hm174 =>
 ldL Hm174 (b1, 0) fun x178 => ldI Hm174 .i64 (b3, 0) fun x180 =>
 K x178 x180 Hm174)) H172) H170)
 (jn (α := Sl) (fun x183 H184 =>
 ldL H184 (b5, 0) fun x200 =>
 slL x200 x126.1 (Sl.len x200 : Int) (Sl.cap x200 : Int) 2 fun t202 =>
 st (b5, 0) (slv t202) (fun H208 =>
 J121 x183 H208) H184)
 (fun J182 => ift ((x126.2 : Int) != 0)
 (ldL H170 (b5, 0) fun x187 =>
 ixa x187 0 fun p189 =>
 ldL H170 ((p189.1, p189.2 + (0 : Int).toNat * 2).1, (p189.1, p189.2 + (0 : Int).toNat * 2).2 + 0) fun x194 =>
 c_zset_own C x194 (fun r196 H197 =>
 apd (T_zset_Entry.c T_zset_Entry.zero) 32 x120 ((T_zset_Entry.c (⟨r196, x126.2⟩ : T_zset_Entry)) ++ []) 1 (fun r198 H199 =>
 J182 r198 H199) H197) H170)
 (J182 x120 H170)))) H131))
 (fun J129 => dr H128 fun Hs133 =>
 ldL Hs133 (b5, 0) fun x135 =>
 ift (decide ((x126.1 : Int) < (Sl.len x135 : Int)))
 (ldL Hs133 (b5, 0) fun x138 =>
 ixa x138 0 fun p140 =>
 ldL Hs133 ((p140.1, p140.2 + (0 : Int).toNat * 2).1, (p140.1, p140.2 + (0 : Int).toNat * 2).2 + 0) fun x145 =>
 ldL Hs133 (b5, 0) fun x147 =>
 ixa x147 x126.1 fun p149 =>
 ldL Hs133 ((p149.1, p149.2 + (x126.1 : Int).toNat * 2).1, (p149.1, p149.2 + (x126.1 : Int).toNat * 2).2 + 0) fun x154 =>
 c_value_CmpRows C x145 x154 (fun r157 H158 =>
 Heap.le Hs133 H158 ∧
 J129 ((r157 : Int) == 0) H158) H128)
 (J129 false H128))))
 (st (b1, 0) (slv x120) (fun H209 =>
 st (b3, 0) (.int .i64 0) (fun H210 =>
 Rf.mk1 H210 D14 (fun Hm211 =>
 ldL Hm211 (b1, 0) fun x215 => ldI Hm211 .i64 (b3, 0) fun x217 =>
 K x215 x217 Hm211)) H209) H122))) H227))
 (fun D14 H228 =>
 Rf.mk1 H228 D14 (fun Hm219 =>
 ldL Hm219 (b1, 0) fun x223 => ldI Hm219 .i64 (b3, 0) fun x225 =>
 K x223 x225 Hm219))) H9) H8) H6) H4) H2) H
theorem ad_zset_sums (C : Ctx) (p_parts : Sl) (K : Sl → Int → Heap → Prop) (H : Heap) (h : sh_zset_sums C p_parts K H) : c_zset_sums C p_parts K H := by
 refine Rf.Spec.enterI Tryz.func51 rfl Tryz.ntmps51 rfl ?_
 refine Rf.GI.sub [(0, slv p_parts)] ⟨rfl, trivial⟩ ?_
 refine Rf.GI.seq ?_
 refine Rf.GI.region (fun _ _ h => h) rfl ?_
 refine GL.alloc (cs := [slv Sl.nil]) h trivial rfl rfl rfl ?_
 intro b1 H2 h
 refine GL.alloc (cs := [.int .i64 0]) h trivial rfl rfl rfl ?_
 intro b3 H4 h
 refine Rf.GI.nil ?_
 refine Rf.GI.seq ?_
 refine Rf.GI.region (fun _ _ h => h) rfl ?_
 refine GL.alloc (cs := [slv Sl.nil]) h trivial rfl rfl rfl ?_
 intro b5 H6 h
 refine Rf.GI.nil ?_
 refine Rf.GI.seq ?_
 refine Rf.GI.region (fun _ _ h => h) rfl ?_
 refine GL.alloc (cs := [.int .i64 0]) h trivial rfl rfl rfl ?_
 intro b7 H8 h
 refine GL.store (p := (b7, 0)) (v := .int .i64 0) h trivial rfl rfl rfl rfl ?_
 intro H9 h
 refine Rf.GI.nil ?_
 refine Rf.GI.seq ?_
 refine Rf.GI.seq ?_
 refine Rf.GI.region (fun _ _ h => h) rfl ?_
 refine GL.val trivial rfl (OV.move (v := slv p_parts) rfl) ?_
 refine GL.call h trivial rfl ok_zset_each (vs := [slv p_parts]) rfl ?_
 rintro _ H11 ⟨r10, rfl, h⟩
 refine Rf.GI.nil ?_
 refine Rf.GI.block ?_
 obtain ⟨gf22, xb23, hv24, hok25, h⟩ := h
 refine Rf.GI.rangeFunc (gf := gf22) (xb := xb23) (congrArg some hv24) hok25 ?_
 intro D14 yl15 r16 hD26 hyl27 hne28 hr18 hra29 hrb30 hfr31
 obtain ⟨Y17, hY32, h⟩ := h D14 yl15 r16 hD26 hyl27 hne28
 have hyy36 : Rf.YldS Tryz.prog C yl15 Y17 := by
  refine Rf.YldS.rounds hfr31 (by rw [hr18]; rfl) ?_
  intro us33 K19 H20 hz37
  obtain ⟨q34, q35, h⟩ := hY32 us33 K19 H20 hz37
  refine ⟨q34, by rw [hr18]; exact q35, ?_⟩
  obtain ⟨u12, u13, rfl, h⟩ := h
  rw [hr18, hra29]
  refine Rf.GI.sub [(2, pv (some (b1, 0))), (3, pv (some (b3, 0))), (4, pv (some (b5, 0))), (5, pv (some (b7, 0))), (13, .agg (T_zset_Entry.c u12).toArray), (14, u13)] ⟨rfl, rfl, rfl, rfl, rfl, rfl, trivial⟩ ?_
  refine Rf.GI.seq ?_
  refine Rf.GI.region (fun _ _ h => h) rfl ?_
  refine GL.alloc (cs := T_zset_Entry.c T_zset_Entry.zero) h trivial rfl rfl rfl ?_
  intro b38 H39 h
  refine GL.storeT (p := (b38, 0)) (vs := T_zset_Entry.c u12) h trivial rfl rfl rfl rfl ?_
  intro H40 h
  refine Rf.GI.nil ?_
  refine Rf.GI.region (fun _ _ h => h) rfl ?_
  refine GL.val trivial rfl (OV.assign (v := u13) rfl) ?_
  obtain ⟨q41, h⟩ := h
  refine Rf.RA.mk q41 ?_
  rw [hrb30]
  refine Rf.GI.block ?_
  refine Rf.GI.seq ?_
  refine Rf.GI.seq ?_
  refine Rf.GI.region (fun _ _ h => h) rfl ?_
  refine GL.val trivial rfl (OV.fieldAddr (p := (b38, 0)) rfl rfl) ?_
  obtain ⟨x43, hr44, h⟩ := h
  refine GL.val trivial rfl (OV.load (p := ((b38, 0).1, (b38, 0).2 + 0)) rfl rfl hr44) ?_
  refine GL.call h trivial rfl ok_slices_ContainsFunc_api_Value_api_Value (vs := [slv x43, .func (.func 68) (List.toArray []) (List.toArray [])]) rfl ?_
  rintro _ H46 ⟨r45, rfl, h⟩
  refine Rf.GI.nil ?_
  refine Rf.GI.cond (b := r45) rfl (fun hc47 => ?_) (fun hc47 => ?_)
  ·replace h := And.left h hc47
   refine Rf.GI.seq ?_
   refine Rf.GI.region (fun _ _ h => h) rfl ?_
   refine GL.store (p := (b1, 0)) (v := slv Sl.nil) h trivial rfl rfl rfl rfl ?_
   intro H48 h
   refine GL.store (p := (b3, 0)) (v := .int .i64 4) h trivial rfl rfl rfl rfl ?_
   intro H49 h
   refine Rf.GI.nil ?_
   exact Rf.GI.ret (fun _ _ hf hs => ⟨_, hs, h⟩)
  ·replace h := And.right h hc47
   refine Rf.GI.skip ?_
   obtain ⟨J50, h, hR53⟩ := h
   refine Rf.GI.join (α := Unit) J50 (fun _ => [(2, pv (some (b1, 0))), (3, pv (some (b3, 0))), (4, pv (some (b5, 0))), (6, pv (some (b38, 0))), (7, u13)]) ?_ ?_
   ·skip
    refine Rf.GI.seq ?_
    refine Rf.GI.region (fun _ _ h => h) rfl ?_
    refine GL.val trivial rfl (OV.fieldAddr (p := (b38, 0)) rfl rfl) ?_
    obtain ⟨x54, hr55, h⟩ := h
    refine GL.val trivial rfl (OV.load (p := ((b38, 0).1, (b38, 0).2 + 1)) rfl rfl hr55) ?_
    refine GL.call h trivial rfl ok_zset_out (vs := [.int .i64 x54]) rfl ?_
    rintro _ H57 ⟨r56, rfl, h⟩
    refine Rf.GI.nil ?_
    refine Rf.GI.cond (b := r56) rfl (fun hc58 => ?_) (fun hc58 => ?_)
    ·replace h := And.left h hc58
     refine Rf.GI.region (fun _ _ h => h) rfl ?_
     refine GL.store (p := (b7, 0)) (v := .int .i64 80) h trivial rfl rfl rfl rfl ?_
     intro H59 h
     exact GL.jump (fun _ _ h => h) () h ⟨rfl, rfl, rfl, rfl, rfl, trivial⟩
    ·replace h := And.right h hc58
     exact Rf.GI.jump (fun _ _ h => h) () h ⟨rfl, rfl, rfl, rfl, rfl, trivial⟩
   ·intro x51 H52 h
    replace h := hR53 x51 H52 h
    obtain ⟨Hs60, hle61, h⟩ := h
    refine Rf.GI.tail (Hs := Hs60) (fun _ _ h => h) rfl 10 (by kernel_rfl) hle61 (by kernel_rfl) ?_
    obtain ⟨x62, hr63, h⟩ := h
    refine GT.take 0 rfl (by kernel_rfl) (by kernel_rfl) (by kernel_rfl) rfl (fun _ _ _ h => False.elim h) trivial rfl (OV.load (p := (b5, 0)) rfl rfl hr63) ?_
    refine GT.take 1 rfl (by kernel_rfl) (by kernel_rfl) (by kernel_rfl) rfl (fun _ _ _ h => False.elim h) trivial rfl (OV.fieldAddr (p := (b38, 0)) rfl rfl) ?_
    obtain ⟨x64, hr65, h⟩ := h
    refine GT.take 2 rfl (by kernel_rfl) (by kernel_rfl) (by kernel_rfl) rfl (fun _ _ _ h => False.elim h) trivial rfl (OV.load (p := ((b38, 0).1, (b38, 0).2 + 0)) rfl rfl hr65) ?_
    refine GT.take 3 rfl (by kernel_rfl) (by kernel_rfl) (by kernel_rfl) rfl (fun _ _ _ h => False.elim h) trivial rfl (OV.move (v := u13) rfl) ?_
    refine GT.take 4 rfl (by kernel_rfl) (by kernel_rfl) (by kernel_rfl) rfl (fun _ _ _ h => False.elim h) trivial rfl (OV.fieldAddr (p := (b38, 0)) rfl rfl) ?_
    obtain ⟨x66, hr67, h⟩ := h
    refine GT.take 5 rfl (by kernel_rfl) (by kernel_rfl) (by kernel_rfl) rfl (fun _ _ _ h => False.elim h) trivial rfl (OV.load (p := ((b38, 0).1, (b38, 0).2 + 1)) rfl rfl hr67) ?_
    refine GT.eff 6 rfl (by kernel_rfl) rfl ?_
    refine GL.callU (xv := u13) (vs := [.int .i64 x66]) h trivial rfl rfl rfl ?_
    rintro _ H70 ⟨r69, rfl, h⟩
    obtain ⟨hle68, h⟩ := h
    refine GT.back hle68 ?_
    refine GT.take 7 rfl (by kernel_rfl) (by kernel_rfl) (by kernel_rfl) rfl (fun _ _ _ h => False.elim h) trivial rfl (OV.build (vs := [(0, slv x64), (1, .int .i64 r69)]) (v := .agg (T_zset_Entry.c (⟨x64, r69⟩ : T_zset_Entry)).toArray) rfl (fun _ => by kernel_rfl)) ?_
    refine GT.eff 8 rfl (by kernel_rfl) rfl ?_
    refine GL.buildSlice (cs := (T_zset_Entry.c (⟨x64, r69⟩ : T_zset_Entry)) ++ []) h trivial rfl (vs := [(0, .agg (T_zset_Entry.c (⟨x64, r69⟩ : T_zset_Entry)).toArray)]) rfl ⟨47, fun _ => by kernel_rfl⟩ ?_
    intro b72 H73 h
    obtain ⟨hle71, h⟩ := h
    refine GT.back hle71 ?_
    refine GT.eff 9 rfl (by kernel_rfl) rfl ?_
    refine GL.appendS (s := x62) (s2 := (Sl.of (some (b72, 0)) 1 1)) (zc := T_zset_Entry.c T_zset_Entry.zero) (bytes := 32) h trivial rfl rfl rfl ⟨⟨_, _, _, rfl, rfl, rfl, rfl, rfl, rfl⟩⟩ rfl ?_
    intro r75 H76 h
    obtain ⟨hle74, h⟩ := h
    refine GT.back hle74 ?_
    refine GT.done (by kernel_rfl) ?_
    show GL _ _ _ _ _ [_] _ _
    refine GL.store (p := (b5, 0)) (v := slv r75) h trivial rfl rfl rfl rfl ?_
    intro H77 h
    exact GL.ends (fun _ _ hf hs => ⟨_, hs, h⟩)
 refine Spec.mono (h hyy36) fun u78 H79 h => ?_
 obtain ⟨st80, pend81, k82, k83, ⟨rfl, h⟩ | ⟨rfl, h⟩⟩ := h
 ·refine Rf.RK.nrm (P := Tryz.prog) k82 k83 ?_
  refine Rf.GI.nil_to (fun _ _ h => h) ?_
  refine Rf.GI.seq ?_
  refine Rf.GI.seq ?_
  refine Rf.GI.region (fun _ _ h => h) rfl ?_
  obtain ⟨x84, hr85, h⟩ := h
  refine GL.val trivial rfl (OV.load (p := (b7, 0)) rfl rfl hr85) ?_
  refine GL.val trivial rfl (OV.ibin (v := .bool ((x84 : Int) != 0)) rfl rfl rfl) ?_
  refine Rf.GI.nil ?_
  refine Rf.GI.cond (b := (x84 : Int) != 0) rfl (fun hc86 => ?_) (fun hc86 => ?_)
  ·replace h := And.left h hc86
   refine Rf.GI.seq ?_
   obtain ⟨Hs87, hle88, h⟩ := h
   refine Rf.GI.tail (Hs := Hs87) (fun _ _ h => h) rfl 2 (by kernel_rfl) hle88 (by kernel_rfl) ?_
   refine GT.effs [0, 1] (by kernel_rfl) (by simp) (List.forall_mem_cons.2 ⟨⟨_, rfl, rfl, ?_⟩, List.forall_mem_cons.2 ⟨⟨_, rfl, rfl, ?_⟩, fun _ h => by cases h⟩⟩)
   ·replace h := h.1
    obtain ⟨x90, hr91, h⟩ := h
    refine GL.val trivial rfl (OV.load (p := (b7, 0)) rfl rfl hr91) ?_
    obtain ⟨hle89, h⟩ := h
    refine GT.back hle89 ?_
    refine GT.eff 1 rfl (by kernel_rfl) rfl ?_
    refine GL.store (p := (b1, 0)) (v := slv Sl.nil) h trivial rfl rfl rfl rfl ?_
    intro H93 h
    obtain ⟨hle92, h⟩ := h
    refine GT.back hle92 ?_
    refine GT.done (by kernel_rfl) ?_
    show GL _ _ _ _ _ [_] _ _
    refine GL.store (p := (b3, 0)) (v := .int .i64 x90) h trivial rfl rfl rfl rfl ?_
    intro H94 h
    refine Rf.GI.nil ?_
    obtain ⟨Hm95, hle96, h97, hd98, h⟩ := h
    refine Rf.GI.ret (fun _ _ hf hs => ?_)
    refine Rf.post_mark1 hf hs hle96 h97 hd98 ?_
    obtain ⟨x99, hr100, h⟩ := h
    obtain ⟨x101, hr102, h⟩ := h
    exact (fun _ _ hf hs => post_res2 rfl (RV.cell (p := (b1, 0)) rfl rfl hr100) (RV.cell (p := (b3, 0)) rfl rfl hr102) hf hs ⟨x99, x101, rfl, h⟩)
   ·replace h := h.2
    refine GL.store (p := (b1, 0)) (v := slv Sl.nil) h trivial rfl rfl rfl rfl ?_
    intro H104 h
    obtain ⟨hle103, h⟩ := h
    refine GT.back hle103 ?_
    refine GT.eff 0 rfl (by kernel_rfl) rfl ?_
    obtain ⟨x106, hr107, h⟩ := h
    refine GL.val trivial rfl (OV.load (p := (b7, 0)) rfl rfl hr107) ?_
    obtain ⟨hle105, h⟩ := h
    refine GT.back hle105 ?_
    refine GT.done (by kernel_rfl) ?_
    show GL _ _ _ _ _ [_] _ _
    refine GL.store (p := (b3, 0)) (v := .int .i64 x106) h trivial rfl rfl rfl rfl ?_
    intro H108 h
    refine Rf.GI.nil ?_
    obtain ⟨Hm109, hle110, h111, hd112, h⟩ := h
    refine Rf.GI.ret (fun _ _ hf hs => ?_)
    refine Rf.post_mark1 hf hs hle110 h111 hd112 ?_
    obtain ⟨x113, hr114, h⟩ := h
    obtain ⟨x115, hr116, h⟩ := h
    exact (fun _ _ hf hs => post_res2 rfl (RV.cell (p := (b1, 0)) rfl rfl hr114) (RV.cell (p := (b3, 0)) rfl rfl hr116) hf hs ⟨x113, x115, rfl, h⟩)
  ·replace h := And.right h hc86
   refine Rf.GI.skip ?_
   refine Rf.GI.seq ?_
   refine Rf.GI.region (fun _ _ h => h) rfl ?_
   obtain ⟨x117, hr118, h⟩ := h
   refine GL.val trivial rfl (OV.load (p := (b5, 0)) rfl rfl hr118) ?_
   refine GL.call h trivial rfl ok_slices_SortStableFunc_zset_Entry_zset_Entry (vs := [slv x117, .func (.func 71) (List.toArray []) (List.toArray [])]) rfl ?_
   rintro _ H119 ⟨rfl, h⟩
   refine Rf.GI.nil ?_
   refine Rf.GI.seq ?_
   refine Rf.GI.region (fun _ _ h => h) rfl ?_
   refine GL.val trivial rfl (OV.assign (v := slv Sl.nil) rfl) ?_
   refine Rf.GI.nil ?_
   refine Rf.GI.seq ?_
   refine Rf.GI.block ?_
   refine Rf.GI.loop (α := Sl) h (fun x120 => [(8, slv x120), (2, pv (some (b1, 0))), (3, pv (some (b3, 0))), (4, pv (some (b5, 0)))]) ⟨rfl, rfl, rfl, rfl, trivial⟩ ?_
   intro x120 H122 J121 h
   refine Rf.GI.seq ?_
   refine Rf.GI.seq ?_
   refine Rf.GI.region (fun _ _ h => h) rfl ?_
   obtain ⟨x123, hr124, h⟩ := h
   refine GL.val trivial rfl (OV.load (p := (b5, 0)) rfl rfl hr124) ?_
   refine GL.val trivial rfl (OV.lenSl (s := x123) rfl rfl) ?_
   refine GL.val trivial rfl (OV.ibin (v := .bool (decide (((Sl.len x123 : Int) : Int) > 0))) rfl rfl rfl) ?_
   refine Rf.GI.nil ?_
   refine Rf.GI.cond (b := decide (((Sl.len x123 : Int) : Int) > 0)) rfl (fun hc125 => ?_) (fun hc125 => ?_)
   ·replace h := And.left h hc125
    refine Rf.GI.skip ?_
    refine Rf.GI.block ?_
    refine Rf.GI.seq ?_
    refine Rf.GI.region (fun _ _ h => h) rfl ?_
    refine GL.val trivial rfl (OV.assign (v := .int .i64 0) rfl) ?_
    refine GL.val trivial rfl (OV.assign (v := .int .i64 0) rfl) ?_
    refine Rf.GI.nil ?_
    refine Rf.GI.seq ?_
    refine Rf.GI.block ?_
    refine Rf.GI.loop (α := Int × Int) h (fun x126 => [(9, .int .i64 x126.1), (10, .int .i64 x126.2), (2, pv (some (b1, 0))), (3, pv (some (b3, 0))), (4, pv (some (b5, 0))), (8, slv x120)]) ⟨rfl, rfl, rfl, rfl, rfl, rfl, trivial⟩ ?_
    intro x126 H128 J127 h
    refine Rf.GI.seq ?_
    refine Rf.GI.seq ?_
    obtain ⟨J129, h, hR132⟩ := h
    refine Rf.GI.meet (α := Bool) J129 (fun x130 => [(55, .bool x130), (2, pv (some (b1, 0))), (3, pv (some (b3, 0))), (4, pv (some (b5, 0))), (8, slv x120), (9, .int .i64 x126.1), (10, .int .i64 x126.2)]) ?_ ?_
    ·skip
     obtain ⟨Hs133, hle134, h⟩ := h
     refine Rf.GI.any (Hs := Hs133) (fun _ _ h => h) rfl (by kernel_rfl) hle134 ?_
     refine GA.take 0 rfl (by kernel_rfl) (by kernel_rfl) (by kernel_rfl) (fun _ _ _ h => False.elim h) trivial rfl (OV.move (v := .int .i64 x126.1) rfl) ?_
     obtain ⟨x135, hr136, h⟩ := h
     refine GA.take 1 rfl (by kernel_rfl) (by kernel_rfl) (by kernel_rfl) (fun _ _ _ h => False.elim h) trivial rfl (OV.load (p := (b5, 0)) rfl rfl hr136) ?_
     refine GA.take 2 rfl (by kernel_rfl) (by kernel_rfl) (by kernel_rfl) (fun _ _ _ h => False.elim h) trivial rfl (OV.lenSl (s := x135) rfl rfl) ?_
     refine GA.take 3 rfl (by kernel_rfl) (by kernel_rfl) (by kernel_rfl) (fun _ _ _ h => False.elim h) trivial rfl (OV.ibin (v := .bool (decide ((x126.1 : Int) < (Sl.len x135 : Int)))) rfl rfl rfl) ?_
     refine GA.take 4 rfl (by kernel_rfl) (by kernel_rfl) (by kernel_rfl) (fun _ _ _ h => False.elim h) trivial rfl (OV.move (v := .bool (decide ((x126.1 : Int) < (Sl.len x135 : Int)))) rfl) ?_
     rcases Bool.eq_false_or_eq_true (decide ((x126.1 : Int) < (Sl.len x135 : Int))) with hc137 | hc137
     ·replace h := And.left h hc137
      obtain ⟨x138, hr139, h⟩ := h
      refine GA.take 5 rfl (by kernel_rfl) (by kernel_rfl) (by kernel_rfl) (fun _ _ _ h => False.elim h) ⟨_, _, rfl, rfl, hc137⟩ rfl (OV.load (p := (b5, 0)) rfl rfl hr139) ?_
      obtain ⟨p140, ha141, hb142, hc143, hd144, h⟩ := h
      refine GA.take 6 rfl (by kernel_rfl) (by kernel_rfl) (by kernel_rfl) (fun _ _ _ h => False.elim h) ⟨_, _, rfl, rfl, hc137⟩ rfl (OV.indexAddr (s := x138) rfl rfl rfl rfl ha141 hb142 hc143 hd144) ?_
      refine GA.take 7 rfl (by kernel_rfl) (by kernel_rfl) (by kernel_rfl) (fun _ _ _ h => False.elim h) ⟨_, _, rfl, rfl, hc137⟩ rfl (OV.fieldAddr (p := (p140.1, p140.2 + (0 : Int).toNat * 2)) rfl rfl) ?_
      obtain ⟨x145, hr146, h⟩ := h
      refine GA.take 8 rfl (by kernel_rfl) (by kernel_rfl) (by kernel_rfl) (fun _ _ _ h => False.elim h) ⟨_, _, rfl, rfl, hc137⟩ rfl (OV.load (p := ((p140.1, p140.2 + (0 : Int).toNat * 2).1, (p140.1, p140.2 + (0 : Int).toNat * 2).2 + 0)) rfl rfl hr146) ?_
      obtain ⟨x147, hr148, h⟩ := h
      refine GA.take 9 rfl (by kernel_rfl) (by kernel_rfl) (by kernel_rfl) (fun _ _ _ h => False.elim h) ⟨_, _, rfl, rfl, hc137⟩ rfl (OV.load (p := (b5, 0)) rfl rfl hr148) ?_
      refine GA.take 10 rfl (by kernel_rfl) (by kernel_rfl) (by kernel_rfl) (fun _ _ _ h => False.elim h) ⟨_, _, rfl, rfl, hc137⟩ rfl (OV.move (v := .int .i64 x126.1) rfl) ?_
      obtain ⟨p149, ha150, hb151, hc152, hd153, h⟩ := h
      refine GA.take 11 rfl (by kernel_rfl) (by kernel_rfl) (by kernel_rfl) (fun _ _ _ h => False.elim h) ⟨_, _, rfl, rfl, hc137⟩ rfl (OV.indexAddr (s := x147) rfl rfl rfl rfl ha150 hb151 hc152 hd153) ?_
      refine GA.take 12 rfl (by kernel_rfl) (by kernel_rfl) (by kernel_rfl) (fun _ _ _ h => False.elim h) ⟨_, _, rfl, rfl, hc137⟩ rfl (OV.fieldAddr (p := (p149.1, p149.2 + (x126.1 : Int).toNat * 2)) rfl rfl) ?_
      obtain ⟨x154, hr155, h⟩ := h
      refine GA.take 13 rfl (by kernel_rfl) (by kernel_rfl) (by kernel_rfl) (fun _ _ _ h => False.elim h) ⟨_, _, rfl, rfl, hc137⟩ rfl (OV.load (p := ((p149.1, p149.2 + (x126.1 : Int).toNat * 2).1, (p149.1, p149.2 + (x126.1 : Int).toNat * 2).2 + 0)) rfl rfl hr155) ?_
      refine GA.eff 14 rfl (by kernel_rfl) ?_
      refine GL.call h ⟨_, _, rfl, rfl, hc137⟩ rfl ok_value_CmpRows (vs := [slv x145, slv x154]) rfl ?_
      rintro _ H158 ⟨r157, rfl, h⟩
      obtain ⟨hle156, h⟩ := h
      refine GA.back hle156 ?_
      refine GA.take 15 rfl (by kernel_rfl) (by kernel_rfl) (by kernel_rfl) (fun _ _ _ h => False.elim h) ⟨_, _, rfl, rfl, hc137⟩ rfl (OV.ibin (v := .bool ((r157 : Int) == 0)) rfl rfl rfl) ?_
      refine GA.take 16 rfl (by kernel_rfl) (by kernel_rfl) (by kernel_rfl) (fun _ _ _ h => False.elim h) trivial rfl (OV.pickT (b := decide ((x126.1 : Int) < (Sl.len x135 : Int))) (v := .bool ((r157 : Int) == 0)) rfl hc137 rfl) ?_
      refine GA.done (by kernel_rfl) ?_
      exact GL.jump (fun _ _ h => h) ((r157 : Int) == 0) h ⟨rfl, rfl, rfl, rfl, rfl, rfl, rfl, trivial⟩
     ·replace h := And.right h hc137
      refine GA.skip 5 rfl (by kernel_rfl) (by kernel_rfl) (by kernel_rfl) (fun _ _ _ h => False.elim h) ⟨_, rfl, .inl ⟨_, rfl, hc137⟩⟩ rfl ?_
      refine GA.skip 6 rfl (by kernel_rfl) (by kernel_rfl) (by kernel_rfl) (fun _ _ _ h => False.elim h) ⟨_, rfl, .inl ⟨_, rfl, hc137⟩⟩ rfl ?_
      refine GA.skip 7 rfl (by kernel_rfl) (by kernel_rfl) (by kernel_rfl) (fun _ _ _ h => False.elim h) ⟨_, rfl, .inl ⟨_, rfl, hc137⟩⟩ rfl ?_
      refine GA.skip 8 rfl (by kernel_rfl) (by kernel_rfl) (by kernel_rfl) (fun _ _ _ h => False.elim h) ⟨_, rfl, .inl ⟨_, rfl, hc137⟩⟩ rfl ?_
      refine GA.skip 9 rfl (by kernel_rfl) (by kernel_rfl) (by kernel_rfl) (fun _ _ _ h => False.elim h) ⟨_, rfl, .inl ⟨_, rfl, hc137⟩⟩ rfl ?_
      refine GA.skip 10 rfl (by kernel_rfl) (by kernel_rfl) (by kernel_rfl) (fun _ _ _ h => False.elim h) ⟨_, rfl, .inl ⟨_, rfl, hc137⟩⟩ rfl ?_
      refine GA.skip 11 rfl (by kernel_rfl) (by kernel_rfl) (by kernel_rfl) (fun _ _ _ h => False.elim h) ⟨_, rfl, .inl ⟨_, rfl, hc137⟩⟩ rfl ?_
      refine GA.skip 12 rfl (by kernel_rfl) (by kernel_rfl) (by kernel_rfl) (fun _ _ _ h => False.elim h) ⟨_, rfl, .inl ⟨_, rfl, hc137⟩⟩ rfl ?_
      refine GA.skip 13 rfl (by kernel_rfl) (by kernel_rfl) (by kernel_rfl) (fun _ _ _ h => False.elim h) ⟨_, rfl, .inl ⟨_, rfl, hc137⟩⟩ rfl ?_
      refine GA.skip 14 rfl (by kernel_rfl) (by kernel_rfl) (by kernel_rfl) (fun _ _ _ h => False.elim h) ⟨_, rfl, .inl ⟨_, rfl, hc137⟩⟩ rfl ?_
      refine GA.skip 15 rfl (by kernel_rfl) (by kernel_rfl) (by kernel_rfl) (fun _ _ _ h => False.elim h) ⟨_, rfl, .inl ⟨_, rfl, hc137⟩⟩ rfl ?_
      refine GA.take 16 rfl (by kernel_rfl) (by kernel_rfl) (by kernel_rfl) (fun _ _ _ h => False.elim h) trivial rfl (OV.pickF (b := decide ((x126.1 : Int) < (Sl.len x135 : Int))) (v := .bool false) rfl hc137 rfl) ?_
      refine GA.done (by kernel_rfl) ?_
      exact GL.jump (fun _ _ h => h) false h ⟨rfl, rfl, rfl, rfl, rfl, rfl, rfl, trivial⟩
    ·intro x130 H131 h
     replace h := hR132 x130 H131 h
     refine Rf.GI.nil ?_
     refine Rf.GI.cond (b := x130) rfl (fun hc159 => ?_) (fun hc159 => ?_)
     ·replace h := And.left h hc159
      refine Rf.GI.skip ?_
      refine Rf.GI.block ?_
      refine Rf.GI.seq ?_
      refine Rf.GI.region (fun _ _ h => h) rfl ?_
      refine GL.val trivial rfl (OV.move (v := .int .i64 x126.2) rfl) ?_
      obtain ⟨x160, hr161, h⟩ := h
      refine GL.val trivial rfl (OV.load (p := (b5, 0)) rfl rfl hr161) ?_
      refine GL.val trivial rfl (OV.move (v := .int .i64 x126.1) rfl) ?_
      obtain ⟨p162, ha163, hb164, hc165, hd166, h⟩ := h
      refine GL.val trivial rfl (OV.indexAddr (s := x160) rfl rfl rfl rfl ha163 hb164 hc165 hd166) ?_
      refine GL.val trivial rfl (OV.fieldAddr (p := (p162.1, p162.2 + (x126.1 : Int).toNat * 2)) rfl rfl) ?_
      obtain ⟨x167, hr168, h⟩ := h
      refine GL.val trivial rfl (OV.load (p := ((p162.1, p162.2 + (x126.1 : Int).toNat * 2).1, (p162.1, p162.2 + (x126.1 : Int).toNat * 2).2 + 1)) rfl rfl hr168) ?_
      refine GL.val trivial rfl (OV.ibin (v := .int .i64 (w .i64 (x126.2 + x167))) rfl rfl rfl) ?_
      refine GL.val trivial rfl (OV.assign (v := .int .i64 (w .i64 (x126.2 + x167))) rfl) ?_
      refine Rf.GI.nil ?_
      refine Rf.GI.region (fun _ _ h => h) rfl ?_
      refine GL.val trivial rfl (OV.move (v := .int .i64 x126.1) rfl) ?_
      refine GL.val trivial rfl (OV.ibin (v := .int .i64 (w .i64 (x126.1 + 1))) rfl rfl rfl) ?_
      refine GL.val trivial rfl (OV.assign (v := .int .i64 (w .i64 (x126.1 + 1))) rfl) ?_
      exact GL.jump (fun _ _ h => h) ((w .i64 (x126.1 + 1)), (w .i64 (x126.2 + x167))) h ⟨rfl, rfl, rfl, rfl, rfl, rfl, trivial⟩
     ·replace h := And.right h hc159
      refine Rf.GI.exit_to (fun _ _ h => h) ?_
      refine Rf.GI.seq ?_
      refine Rf.GI.seq ?_
      refine Rf.GI.region (fun _ _ h => h) rfl ?_
      refine GL.val trivial rfl (OV.move (v := .int .i64 x126.2) rfl) ?_
      refine GL.call h trivial rfl ok_zset_out (vs := [.int .i64 x126.2]) rfl ?_
      rintro _ H170 ⟨r169, rfl, h⟩
      refine Rf.GI.nil ?_
      refine Rf.GI.cond (b := r169) rfl (fun hc171 => ?_) (fun hc171 => ?_)
      ·replace h := And.left h hc171
       refine Rf.GI.seq ?_
       refine Rf.GI.region (fun _ _ h => h) rfl ?_
       refine GL.store (p := (b1, 0)) (v := slv Sl.nil) h trivial rfl rfl rfl rfl ?_
       intro H172 h
       refine GL.store (p := (b3, 0)) (v := .int .i64 80) h trivial rfl rfl rfl rfl ?_
       intro H173 h
       refine Rf.GI.nil ?_
       obtain ⟨Hm174, hle175, h176, hd177, h⟩ := h
       refine Rf.GI.ret (fun _ _ hf hs => ?_)
       refine Rf.post_mark1 hf hs hle175 h176 hd177 ?_
       obtain ⟨x178, hr179, h⟩ := h
       obtain ⟨x180, hr181, h⟩ := h
       exact (fun _ _ hf hs => post_res2 rfl (RV.cell (p := (b1, 0)) rfl rfl hr179) (RV.cell (p := (b3, 0)) rfl rfl hr181) hf hs ⟨x178, x180, rfl, h⟩)
      ·replace h := And.right h hc171
       refine Rf.GI.skip ?_
       obtain ⟨J182, h, hR185⟩ := h
       refine Rf.GI.join (α := Sl) J182 (fun x183 => [(8, slv x183), (2, pv (some (b1, 0))), (3, pv (some (b3, 0))), (4, pv (some (b5, 0))), (9, .int .i64 x126.1)]) ?_ ?_
       ·skip
        refine Rf.GI.seq ?_
        refine Rf.GI.region (fun _ _ h => h) rfl ?_
        refine GL.val trivial rfl (OV.move (v := .int .i64 x126.2) rfl) ?_
        refine GL.val trivial rfl (OV.ibin (v := .bool ((x126.2 : Int) != 0)) rfl rfl rfl) ?_
        refine Rf.GI.nil ?_
        refine Rf.GI.cond (b := (x126.2 : Int) != 0) rfl (fun hc186 => ?_) (fun hc186 => ?_)
        ·replace h := And.left h hc186
         refine Rf.GI.region (fun _ _ h => h) rfl ?_
         refine GL.val trivial rfl (OV.move (v := slv x120) rfl) ?_
         obtain ⟨x187, hr188, h⟩ := h
         refine GL.val trivial rfl (OV.load (p := (b5, 0)) rfl rfl hr188) ?_
         obtain ⟨p189, ha190, hb191, hc192, hd193, h⟩ := h
         refine GL.val trivial rfl (OV.indexAddr (s := x187) rfl rfl rfl rfl ha190 hb191 hc192 hd193) ?_
         refine GL.val trivial rfl (OV.fieldAddr (p := (p189.1, p189.2 + (0 : Int).toNat * 2)) rfl rfl) ?_
         obtain ⟨x194, hr195, h⟩ := h
         refine GL.val trivial rfl (OV.load (p := ((p189.1, p189.2 + (0 : Int).toNat * 2).1, (p189.1, p189.2 + (0 : Int).toNat * 2).2 + 0)) rfl rfl hr195) ?_
         refine GL.call h trivial rfl ok_zset_own (vs := [slv x194]) rfl ?_
         rintro _ H197 ⟨r196, rfl, h⟩
         refine GL.val trivial rfl (OV.move (v := .int .i64 x126.2) rfl) ?_
         refine GL.val trivial rfl (OV.build (vs := [(0, slv r196), (1, .int .i64 x126.2)]) (v := .agg (T_zset_Entry.c (⟨r196, x126.2⟩ : T_zset_Entry)).toArray) rfl (fun _ => by kernel_rfl)) ?_
         refine GL.appendLit (s := x120) (ys := (T_zset_Entry.c (⟨r196, x126.2⟩ : T_zset_Entry)) ++ []) (zc := T_zset_Entry.c T_zset_Entry.zero) (bytes := 32) h trivial rfl (fun _ => trivial) rfl (fun _ => rfl) (fun _ => rfl) (vs := [(0, .agg (T_zset_Entry.c (⟨r196, x126.2⟩ : T_zset_Entry)).toArray)]) rfl ⟨47, fun _ => by kernel_rfl⟩ ⟨⟨_, _, _, rfl, rfl, rfl, rfl, rfl, rfl⟩⟩ rfl rfl ?_
         intro _ r198 H199 h
         refine GL.val trivial rfl (OV.assign (v := slv r198) rfl) ?_
         exact GL.jump (fun _ _ h => h) r198 h ⟨rfl, rfl, rfl, rfl, rfl, trivial⟩
        ·replace h := And.right h hc186
         exact Rf.GI.jump (fun _ _ h => h) x120 h ⟨rfl, rfl, rfl, rfl, rfl, trivial⟩
       ·intro x183 H184 h
        replace h := hR185 x183 H184 h
        refine Rf.GI.region (fun _ _ h => h) rfl ?_
        obtain ⟨x200, hr201, h⟩ := h
        refine GL.val trivial rfl (OV.load (p := (b5, 0)) rfl rfl hr201) ?_
        refine GL.val trivial rfl (OV.move (v := .int .i64 x126.1) rfl) ?_
        obtain ⟨h203, h204, h205, h206, t202, h207, h⟩ := h
        refine GL.val trivial rfl (OV.sliceSl (s := x200) h203 h204 h205 h206 h207 rfl rfl rfl rfl rfl rfl rfl (fun h => by first | rfl | cases h) rfl rfl) ?_
        refine GL.store (p := (b5, 0)) (v := slv t202) h trivial rfl rfl rfl rfl ?_
        intro H208 h
        exact GL.jump (fun _ _ h => h) x183 h ⟨rfl, rfl, rfl, rfl, trivial⟩
   ·replace h := And.right h hc125
    refine Rf.GI.exit_to (fun _ _ h => h) ?_
    refine Rf.GI.seq ?_
    refine Rf.GI.region (fun _ _ h => h) rfl ?_
    refine GL.val trivial rfl (OV.move (v := slv x120) rfl) ?_
    refine GL.store (p := (b1, 0)) (v := slv x120) h trivial rfl rfl rfl rfl ?_
    intro H209 h
    refine GL.store (p := (b3, 0)) (v := .int .i64 0) h trivial rfl rfl rfl rfl ?_
    intro H210 h
    refine Rf.GI.nil ?_
    obtain ⟨Hm211, hle212, h213, hd214, h⟩ := h
    refine Rf.GI.ret (fun _ _ hf hs => ?_)
    refine Rf.post_mark1 hf hs hle212 h213 hd214 ?_
    obtain ⟨x215, hr216, h⟩ := h
    obtain ⟨x217, hr218, h⟩ := h
    exact (fun _ _ hf hs => post_res2 rfl (RV.cell (p := (b1, 0)) rfl rfl hr216) (RV.cell (p := (b3, 0)) rfl rfl hr218) hf hs ⟨x215, x217, rfl, h⟩)
 ·refine Rf.RK.ret k82 k83 ?_
  obtain ⟨Hm219, hle220, h221, hd222, h⟩ := h
  refine (fun _ _ hf hs => ?_)
  refine Rf.post_mark1 hf hs hle220 h221 hd222 ?_
  obtain ⟨x223, hr224, h⟩ := h
  obtain ⟨x225, hr226, h⟩ := h
  exact (fun _ _ hf hs => post_res2 rfl (RV.cell (p := (b1, 0)) rfl rfl hr224) (RV.cell (p := (b3, 0)) rfl rfl hr226) hf hs ⟨x223, x225, rfl, h⟩)
def sh_zset_as (C : Ctx) (p_n : Int) (K : Int → Heap → Prop) (H : Heap) : Prop :=
 K p_n H
theorem ad_zset_as (C : Ctx) (p_n : Int) (K : Int → Heap → Prop) (H : Heap) (h : sh_zset_as C p_n K H) : c_zset_as C p_n K H := by
 refine Spec.enter Tryz.func52 rfl Tryz.ntmps52 rfl (GC.sub [(0, .int .i64 p_n)] ⟨rfl, trivial⟩ (Zo (Za (GL.nil (Zo (Zm (Za (GL.nil ?_))))))))
 exact GC.ret (fun _ _ hf hs => post_tmp1 rfl rfl hf hs ⟨p_n, rfl, h⟩)
def sh_delta_sides (C : Ctx) (p_on : Sl) (K : T_delta_side → T_delta_side → Heap → Prop) (H : Heap) : Prop :=
 nw (T_delta_side.c T_delta_side.zero) (fun b1 H2 =>
 nw (T_delta_side.c T_delta_side.zero) (fun b3 H4 =>
 lp (α := Int) 0 H4 (fun x5 J6 H7 =>
 ift (decide ((x5 : Int) < (Sl.len p_on : Int)))
 (ixa p_on x5 fun p9 =>
 ldT H7 T_delta_Pair.c (p9.1, p9.2 + (x5 : Int).toNat * 2) fun x14 =>
 nw (T_delta_Pair.c T_delta_Pair.zero) (fun b16 H17 =>
 stT (b16, 0) (T_delta_Pair.c x14) (fun H18 =>
 ldL H18 ((b1, 0).1, (b1, 0).2 + 0) fun x19 =>
 ldI H18 .i64 ((b16, 0).1, (b16, 0).2 + 0) fun x21 =>
 apd ([.int .i64 0]) 8 x19 ([.int .i64 x21]) 1 (fun r23 H24 =>
 st ((b1, 0).1, (b1, 0).2 + 0) (slv r23) (fun H25 =>
 ldL H25 ((b3, 0).1, (b3, 0).2 + 0) fun x26 =>
 ldI H25 .i64 ((b16, 0).1, (b16, 0).2 + 1) fun x28 =>
 apd ([.int .i64 0]) 8 x26 ([.int .i64 x28]) 1 (fun r30 H31 =>
 st ((b3, 0).1, (b3, 0).2 + 0) (slv r30) (fun H32 =>
 J6 (w .i64 (x5 + 1)) H32) H31) H25) H24) H18) H17) H7)
 (dr H7 fun Hs33 =>
 (ldT H7 T_delta_side.c (b1, 0) fun x36 =>
 Heap.le Hs33 H7 ∧
 (ldT H7 T_delta_side.c (b3, 0) fun x39 =>
 Heap.le Hs33 H7 ∧
 stT (b1, 0) (T_delta_side.c x36) (fun H42 =>
 Heap.le Hs33 H42 ∧
 stT (b3, 0) (T_delta_side.c x39) (fun H43 =>
 ldT H43 T_delta_side.c (b1, 0) fun x44 => ldT H43 T_delta_side.c (b3, 0) fun x46 =>
 K x44 x46 H43) H42) H7) ∧
 (stT (b1, 0) (T_delta_side.c x36) (fun H49 =>
 Heap.le Hs33 H49 ∧
 ldT H49 T_delta_side.c (b3, 0) fun x51 =>
 Heap.le Hs33 H49 ∧
 stT (b3, 0) (T_delta_side.c x51) (fun H53 =>
 ldT H53 T_delta_side.c (b1, 0) fun x54 => ldT H53 T_delta_side.c (b3, 0) fun x56 =>
 K x54 x56 H53) H49) H7)) ∧
 (ldT H7 T_delta_side.c (b3, 0) fun x59 =>
 Heap.le Hs33 H7 ∧
 ldT H7 T_delta_side.c (b1, 0) fun x62 =>
 Heap.le Hs33 H7 ∧
 stT (b1, 0) (T_delta_side.c x62) (fun H65 =>
 Heap.le Hs33 H65 ∧
 stT (b3, 0) (T_delta_side.c x59) (fun H66 =>
 ldT H66 T_delta_side.c (b1, 0) fun x67 => ldT H66 T_delta_side.c (b3, 0) fun x69 =>
 K x67 x69 H66) H65) H7)))) H2) H
theorem ad_delta_sides (C : Ctx) (p_on : Sl) (K : T_delta_side → T_delta_side → Heap → Prop) (H : Heap) (h : sh_delta_sides C p_on K H) : c_delta_sides C p_on K H := by
 refine Spec.enter Tryz.func53 rfl Tryz.ntmps53 rfl (GC.sub [(0, slv p_on)] ⟨rfl, trivial⟩ (Zo (GL.alloc (cs := T_delta_side.c T_delta_side.zero) h trivial rfl rfl rfl ?_)))
 intro b1 H2 h
 refine GL.alloc (cs := T_delta_side.c T_delta_side.zero) h trivial rfl rfl rfl ?_
 intro b3 H4 h
 refine GL.nil (GC.seq (Zo (Zm (Zq (Zm (GL.nil (GC.block (GC.loop (α := Int) h (fun x5 => [(8, .int .i64 x5), (2, pv (some (b1, 0))), (3, pv (some (b3, 0))), (6, slv p_on), (7, .int .i64 (Sl.len p_on : Int))]) ⟨rfl, rfl, rfl, rfl, rfl, trivial⟩ ?_))))))))
 intro x5 H7 J6 h
 refine Zo (Zi (.bool (decide ((x5 : Int) < (Sl.len p_on : Int)))) (GL.nil (GC.seq ?_)))
 refine Zd (fun hc8 => ?_) fun hc8 => ?_
 replace h := h.1 hc8
 refine GC.skip (GC.seq (GC.block (Zo ?_)))
 obtain ⟨p9, ha10, hb11, hc12, hd13, h⟩ := h
 refine Zx ha10 hb11 hc12 hd13 ?_
 obtain ⟨x14, hr15, h⟩ := h
 refine Zv (OV.loadT rfl rfl rfl hr15) (GL.alloc (cs := T_delta_Pair.c T_delta_Pair.zero) h trivial rfl rfl rfl ?_)
 intro b16 H17 h
 refine GL.storeT (p := (b16, 0)) (vs := T_delta_Pair.c x14) h trivial rfl rfl rfl rfl ?_
 intro H18 h
 refine GL.nil (Zo (Zf ?_))
 obtain ⟨x19, hr20, h⟩ := h
 refine Zl hr20 (Zf ?_)
 obtain ⟨x21, hr22, h⟩ := h
 refine Zl hr22 (GL.appendLit (s := x19) (ys := [.int .i64 x21]) (zc := [.int .i64 0]) (bytes := 8) h trivial rfl (fun _ => trivial) rfl (fun _ => rfl) (fun _ => rfl) (vs := [(0, .int .i64 x21)]) rfl ⟨3, fun _ => by kernel_rfl⟩ ⟨⟨_, _, _, rfl, rfl, rfl, rfl, rfl, rfl⟩⟩ rfl rfl ?_)
 intro _ r23 H24 h
 refine Zf (GL.store (p := ((b1, 0).1, (b1, 0).2 + 0)) (v := slv r23) h trivial rfl rfl rfl rfl ?_)
 intro H25 h
 refine GL.nil (GC.region (Zf ?_))
 obtain ⟨x26, hr27, h⟩ := h
 refine Zl hr27 (Zf ?_)
 obtain ⟨x28, hr29, h⟩ := h
 refine Zl hr29 (GL.appendLit (s := x26) (ys := [.int .i64 x28]) (zc := [.int .i64 0]) (bytes := 8) h trivial rfl (fun _ => trivial) rfl (fun _ => rfl) (fun _ => rfl) (vs := [(0, .int .i64 x28)]) rfl ⟨3, fun _ => by kernel_rfl⟩ ⟨⟨_, _, _, rfl, rfl, rfl, rfl, rfl, rfl⟩⟩ rfl rfl ?_)
 intro _ r30 H31 h
 refine Zf (GL.store (p := ((b3, 0).1, (b3, 0).2 + 0)) (v := slv r30) h trivial rfl rfl rfl rfl ?_)
 intro H32 h
 refine GL.nil_to (fun _ _ h => h) (GC.region (Zi (.int .i64 (w .i64 (x5 + 1))) (Zm ?_)))
 exact GL.jump (fun _ _ h => h) (w .i64 (x5 + 1)) h ⟨rfl, rfl, rfl, rfl, rfl, trivial⟩
 replace h := h.2 hc8
 refine GC.exit_to (fun _ _ h => h) (GC.seq ?_)
 obtain ⟨Hs33, hle34, h⟩ := h
 refine GC.tail (Hs := Hs33) 3 (by kernel_rfl) hle34 (by kernel_rfl) ?_
 refine GT.effs [0, 1] (by kernel_rfl) (by simp) (List.forall_mem_cons.2 ⟨⟨_, rfl, rfl, ?_⟩, List.forall_mem_cons.2 ⟨⟨_, rfl, rfl, ?_⟩, fun _ h => by cases h⟩⟩)
 replace h := h.1
 obtain ⟨x36, hr37, h⟩ := h
 refine Zv (OV.loadT rfl rfl rfl hr37) ?_
 obtain ⟨hle35, h⟩ := h
 refine GT.back hle35 ?_
 refine GT.effs [1, 2] (by kernel_rfl) (by simp) (List.forall_mem_cons.2 ⟨⟨_, rfl, rfl, ?_⟩, List.forall_mem_cons.2 ⟨⟨_, rfl, rfl, ?_⟩, fun _ h => by cases h⟩⟩)
 replace h := h.1
 obtain ⟨x39, hr40, h⟩ := h
 refine Zv (OV.loadT rfl rfl rfl hr40) ?_
 obtain ⟨hle38, h⟩ := h
 refine GT.back hle38 (GT.eff 2 rfl (by kernel_rfl) rfl (GL.storeT (p := (b1, 0)) (vs := T_delta_side.c x36) h trivial rfl rfl rfl rfl ?_))
 intro H42 h
 obtain ⟨hle41, h⟩ := h
 refine GT.back hle41 (GT.done (by kernel_rfl) ?_)
 show GL _ _ _ _ _ [_] _ _
 refine GL.storeT (p := (b3, 0)) (vs := T_delta_side.c x39) h trivial rfl rfl rfl rfl ?_
 intro H43 h
 refine GL.nil ?_
 obtain ⟨x44, hr45, h⟩ := h
 obtain ⟨x46, hr47, h⟩ := h
 exact GC.ret (fun _ _ hf hs => post_res2 rfl (RV.cellT (p := (b1, 0)) (cs := T_delta_side.c x44) rfl rfl rfl hr45) (RV.cellT (p := (b3, 0)) (cs := T_delta_side.c x46) rfl rfl rfl hr47) hf hs ⟨x44, x46, rfl, h⟩)
 replace h := h.2
 refine GL.storeT (p := (b1, 0)) (vs := T_delta_side.c x36) h trivial rfl rfl rfl rfl ?_
 intro H49 h
 obtain ⟨hle48, h⟩ := h
 refine GT.back hle48 (GT.eff 1 rfl (by kernel_rfl) rfl ?_)
 obtain ⟨x51, hr52, h⟩ := h
 refine Zv (OV.loadT rfl rfl rfl hr52) ?_
 obtain ⟨hle50, h⟩ := h
 refine GT.back hle50 (GT.done (by kernel_rfl) ?_)
 show GL _ _ _ _ _ [_] _ _
 refine GL.storeT (p := (b3, 0)) (vs := T_delta_side.c x51) h trivial rfl rfl rfl rfl ?_
 intro H53 h
 refine GL.nil ?_
 obtain ⟨x54, hr55, h⟩ := h
 obtain ⟨x56, hr57, h⟩ := h
 exact GC.ret (fun _ _ hf hs => post_res2 rfl (RV.cellT (p := (b1, 0)) (cs := T_delta_side.c x54) rfl rfl rfl hr55) (RV.cellT (p := (b3, 0)) (cs := T_delta_side.c x56) rfl rfl rfl hr57) hf hs ⟨x54, x56, rfl, h⟩)
 replace h := h.2
 obtain ⟨x59, hr60, h⟩ := h
 refine Zv (OV.loadT rfl rfl rfl hr60) ?_
 obtain ⟨hle58, h⟩ := h
 refine GT.back hle58 (GT.eff 0 rfl (by kernel_rfl) rfl ?_)
 obtain ⟨x62, hr63, h⟩ := h
 refine Zv (OV.loadT rfl rfl rfl hr63) ?_
 obtain ⟨hle61, h⟩ := h
 refine GT.back hle61 (GT.eff 2 rfl (by kernel_rfl) rfl (GL.storeT (p := (b1, 0)) (vs := T_delta_side.c x62) h trivial rfl rfl rfl rfl ?_))
 intro H65 h
 obtain ⟨hle64, h⟩ := h
 refine GT.back hle64 (GT.done (by kernel_rfl) ?_)
 show GL _ _ _ _ _ [_] _ _
 refine GL.storeT (p := (b3, 0)) (vs := T_delta_side.c x59) h trivial rfl rfl rfl rfl ?_
 intro H66 h
 refine GL.nil ?_
 obtain ⟨x67, hr68, h⟩ := h
 obtain ⟨x69, hr70, h⟩ := h
 exact GC.ret (fun _ _ hf hs => post_res2 rfl (RV.cellT (p := (b1, 0)) (cs := T_delta_side.c x67) rfl rfl rfl hr68) (RV.cellT (p := (b3, 0)) (cs := T_delta_side.c x69) rfl rfl rfl hr70) hf hs ⟨x67, x69, rfl, h⟩)
def sh_delta_side_by (C : Ctx) (p_s : T_delta_side) (p_l : Sl) (K : Option Nat → Heap → Prop) (H : Heap) : Prop :=
 nw (T_delta_side.c p_s) (fun b1 H2 =>
 mkM (fun b3 H4 =>
 lp (α := Int) 0 H4 (fun x5 J6 H7 =>
 ift (decide ((x5 : Int) < (Sl.len p_l : Int)))
 (jn (α := Unit) (fun x10 H11 =>
 J6 (w .i64 (x5 + 1)) H11)
 (fun J9 => ixa p_l x5 fun p13 =>
 ldT H7 T_zset_Entry.c (p13.1, p13.2 + (x5 : Int).toNat * 2) fun x18 =>
 nw (T_zset_Entry.c T_zset_Entry.zero) (fun b20 H21 =>
 stT (b20, 0) (T_zset_Entry.c x18) (fun H22 =>
 ldT H22 T_delta_side.c (b1, 0) fun x23 =>
 ldL H22 ((b20, 0).1, (b20, 0).2 + 0) fun x25 =>
 c_delta_side_key C x23 x25 (fun r27 r28 H29 =>
 ift r28
 (lkM (fun x : Sl => (slv x : Value)) Sl.nil (some b3) r27 (fun x31 is32 =>
 ldT H29 T_zset_Entry.c (b20, 0) fun x34 =>
 apd (T_zset_Entry.c T_zset_Entry.zero) 32 x31 ((T_zset_Entry.c x34) ++ []) 1 (fun r36 H37 =>
 upM (fun x : Sl => (slv x : Value)) (some b3) r27 r36 (fun H38 =>
 J9 () H38) H37) H29) H29)
 (J9 () H29)) H22) H21) H7))
 (K (some b3) H7))) H2) H
theorem ad_delta_side_by (C : Ctx) (p_s : T_delta_side) (p_l : Sl) (K : Option Nat → Heap → Prop) (H : Heap) (h : sh_delta_side_by C p_s p_l K H) : c_delta_side_by C p_s p_l K H := by
 refine Spec.enter Tryz.func54 rfl Tryz.ntmps54 rfl (GC.sub [(0, .agg (T_delta_side.c p_s).toArray), (1, slv p_l)] ⟨rfl, rfl, trivial⟩ (Zo (GL.box (v := .agg (T_delta_side.c p_s).toArray) (cs := T_delta_side.c p_s) h trivial rfl rfl rfl ?_)))
 intro b1 H2 h
 refine Za (GL.nil (Zo (GL.makeMap h trivial rfl ?_)))
 intro b3 H4 h
 refine Za (GL.nil (GC.seq (Zo (Zm (Zq (Zm (GL.nil (GC.block (GC.loop (α := Int) h (fun x5 => [(13, .int .i64 x5), (2, pv (some (b1, 0))), (5, mv (some b3)), (11, slv p_l), (12, .int .i64 (Sl.len p_l : Int))]) ⟨rfl, rfl, rfl, rfl, rfl, trivial⟩ ?_)))))))))
 intro x5 H7 J6 h
 refine Zo (Zi (.bool (decide ((x5 : Int) < (Sl.len p_l : Int)))) (GL.nil (GC.seq ?_)))
 refine Zd (fun hc8 => ?_) fun hc8 => ?_
 replace h := h.1 hc8
 refine GC.skip ?_
 obtain ⟨J9, h, hR12⟩ := h
 refine GC.join (α := Unit) J9 (fun _ => [(2, pv (some (b1, 0))), (5, mv (some b3)), (11, slv p_l), (12, .int .i64 (Sl.len p_l : Int)), (13, .int .i64 x5)]) ?_ ?_
 refine GC.block (Zo ?_)
 obtain ⟨p13, ha14, hb15, hc16, hd17, h⟩ := h
 refine Zx ha14 hb15 hc16 hd17 ?_
 obtain ⟨x18, hr19, h⟩ := h
 refine Zv (OV.loadT rfl rfl rfl hr19) (GL.alloc (cs := T_zset_Entry.c T_zset_Entry.zero) h trivial rfl rfl rfl ?_)
 intro b20 H21 h
 refine GL.storeT (p := (b20, 0)) (vs := T_zset_Entry.c x18) h trivial rfl rfl rfl rfl ?_
 intro H22 h
 refine GL.nil (Zo ?_)
 obtain ⟨x23, hr24, h⟩ := h
 refine Zv (OV.loadT rfl rfl rfl hr24) (Zf ?_)
 obtain ⟨x25, hr26, h⟩ := h
 refine Zl hr26 (Zc h ok_delta_side_key ?_)
 rintro _ H29 ⟨r27, r28, rfl, h⟩
 refine Zm (Zv (OV.extract (v := sv r27) rfl rfl) (Zv (OV.extract (v := .bool r28) rfl rfl) (Za (Za (GL.nil (Zo (Zm (GL.nil ?_))))))))
 refine Zd (fun hc30 => ?_) fun hc30 => ?_
 replace h := h.1 hc30
 refine GC.region (Zm (Zm (Zm (Zm ?_))))
 obtain ⟨x31, is32, hr33, h⟩ := h
 refine Zv (OV.lookup1 (v := slv x31) (enc := (fun x : Sl => (slv x : Value))) (z := Sl.nil) (q := (some b3)) (k := r27) (x := x31) (b := is32) rfl hr33 rfl rfl rfl rfl rfl) ?_
 obtain ⟨x34, hr35, h⟩ := h
 refine Zv (OV.loadT rfl rfl rfl hr35) (GL.appendLit (s := x31) (ys := (T_zset_Entry.c x34) ++ []) (zc := T_zset_Entry.c T_zset_Entry.zero) (bytes := 32) h trivial rfl (fun _ => trivial) rfl (fun _ => rfl) (fun _ => rfl) (vs := [(0, .agg (T_zset_Entry.c x34).toArray)]) rfl ⟨47, fun _ => by kernel_rfl⟩ ⟨⟨_, _, _, rfl, rfl, rfl, rfl, rfl, rfl⟩⟩ rfl rfl ?_)
 intro _ r36 H37 h
 refine GL.mapUpdate (enc := (fun x : Sl => (slv x : Value))) (q := (some b3)) (k := r27) (x := r36) h trivial rfl rfl rfl rfl rfl ?_
 intro H38 h
 exact GL.jump (fun _ _ h => h) () h ⟨rfl, rfl, rfl, rfl, rfl, trivial⟩
 replace h := h.2 hc30
 exact GC.jump (fun _ _ h => h) () h ⟨rfl, rfl, rfl, rfl, rfl, trivial⟩
 intro x10 H11 h
 replace h := hR12 x10 H11 h
 refine GC.region (Zi (.int .i64 (w .i64 (x5 + 1))) (Zm ?_))
 exact GL.jump (fun _ _ h => h) (w .i64 (x5 + 1)) h ⟨rfl, rfl, rfl, rfl, rfl, trivial⟩
 replace h := h.2 hc8
 refine GC.exit_to (fun _ _ h => h) (Zo (Zm (Za (GL.nil ?_))))
 exact GC.ret (fun _ _ hf hs => post_tmp1 rfl rfl hf hs ⟨(some b3), rfl, h⟩)
def sh_delta_side_key (C : Ctx) (p_s : T_delta_side) (p_row : Sl) (K : Str → Bool → Heap → Prop) (H : Heap) : Prop :=
 nw (T_delta_side.c p_s) (fun b1 H2 =>
 ldL H2 ((b1, 0).1, (b1, 0).2 + 0) fun x3 =>
 lp (α := Str × Int) ([], 0) H2 (fun x5 J6 H7 =>
 ift (decide ((x5.2 : Int) < (Sl.len x3 : Int)))
 (ixa x3 x5.2 fun p9 =>
 ldI H7 .i64 (p9.1, p9.2 + (x5.2 : Int).toNat * 1) fun x14 =>
 ift ((decide ((x14 : Int) < 0)) || (decide ((x14 : Int) ≥ (Sl.len p_row : Int))))
 (K [] false H7)
 (ixa p_row x14 fun p18 =>
 ldT H7 T_api_Value.c (p18.1, p18.2 + (x14 : Int).toNat * 4) fun x23 =>
 c_value_Show C x23 (fun r25 H26 =>
 catOk r25 ([59] : Str) ∧
 catOk x5.1 (r25 ++ ([59] : Str)) ∧
 J6 ((x5.1 ++ (r25 ++ ([59] : Str))), (w .i64 (x5.2 + 1))) H26) H7))
 (K x5.1 true H7))) H
theorem ad_delta_side_key (C : Ctx) (p_s : T_delta_side) (p_row : Sl) (K : Str → Bool → Heap → Prop) (H : Heap) (h : sh_delta_side_key C p_s p_row K H) : c_delta_side_key C p_s p_row K H := by
 refine Spec.enter Tryz.func55 rfl Tryz.ntmps55 rfl (GC.sub [(0, .agg (T_delta_side.c p_s).toArray), (1, slv p_row)] ⟨rfl, rfl, trivial⟩ (Zo (GL.box (v := .agg (T_delta_side.c p_s).toArray) (cs := T_delta_side.c p_s) h trivial rfl rfl rfl ?_)))
 intro b1 H2 h
 refine Za (Za (GL.nil (Zo (Za (GL.nil (GC.seq (Zo (Zf ?_))))))))
 obtain ⟨x3, hr4, h⟩ := h
 refine Zl hr4 (Zq (Zm (GL.nil (GC.block (GC.loop (α := Str × Int) h (fun x5 => [(6, sv x5.1), (12, .int .i64 x5.2), (1, slv p_row), (10, slv x3), (11, .int .i64 (Sl.len x3 : Int))]) ⟨rfl, rfl, rfl, rfl, rfl, trivial⟩ ?_)))))
 intro x5 H7 J6 h
 refine Zo (Zi (.bool (decide ((x5.2 : Int) < (Sl.len x3 : Int)))) (GL.nil (GC.seq ?_)))
 refine Zd (fun hc8 => ?_) fun hc8 => ?_
 replace h := h.1 hc8
 refine GC.skip (GC.seq (GC.block (Zo ?_)))
 obtain ⟨p9, ha10, hb11, hc12, hd13, h⟩ := h
 refine Zx ha10 hb11 hc12 hd13 ?_
 obtain ⟨x14, hr15, h⟩ := h
 refine Zl hr15 (Za (GL.nil (GC.seq (Zo (Zm (Zi (.bool (decide ((x14 : Int) < 0))) (Zm ?_)))))))
 refine GL.cut0 5 [(23, .bool ((decide ((x14 : Int) < 0)) || (decide ((x14 : Int) ≥ (Sl.len p_row : Int))))), (1, slv p_row), (6, sv x5.1), (8, .int .i64 x14), (10, slv x3), (11, .int .i64 (Sl.len x3 : Int)), (12, .int .i64 x5.2)] ?_ ?_
 rcases Zb (decide ((x14 : Int) < 0)) with hc16 | hc16
 refine Zk hc16 (Zk hc16 (Zk hc16 (Zk hc16 (Zt hc16 ?_))))
 exact GL.jump0 (fun _ _ h => h) () rfl ⟨(by rw [hc16]; rfl), rfl, rfl, rfl, rfl, rfl, rfl, trivial⟩
 refine Zu hc16 (OV.move rfl) (Zu hc16 (OV.move rfl) (Zu hc16 (OV.lenSl rfl rfl) (Zu hc16 (OV.ibin (v := .bool (decide ((x14 : Int) ≥ (Sl.len p_row : Int)))) rfl rfl rfl) (Zn hc16 ?_))))
 exact GL.jump0 (fun _ _ h => h) () rfl ⟨(by rw [hc16]; rfl), rfl, rfl, rfl, rfl, rfl, rfl, trivial⟩
 refine GL.nil ?_
 refine Zd (fun hc17 => ?_) fun hc17 => ?_
 replace h := h.1 hc17
 refine Zo (Za (Za (GL.nil ?_)))
 exact GC.ret (fun _ _ hf hs => post_tmp2 rfl rfl rfl hf hs ⟨[], false, rfl, h⟩)
 replace h := h.2 hc17
 refine GC.skip (GC.region (Zm (Zm (Zm ?_))))
 obtain ⟨p18, ha19, hb20, hc21, hd22, h⟩ := h
 refine Zx ha19 hb20 hc21 hd22 ?_
 obtain ⟨x23, hr24, h⟩ := h
 refine Zv (OV.loadT rfl rfl rfl hr24) (Zc h ok_value_Show ?_)
 rintro _ H26 ⟨r25, rfl, h⟩
 obtain ⟨hl27, h⟩ := h
 refine Zv (OV.cat (a := r25) (b := ([59] : Str)) rfl rfl hl27) ?_
 obtain ⟨hl28, h⟩ := h
 refine Zv (OV.cat (a := x5.1) (b := (r25 ++ ([59] : Str))) rfl rfl hl28) (Za (GL.nil_to (fun _ _ h => h) (GC.region (Zi (.int .i64 (w .i64 (x5.2 + 1))) (Zm ?_)))))
 exact GL.jump (fun _ _ h => h) ((x5.1 ++ (r25 ++ ([59] : Str))), (w .i64 (x5.2 + 1))) h ⟨rfl, rfl, rfl, rfl, rfl, trivial⟩
 replace h := h.2 hc8
 refine GC.exit_to (fun _ _ h => h) (Zo (Zm (Za (Za (GL.nil ?_)))))
 exact GC.ret (fun _ _ hf hs => post_tmp2 rfl rfl rfl hf hs ⟨x5.1, true, rfl, h⟩)
def sh_zset_turn (C : Ctx) (p_n : Int) (K : Int → Heap → Prop) (H : Heap) : Prop :=
 K (w .i64 (0 - p_n)) H
theorem ad_zset_turn (C : Ctx) (p_n : Int) (K : Int → Heap → Prop) (H : Heap) (h : sh_zset_turn C p_n K H) : c_zset_turn C p_n K H := by
 refine Spec.enter Tryz.func56 rfl Tryz.ntmps56 rfl (GC.sub [(0, .int .i64 p_n)] ⟨rfl, trivial⟩ (Zo (Za (GL.nil (Zo (Zm (Zv (OV.iun (v := .int .i64 (w .i64 (0 - p_n))) rfl rfl) (Za (GL.nil ?_)))))))))
 exact GC.ret (fun _ _ hf hs => post_tmp1 rfl rfl hf hs ⟨(w .i64 (0 - p_n)), rfl, h⟩)
def sh_ref02_Same (C : Ctx) (p_a : T_api_Value) (p_b : T_api_Value) (K : Bool → Heap → Prop) (H : Heap) : Prop :=
 nw (T_api_Value.c p_a) (fun b1 H2 =>
 nw (T_api_Value.c p_b) (fun b3 H4 =>
 ldI H4 .u8 ((b1, 0).1, (b1, 0).2 + 0) fun x5 =>
 ldI H4 .u8 ((b3, 0).1, (b3, 0).2 + 0) fun x7 =>
 jn (α := Bool) (fun b9 H17 =>
 jn (α := Bool) (fun b18 H26 =>
 jn (α := Bool) (fun b27 H37 =>
 K b27 H37)
 (fun J28 => ift b18
 (ldL H26 ((b1, 0).1, (b1, 0).2 + 3) fun x31 =>
 ldL H26 ((b3, 0).1, (b3, 0).2 + 3) fun x33 =>
 c_ref02_SameRow C x31 x33 (fun r35 H36 =>
 J28 r35 H36) H26)
 (J28 false H26)))
 (fun J19 => ift b9
 (ldS H17 ((b1, 0).1, (b1, 0).2 + 2) fun x22 =>
 ldS H17 ((b3, 0).1, (b3, 0).2 + 2) fun x24 =>
 J19 (x22 == x24) H17)
 (J19 false H17)))
 (fun J10 => ift ((x5 : Int) == x7)
 (ldI H4 .i64 ((b1, 0).1, (b1, 0).2 + 1) fun x13 =>
 ldI H4 .i64 ((b3, 0).1, (b3, 0).2 + 1) fun x15 =>
 J10 ((x13 : Int) == x15) H4)
 (J10 false H4))) H2) H
theorem ad_ref02_Same (C : Ctx) (p_a : T_api_Value) (p_b : T_api_Value) (K : Bool → Heap → Prop) (H : Heap) (h : sh_ref02_Same C p_a p_b K H) : c_ref02_Same C p_a p_b K H := by
 refine Spec.enter Tryz.func62 rfl Tryz.ntmps62 rfl (GC.sub [(0, .agg (T_api_Value.c p_a).toArray), (1, .agg (T_api_Value.c p_b).toArray)] ⟨rfl, rfl, trivial⟩ (Zo (GL.box (v := .agg (T_api_Value.c p_a).toArray) (cs := T_api_Value.c p_a) h trivial rfl rfl rfl ?_)))
 intro b1 H2 h
 refine GL.box (v := .agg (T_api_Value.c p_b).toArray) (cs := T_api_Value.c p_b) h trivial rfl rfl rfl ?_
 intro b3 H4 h
 refine Za (GL.nil (Zo (Zf ?_)))
 obtain ⟨x5, hr6, h⟩ := h
 refine Zl hr6 (Zf ?_)
 obtain ⟨x7, hr8, h⟩ := h
 refine Zl hr8 (Zi (.bool ((x5 : Int) == x7)) (Zm ?_))
 obtain ⟨J10, h, hR11⟩ := h
 refine GL.cut (α := Bool) 6 J10 (fun b9 => [(16, .bool b9), (2, pv (some (b1, 0))), (3, pv (some (b3, 0)))]) ?_ ?_
 rcases Zb ((x5 : Int) == x7) with hc12 | hc12
 replace h := h.1 hc12
 refine Zu hc12 (OV.fieldAddr rfl rfl) ?_
 obtain ⟨x13, hr14, h⟩ := h
 refine Zu hc12 (OV.load rfl rfl hr14) (Zu hc12 (OV.fieldAddr rfl rfl) ?_)
 obtain ⟨x15, hr16, h⟩ := h
 refine Zu hc12 (OV.load rfl rfl hr16) (Zu hc12 (OV.ibin (v := .bool ((x13 : Int) == x15)) rfl rfl rfl) (Zt hc12 ?_))
 exact GL.jump (fun _ _ h => h) ((x13 : Int) == x15) h ⟨rfl, rfl, rfl, trivial⟩
 replace h := h.2 hc12
 refine Zk hc12 (Zk hc12 (Zk hc12 (Zk hc12 (Zk hc12 (Zn hc12 ?_)))))
 exact GL.jump (fun _ _ h => h) false h ⟨rfl, rfl, rfl, trivial⟩
 intro b9 H17 h
 replace h := hR11 b9 H17 h
 refine Zm ?_
 obtain ⟨J19, h, hR20⟩ := h
 refine GL.cut (α := Bool) 6 J19 (fun b18 => [(23, .bool b18), (2, pv (some (b1, 0))), (3, pv (some (b3, 0)))]) ?_ ?_
 rcases Bool.eq_false_or_eq_true b9 with hc21 | hc21
 replace h := h.1 hc21
 refine Zu hc21 (OV.fieldAddr rfl rfl) ?_
 obtain ⟨x22, hr23, h⟩ := h
 refine Zu hc21 (OV.load rfl rfl hr23) (Zu hc21 (OV.fieldAddr rfl rfl) ?_)
 obtain ⟨x24, hr25, h⟩ := h
 refine Zu hc21 (OV.load rfl rfl hr25) (Zu hc21 (OV.sbin (a := x22) (b := x24) (v := .bool (x22 == x24)) rfl rfl rfl) (Zt hc21 ?_))
 exact GL.jump (fun _ _ h => h) (x22 == x24) h ⟨rfl, rfl, rfl, trivial⟩
 replace h := h.2 hc21
 refine Zk hc21 (Zk hc21 (Zk hc21 (Zk hc21 (Zk hc21 (Zn hc21 ?_)))))
 exact GL.jump (fun _ _ h => h) false h ⟨rfl, rfl, rfl, trivial⟩
 intro b18 H26 h
 replace h := hR20 b18 H26 h
 refine Zm ?_
 obtain ⟨J28, h, hR29⟩ := h
 refine GL.cut (α := Bool) 6 J28 (fun b27 => [(30, .bool b27)]) ?_ ?_
 rcases Bool.eq_false_or_eq_true b18 with hc30 | hc30
 replace h := h.1 hc30
 refine Zu hc30 (OV.fieldAddr rfl rfl) ?_
 obtain ⟨x31, hr32, h⟩ := h
 refine Zu hc30 (OV.load rfl rfl hr32) (Zu hc30 (OV.fieldAddr rfl rfl) ?_)
 obtain ⟨x33, hr34, h⟩ := h
 refine Zu hc30 (OV.load rfl rfl hr34) (GL.call h ⟨_, _, rfl, rfl, hc30⟩ rfl ok_ref02_SameRow (vs := [slv x31, slv x33]) rfl ?_)
 rintro _ H36 ⟨r35, rfl, h⟩
 refine Zt hc30 ?_
 exact GL.jump (fun _ _ h => h) r35 h ⟨rfl, trivial⟩
 replace h := h.2 hc30
 refine Zk hc30 (Zk hc30 (Zk hc30 (Zk hc30 (Zk hc30 (Zn hc30 ?_)))))
 exact GL.jump (fun _ _ h => h) false h ⟨rfl, trivial⟩
 intro b27 H37 h
 replace h := hR29 b27 H37 h
 refine Za (GL.nil ?_)
 exact GC.ret (fun _ _ hf hs => post_tmp1 rfl rfl hf hs ⟨b27, rfl, h⟩)
def sh_value_depth (C : Ctx) (p_v : T_api_Value) (p_most : Int) (K : Int → Heap → Prop) (H : Heap) : Prop :=
 nw (T_api_Value.c p_v) (fun b1 H2 =>
 jn (α := Int) (fun x4 H5 =>
 K (w .i64 (x4 + 1)) H5)
 (fun J3 => ldL H2 ((b1, 0).1, (b1, 0).2 + 3) fun x7 =>
 lp (α := Int × Int) (0, 0) H2 (fun x9 J10 H11 =>
 ift (decide ((x9.2 : Int) < (Sl.len x7 : Int)))
 (ixa x7 x9.2 fun p13 =>
 ldT H11 T_api_Value.c (p13.1, p13.2 + (x9.2 : Int).toNat * 4) fun x18 =>
 nw (T_api_Value.c T_api_Value.zero) (fun b20 H21 =>
 stT (b20, 0) (T_api_Value.c x18) (fun H22 =>
 ift (decide ((x9.1 : Int) ≥ p_most))
 (J3 x9.1 H22)
 (ldT H22 T_api_Value.c (b20, 0) fun x24 =>
 c_value_depth C x24 (w .i64 (p_most - 1)) (fun r26 H27 =>
 J10 ((if r26 > x9.1 then r26 else x9.1 : Int), (w .i64 (x9.2 + 1))) H27) H22)) H21) H11)
 (J3 x9.1 H11)))) H
theorem ad_value_depth (C : Ctx) (p_v : T_api_Value) (p_most : Int) (K : Int → Heap → Prop) (H : Heap) (h : sh_value_depth C p_v p_most K H) : c_value_depth C p_v p_most K H := by
 refine Spec.enter Tryz.func63 rfl Tryz.ntmps63 rfl (GC.sub [(0, .agg (T_api_Value.c p_v).toArray), (1, .int .i64 p_most)] ⟨rfl, rfl, trivial⟩ (Zo (GL.box (v := .agg (T_api_Value.c p_v).toArray) (cs := T_api_Value.c p_v) h trivial rfl rfl rfl ?_)))
 intro b1 H2 h
 refine Za (GL.nil (Zo (Za (GL.nil ?_))))
 obtain ⟨J3, h, hR6⟩ := h
 refine GC.join (α := Int) J3 (fun x4 => [(5, .int .i64 x4)]) ?_ ?_
 refine Zo (Zf ?_)
 obtain ⟨x7, hr8, h⟩ := h
 refine Zl hr8 (Zq (Zm (GL.nil (GC.block (GC.loop (α := Int × Int) h (fun x9 => [(5, .int .i64 x9.1), (11, .int .i64 x9.2), (1, .int .i64 p_most), (9, slv x7), (10, .int .i64 (Sl.len x7 : Int))]) ⟨rfl, rfl, rfl, rfl, rfl, trivial⟩ ?_)))))
 intro x9 H11 J10 h
 refine Zo (Zi (.bool (decide ((x9.2 : Int) < (Sl.len x7 : Int)))) (GL.nil (GC.seq ?_)))
 refine Zd (fun hc12 => ?_) fun hc12 => ?_
 replace h := h.1 hc12
 refine GC.skip (GC.seq (GC.block (Zo ?_)))
 obtain ⟨p13, ha14, hb15, hc16, hd17, h⟩ := h
 refine Zx ha14 hb15 hc16 hd17 ?_
 obtain ⟨x18, hr19, h⟩ := h
 refine Zv (OV.loadT rfl rfl rfl hr19) (GL.alloc (cs := T_api_Value.c T_api_Value.zero) h trivial rfl rfl rfl ?_)
 intro b20 H21 h
 refine GL.storeT (p := (b20, 0)) (vs := T_api_Value.c x18) h trivial rfl rfl rfl rfl ?_
 intro H22 h
 refine GL.nil (GC.seq (Zo (Zm (Zm (Zi (.bool (decide ((x9.1 : Int) ≥ p_most))) (GL.nil ?_))))))
 refine Zd (fun hc23 => ?_) fun hc23 => ?_
 replace h := h.1 hc23
 exact GC.exit_jump (fun _ _ h => h) x9.1 h ⟨rfl, trivial⟩
 replace h := h.2 hc23
 refine GC.skip (GC.region (Zm ?_))
 obtain ⟨x24, hr25, h⟩ := h
 refine Zv (OV.loadT rfl rfl rfl hr25) (Zm (Zi (.int .i64 (w .i64 (p_most - 1))) (Zc h ok_value_depth ?_)))
 rintro _ H27 ⟨r26, rfl, h⟩
 refine Zv (OV.maxI rfl rfl) (Za (GL.nil_to (fun _ _ h => h) (GC.region (Zi (.int .i64 (w .i64 (x9.2 + 1))) (Zm ?_)))))
 exact GL.jump (fun _ _ h => h) ((if r26 > x9.1 then r26 else x9.1 : Int), (w .i64 (x9.2 + 1))) h ⟨rfl, rfl, rfl, rfl, rfl, trivial⟩
 replace h := h.2 hc12
 exact GC.exit_jump (fun _ _ h => h) x9.1 h ⟨rfl, trivial⟩
 intro x4 H5 h
 replace h := hR6 x4 H5 h
 refine Zo (Zm (Zi (.int .i64 (w .i64 (x4 + 1))) (Za (GL.nil ?_))))
 exact GC.ret (fun _ _ hf hs => post_tmp1 rfl rfl hf hs ⟨(w .i64 (x4 + 1)), rfl, h⟩)
def sh_value_item_look (C : Ctx) (p_v : T_api_Value) (K : Bool → Bool → Heap → Prop) (H : Heap) : Prop :=
 nw (T_api_Value.c p_v) (fun b1 H2 =>
 ldI H2 .i64 ((b1, 0).1, (b1, 0).2 + 1) fun x3 =>
 jn (α := Bool) (fun b5 H11 =>
 jn (α := Bool) (fun b12 H18 =>
 jn (α := Bool × Bool) (fun x20 H21 =>
 ldL H21 ((b1, 0).1, (b1, 0).2 + 3) fun x149 =>
 lp (α := Bool × Bool × Int) (x20.1, x20.2, 0) H21 (fun x151 J152 H153 =>
 ift (decide ((x151.2.2 : Int) < (Sl.len x149 : Int)))
 (ixa x149 x151.2.2 fun p155 =>
 ldT H153 T_api_Value.c (p155.1, p155.2 + (x151.2.2 : Int).toNat * 4) fun x160 =>
 nw (T_api_Value.c T_api_Value.zero) (fun b162 H163 =>
 stT (b162, 0) (T_api_Value.c x160) (fun H164 =>
 ldT H164 T_api_Value.c (b162, 0) fun x165 =>
 c_value_item_look C x165 (fun r167 r168 H169 =>
 J152 ((x151.1 && r167), (x151.2.1 && r168), (w .i64 (x151.2.2 + 1))) H169) H164) H163) H153)
 (K x151.1 x151.2.1 H153)))
 (fun J19 => ldI H18 .u8 ((b1, 0).1, (b1, 0).2 + 0) fun x23 =>
 ift ((x23 : Int) == 1)
 (ldI H18 .i64 ((b1, 0).1, (b1, 0).2 + 1) fun x26 =>
 jn (α := Bool) (fun b28 H34 =>
 jn (α := Bool) (fun b35 H41 =>
 jn (α := Bool) (fun b42 H48 =>
 J19 (b42, true) H48)
 (fun J43 => ift b35
 (ldL H41 ((b1, 0).1, (b1, 0).2 + 3) fun x46 =>
 J43 (((Sl.len x46 : Int) : Int) == 0) H41)
 (J43 false H41)))
 (fun J36 => ift b28
 (ldS H34 ((b1, 0).1, (b1, 0).2 + 2) fun x39 =>
 J36 (x39 == ([] : Str)) H34)
 (J36 false H34)))
 (fun J29 => ift ((x26 : Int) == 0)
 (J29 true H18)
 (ldI H18 .i64 ((b1, 0).1, (b1, 0).2 + 1) fun x32 =>
 J29 ((x32 : Int) == 1) H18)))
 (ift ((x23 : Int) == 2)
 (ldS H18 ((b1, 0).1, (b1, 0).2 + 2) fun x50 =>
 jn (α := Bool) (fun b52 H58 =>
 J19 (b52, true) H58)
 (fun J53 => ift (x50 == ([] : Str))
 (ldL H18 ((b1, 0).1, (b1, 0).2 + 3) fun x56 =>
 J53 (((Sl.len x56 : Int) : Int) == 0) H18)
 (J53 false H18)))
 (ift ((x23 : Int) == 3)
 (ldS H18 ((b1, 0).1, (b1, 0).2 + 2) fun x60 =>
 c_value_number C x60 (fun r62 r63 H64 =>
 jn (α := Bool) (fun b65 H71 =>
 jn (α := Bool) (fun b72 H78 =>
 J19 (b72, (decide ((r62 : Int) ≤ 200))) H78)
 (fun J73 => ift b65
 (ldL H71 ((b1, 0).1, (b1, 0).2 + 3) fun x76 =>
 J73 (((Sl.len x76 : Int) : Int) == 0) H71)
 (J73 false H71)))
 (fun J66 => ift r63
 (ldI H64 .i64 ((b1, 0).1, (b1, 0).2 + 1) fun x69 =>
 J66 ((x69 : Int) == 0) H64)
 (J66 false H64))) H18)
 (ift ((x23 : Int) == 4)
 (jn (α := Bool × Bool) (fun x81 H82 =>
 J19 (x81.1, x81.2) H82)
 (fun J80 => dr H18 fun Hs84 =>
 ldI Hs84 .i64 ((b1, 0).1, (b1, 0).2 + 1) fun x86 =>
 ldS Hs84 ((b1, 0).1, (b1, 0).2 + 2) fun x88 =>
 ift ((x86 : Int) == 0)
 (ldL Hs84 ((b1, 0).1, (b1, 0).2 + 3) fun x91 =>
 J80 ((((Sl.len x91 : Int) : Int) == 0), (decide (((List.length x88 : Int) : Int) ≤ 4096))) H18)
 (J80 (false, (decide (((List.length x88 : Int) : Int) ≤ 4096))) H18)))
 (ift ((x23 : Int) == 5)
 (jn (α := Bool × Bool) (fun x95 H96 =>
 J19 (x95.1, x95.2) H96)
 (fun J94 => dr H18 fun Hs98 =>
 ldI Hs98 .i64 ((b1, 0).1, (b1, 0).2 + 1) fun x100 =>
 ldL Hs98 ((b1, 0).1, (b1, 0).2 + 3) fun x102 =>
 ift ((x100 : Int) == 0)
 (ldS Hs98 ((b1, 0).1, (b1, 0).2 + 2) fun x105 =>
 ift (x105 == ([] : Str))
 (ldL Hs98 ((b1, 0).1, (b1, 0).2 + 3) fun x108 =>
 J94 ((((Sl.len x108 : Int) : Int) != 1), (decide (((Sl.len x102 : Int) : Int) ≤ 16))) H18)
 (J94 (false, (decide (((Sl.len x102 : Int) : Int) ≤ 16))) H18))
 (J94 (false, (decide (((Sl.len x102 : Int) : Int) ≤ 16))) H18)))
 (ift ((x23 : Int) == 6)
 (ldS H18 ((b1, 0).1, (b1, 0).2 + 2) fun x111 =>
 c_strings_Cut C x111 [46] (fun r113 r114 r115 H116 =>
 jn (α := Bool × Bool) (fun x118 H119 =>
 J19 (x118.1, x118.2) H119)
 (fun J117 => dr H116 fun Hs121 =>
 ldI Hs121 .i64 ((b1, 0).1, (b1, 0).2 + 1) fun x123 =>
 ldL Hs121 ((b1, 0).1, (b1, 0).2 + 3) fun x125 =>
 ift ((x123 : Int) == 0)
 (c_value_name C r113 (fun r129 H130 =>
 Heap.le Hs121 H130 ∧
 ift r129
 (ift r115
 (c_value_name C r114 (fun r134 H135 =>
 Heap.le Hs121 H135 ∧
 ift r134
 (J117 (true, (decide (((Sl.len x125 : Int) : Int) ≤ 8))) H135)
 (ift (!r115)
 (ldS Hs121 ((b1, 0).1, (b1, 0).2 + 2) fun x138 =>
 ift (!(x138 == ([116, 114, 117, 101] : Str)))
 (ldS Hs121 ((b1, 0).1, (b1, 0).2 + 2) fun x141 =>
 J117 ((!(x141 == ([102, 97, 108, 115, 101] : Str))), (decide (((Sl.len x125 : Int) : Int) ≤ 8))) H135)
 (J117 (false, (decide (((Sl.len x125 : Int) : Int) ≤ 8))) H135))
 (J117 (false, (decide (((Sl.len x125 : Int) : Int) ≤ 8))) H135))) H130)
 (ift (!r115)
 (ldS Hs121 ((b1, 0).1, (b1, 0).2 + 2) fun x144 =>
 ift (!(x144 == ([116, 114, 117, 101] : Str)))
 (ldS Hs121 ((b1, 0).1, (b1, 0).2 + 2) fun x147 =>
 J117 ((!(x147 == ([102, 97, 108, 115, 101] : Str))), (decide (((Sl.len x125 : Int) : Int) ≤ 8))) H130)
 (J117 (false, (decide (((Sl.len x125 : Int) : Int) ≤ 8))) H130))
 (J117 (false, (decide (((Sl.len x125 : Int) : Int) ≤ 8))) H130)))
 (J117 (false, (decide (((Sl.len x125 : Int) : Int) ≤ 8))) H130)) H116)
 (J117 (false, (decide (((Sl.len x125 : Int) : Int) ≤ 8))) H116))) H18)
 (J19 (false, true) H18))))))))
 (fun J13 => ift b5
 (ldL H11 ((b1, 0).1, (b1, 0).2 + 3) fun x16 =>
 J13 (((Sl.len x16 : Int) : Int) == 0) H11)
 (J13 false H11)))
 (fun J6 => ift ((x3 : Int) == 0)
 (ldS H2 ((b1, 0).1, (b1, 0).2 + 2) fun x9 =>
 J6 (x9 == ([] : Str)) H2)
 (J6 false H2))) H
theorem ad_value_item_look (C : Ctx) (p_v : T_api_Value) (K : Bool → Bool → Heap → Prop) (H : Heap) (h : sh_value_item_look C p_v K H) : c_value_item_look C p_v K H := by
 refine Spec.enter Tryz.func64 rfl Tryz.ntmps64 rfl (GC.sub [(0, .agg (T_api_Value.c p_v).toArray)] ⟨rfl, trivial⟩ (Zo (GL.box (v := .agg (T_api_Value.c p_v).toArray) (cs := T_api_Value.c p_v) h trivial rfl rfl rfl ?_)))
 intro b1 H2 h
 refine Za (Za (GL.nil (Zo (Zf ?_))))
 obtain ⟨x3, hr4, h⟩ := h
 refine Zl hr4 (Zi (.bool ((x3 : Int) == 0)) (Zm ?_))
 obtain ⟨J6, h, hR7⟩ := h
 refine GL.cut (α := Bool) 4 J6 (fun b5 => [(20, .bool b5), (1, pv (some (b1, 0)))]) ?_ ?_
 rcases Zb ((x3 : Int) == 0) with hc8 | hc8
 replace h := h.1 hc8
 refine Zu hc8 (OV.fieldAddr rfl rfl) ?_
 obtain ⟨x9, hr10, h⟩ := h
 refine Zu hc8 (OV.load rfl rfl hr10) (Zu hc8 (OV.sbin (a := x9) (b := ([] : Str)) (v := .bool (x9 == ([] : Str))) rfl rfl rfl) (Zt hc8 ?_))
 exact GL.jump (fun _ _ h => h) (x9 == ([] : Str)) h ⟨rfl, rfl, trivial⟩
 replace h := h.2 hc8
 refine Zk hc8 (Zk hc8 (Zk hc8 (Zn hc8 ?_)))
 exact GL.jump (fun _ _ h => h) false h ⟨rfl, rfl, trivial⟩
 intro b5 H11 h
 replace h := hR7 b5 H11 h
 refine Zm ?_
 obtain ⟨J13, h, hR14⟩ := h
 refine GL.cut (α := Bool) 5 J13 (fun b12 => [(26, .bool b12), (1, pv (some (b1, 0)))]) ?_ ?_
 rcases Bool.eq_false_or_eq_true b5 with hc15 | hc15
 replace h := h.1 hc15
 refine Zu hc15 (OV.fieldAddr rfl rfl) ?_
 obtain ⟨x16, hr17, h⟩ := h
 refine Zu hc15 (OV.load rfl rfl hr17) (Zu hc15 (OV.lenSl rfl rfl) (Zu hc15 (OV.ibin (v := .bool (((Sl.len x16 : Int) : Int) == 0)) rfl rfl rfl) (Zt hc15 ?_)))
 exact GL.jump (fun _ _ h => h) (((Sl.len x16 : Int) : Int) == 0) h ⟨rfl, rfl, trivial⟩
 replace h := h.2 hc15
 refine Zk hc15 (Zk hc15 (Zk hc15 (Zk hc15 (Zn hc15 ?_))))
 exact GL.jump (fun _ _ h => h) false h ⟨rfl, rfl, trivial⟩
 intro b12 H18 h
 replace h := hR14 b12 H18 h
 refine Za (Za (GL.nil ?_))
 obtain ⟨J19, h, hR22⟩ := h
 refine GC.join (α := Bool × Bool) J19 (fun x20 => [(2, .bool x20.1), (3, .bool x20.2), (1, pv (some (b1, 0)))]) ?_ ?_
 refine Zo (Zf ?_)
 obtain ⟨x23, hr24, h⟩ := h
 refine Zl hr24 (GL.nil (GC.block (Zo (Zi (.bool ((x23 : Int) == 1)) (Za (GL.nil ?_))))))
 refine Zd (fun hc25 => ?_) fun hc25 => ?_
 replace h := h.1 hc25
 refine GC.region (Zf ?_)
 obtain ⟨x26, hr27, h⟩ := h
 refine Zl hr27 (Zi (.bool ((x26 : Int) == 0)) (Zm ?_))
 obtain ⟨J29, h, hR30⟩ := h
 refine GL.cut (α := Bool) 4 J29 (fun b28 => [(38, .bool b28), (1, pv (some (b1, 0))), (3, .bool true)]) ?_ ?_
 rcases Zb ((x26 : Int) == 0) with hc31 | hc31
 replace h := h.1 hc31
 refine Zk hc31 (Zk hc31 (Zk hc31 (Zt hc31 ?_)))
 exact GL.jump (fun _ _ h => h) true h ⟨rfl, rfl, rfl, trivial⟩
 replace h := h.2 hc31
 refine Zu hc31 (OV.fieldAddr rfl rfl) ?_
 obtain ⟨x32, hr33, h⟩ := h
 refine Zu hc31 (OV.load rfl rfl hr33) (Zu hc31 (OV.ibin (v := .bool ((x32 : Int) == 1)) rfl rfl rfl) (Zn hc31 ?_))
 exact GL.jump (fun _ _ h => h) ((x32 : Int) == 1) h ⟨rfl, rfl, rfl, trivial⟩
 intro b28 H34 h
 replace h := hR30 b28 H34 h
 refine Zm ?_
 obtain ⟨J36, h, hR37⟩ := h
 refine GL.cut (α := Bool) 4 J36 (fun b35 => [(43, .bool b35), (1, pv (some (b1, 0))), (3, .bool true)]) ?_ ?_
 rcases Bool.eq_false_or_eq_true b28 with hc38 | hc38
 replace h := h.1 hc38
 refine Zu hc38 (OV.fieldAddr rfl rfl) ?_
 obtain ⟨x39, hr40, h⟩ := h
 refine Zu hc38 (OV.load rfl rfl hr40) (Zu hc38 (OV.sbin (a := x39) (b := ([] : Str)) (v := .bool (x39 == ([] : Str))) rfl rfl rfl) (Zt hc38 ?_))
 exact GL.jump (fun _ _ h => h) (x39 == ([] : Str)) h ⟨rfl, rfl, rfl, trivial⟩
 replace h := h.2 hc38
 refine Zk hc38 (Zk hc38 (Zk hc38 (Zn hc38 ?_)))
 exact GL.jump (fun _ _ h => h) false h ⟨rfl, rfl, rfl, trivial⟩
 intro b35 H41 h
 replace h := hR37 b35 H41 h
 refine Zm ?_
 obtain ⟨J43, h, hR44⟩ := h
 refine GL.cut (α := Bool) 5 J43 (fun b42 => [(49, .bool b42), (1, pv (some (b1, 0))), (3, .bool true)]) ?_ ?_
 rcases Bool.eq_false_or_eq_true b35 with hc45 | hc45
 replace h := h.1 hc45
 refine Zu hc45 (OV.fieldAddr rfl rfl) ?_
 obtain ⟨x46, hr47, h⟩ := h
 refine Zu hc45 (OV.load rfl rfl hr47) (Zu hc45 (OV.lenSl rfl rfl) (Zu hc45 (OV.ibin (v := .bool (((Sl.len x46 : Int) : Int) == 0)) rfl rfl rfl) (Zt hc45 ?_)))
 exact GL.jump (fun _ _ h => h) (((Sl.len x46 : Int) : Int) == 0) h ⟨rfl, rfl, rfl, trivial⟩
 replace h := h.2 hc45
 refine Zk hc45 (Zk hc45 (Zk hc45 (Zk hc45 (Zn hc45 ?_))))
 exact GL.jump (fun _ _ h => h) false h ⟨rfl, rfl, rfl, trivial⟩
 intro b42 H48 h
 replace h := hR44 b42 H48 h
 refine Za ?_
 exact GL.jump (fun _ _ h => h) (b42, true) h ⟨rfl, rfl, rfl, trivial⟩
 replace h := h.2 hc25
 refine Zo (Zi (.bool ((x23 : Int) == 2)) (Za (GL.nil ?_)))
 refine Zd (fun hc49 => ?_) fun hc49 => ?_
 replace h := h.1 hc49
 refine GC.region (Zf ?_)
 obtain ⟨x50, hr51, h⟩ := h
 refine Zl hr51 (Zv (OV.sbin (a := x50) (b := ([] : Str)) (v := .bool (x50 == ([] : Str))) rfl rfl rfl) (Zm ?_))
 obtain ⟨J53, h, hR54⟩ := h
 refine GL.cut (α := Bool) 5 J53 (fun b52 => [(60, .bool b52), (1, pv (some (b1, 0))), (3, .bool true)]) ?_ ?_
 rcases Zb (x50 == ([] : Str)) with hc55 | hc55
 replace h := h.1 hc55
 refine Zu hc55 (OV.fieldAddr rfl rfl) ?_
 obtain ⟨x56, hr57, h⟩ := h
 refine Zu hc55 (OV.load rfl rfl hr57) (Zu hc55 (OV.lenSl rfl rfl) (Zu hc55 (OV.ibin (v := .bool (((Sl.len x56 : Int) : Int) == 0)) rfl rfl rfl) (Zt hc55 ?_)))
 exact GL.jump (fun _ _ h => h) (((Sl.len x56 : Int) : Int) == 0) h ⟨rfl, rfl, rfl, trivial⟩
 replace h := h.2 hc55
 refine Zk hc55 (Zk hc55 (Zk hc55 (Zk hc55 (Zn hc55 ?_))))
 exact GL.jump (fun _ _ h => h) false h ⟨rfl, rfl, rfl, trivial⟩
 intro b52 H58 h
 replace h := hR54 b52 H58 h
 refine Za ?_
 exact GL.jump (fun _ _ h => h) (b52, true) h ⟨rfl, rfl, rfl, trivial⟩
 replace h := h.2 hc49
 refine Zo (Zi (.bool ((x23 : Int) == 3)) (Za (GL.nil ?_)))
 refine Zd (fun hc59 => ?_) fun hc59 => ?_
 replace h := h.1 hc59
 refine Zo (Zf ?_)
 obtain ⟨x60, hr61, h⟩ := h
 refine Zl hr61 (Zc h ok_value_number ?_)
 rintro _ H64 ⟨r62, r63, rfl, h⟩
 refine Zm (Zv (OV.extract (v := .int .i64 r62) rfl rfl) (Zv (OV.extract (v := .bool r63) rfl rfl) (Za (Za (GL.nil (GC.region (Zm (Zm ?_))))))))
 obtain ⟨J66, h, hR67⟩ := h
 refine GL.cut (α := Bool) 4 J66 (fun b65 => [(74, .bool b65), (1, pv (some (b1, 0))), (4, .int .i64 r62)]) ?_ ?_
 rcases Bool.eq_false_or_eq_true r63 with hc68 | hc68
 replace h := h.1 hc68
 refine Zu hc68 (OV.fieldAddr rfl rfl) ?_
 obtain ⟨x69, hr70, h⟩ := h
 refine Zu hc68 (OV.load rfl rfl hr70) (Zu hc68 (OV.ibin (v := .bool ((x69 : Int) == 0)) rfl rfl rfl) (Zt hc68 ?_))
 exact GL.jump (fun _ _ h => h) ((x69 : Int) == 0) h ⟨rfl, rfl, rfl, trivial⟩
 replace h := h.2 hc68
 refine Zk hc68 (Zk hc68 (Zk hc68 (Zn hc68 ?_)))
 exact GL.jump (fun _ _ h => h) false h ⟨rfl, rfl, rfl, trivial⟩
 intro b65 H71 h
 replace h := hR67 b65 H71 h
 refine Zm ?_
 obtain ⟨J73, h, hR74⟩ := h
 refine GL.cut (α := Bool) 5 J73 (fun b72 => [(80, .bool b72), (1, pv (some (b1, 0))), (4, .int .i64 r62)]) ?_ ?_
 rcases Bool.eq_false_or_eq_true b65 with hc75 | hc75
 replace h := h.1 hc75
 refine Zu hc75 (OV.fieldAddr rfl rfl) ?_
 obtain ⟨x76, hr77, h⟩ := h
 refine Zu hc75 (OV.load rfl rfl hr77) (Zu hc75 (OV.lenSl rfl rfl) (Zu hc75 (OV.ibin (v := .bool (((Sl.len x76 : Int) : Int) == 0)) rfl rfl rfl) (Zt hc75 ?_)))
 exact GL.jump (fun _ _ h => h) (((Sl.len x76 : Int) : Int) == 0) h ⟨rfl, rfl, rfl, trivial⟩
 replace h := h.2 hc75
 refine Zk hc75 (Zk hc75 (Zk hc75 (Zk hc75 (Zn hc75 ?_))))
 exact GL.jump (fun _ _ h => h) false h ⟨rfl, rfl, rfl, trivial⟩
 intro b72 H78 h
 replace h := hR74 b72 H78 h
 refine Zm (Zi (.bool (decide ((r62 : Int) ≤ 200))) (Za (Za ?_)))
 exact GL.jump (fun _ _ h => h) (b72, (decide ((r62 : Int) ≤ 200))) h ⟨rfl, rfl, rfl, trivial⟩
 replace h := h.2 hc59
 refine Zo (Zi (.bool ((x23 : Int) == 4)) (Za (GL.nil ?_)))
 refine Zd (fun hc79 => ?_) fun hc79 => ?_
 replace h := h.1 hc79
 obtain ⟨J80, h, hR83⟩ := h
 refine GC.meet (α := Bool × Bool) J80 (fun x81 => [(2, .bool x81.1), (3, .bool x81.2), (1, pv (some (b1, 0)))]) ?_ ?_
 obtain ⟨Hs84, hle85, h⟩ := h
 refine GC.any (Hs := Hs84) (by kernel_rfl) hle85 (Zp 0 rfl (OV.fieldAddr rfl rfl) ?_)
 obtain ⟨x86, hr87, h⟩ := h
 refine Zp 1 rfl (OV.load rfl rfl hr87) (Zp 2 rfl (OV.ibin (v := .bool ((x86 : Int) == 0)) rfl rfl rfl) (Zp 3 rfl (OV.move rfl) (Zp 9 rfl (OV.fieldAddr rfl rfl) ?_)))
 obtain ⟨x88, hr89, h⟩ := h
 refine Zp 10 rfl (OV.load rfl rfl hr89) (Zp 11 rfl (OV.lenStr rfl rfl) (Zp 12 rfl (OV.ibin (v := .bool (decide (((List.length x88 : Int) : Int) ≤ 4096))) rfl rfl rfl) ?_))
 rcases Zb ((x86 : Int) == 0) with hc90 | hc90
 replace h := h.1 hc90
 refine Zg 4 rfl ⟨_, _, rfl, rfl, hc90⟩ (OV.fieldAddr rfl rfl) ?_
 obtain ⟨x91, hr92, h⟩ := h
 refine Zg 5 rfl ⟨_, _, rfl, rfl, hc90⟩ (OV.load rfl rfl hr92) (Zg 6 rfl ⟨_, _, rfl, rfl, hc90⟩ (OV.lenSl rfl rfl) (Zg 7 rfl ⟨_, _, rfl, rfl, hc90⟩ (OV.ibin (v := .bool (((Sl.len x91 : Int) : Int) == 0)) rfl rfl rfl) (Zp 8 rfl (OV.pickT rfl hc90 rfl) (Zp 13 rfl (OV.assign rfl) (Zp 14 rfl (OV.assign rfl) (GA.done (by kernel_rfl) ?_))))))
 exact GL.jump (fun _ _ h => h) ((((Sl.len x91 : Int) : Int) == 0), (decide (((List.length x88 : Int) : Int) ≤ 4096))) h ⟨rfl, rfl, rfl, trivial⟩
 replace h := h.2 hc90
 refine Zj 4 rfl ⟨_, rfl, .inl ⟨_, rfl, hc90⟩⟩ (Zj 5 rfl ⟨_, rfl, .inl ⟨_, rfl, hc90⟩⟩ (Zj 6 rfl ⟨_, rfl, .inl ⟨_, rfl, hc90⟩⟩ (Zj 7 rfl ⟨_, rfl, .inl ⟨_, rfl, hc90⟩⟩ (Zp 8 rfl (OV.pickF rfl hc90 rfl) (Zp 13 rfl (OV.assign rfl) (Zp 14 rfl (OV.assign rfl) (GA.done (by kernel_rfl) ?_)))))))
 exact GL.jump (fun _ _ h => h) (false, (decide (((List.length x88 : Int) : Int) ≤ 4096))) h ⟨rfl, rfl, rfl, trivial⟩
 intro x81 H82 h
 replace h := hR83 x81 H82 h
 exact GL.jump (fun _ _ h => h) (x81.1, x81.2) h ⟨rfl, rfl, rfl, trivial⟩
 replace h := h.2 hc79
 refine Zo (Zi (.bool ((x23 : Int) == 5)) (Za (GL.nil ?_)))
 refine Zd (fun hc93 => ?_) fun hc93 => ?_
 replace h := h.1 hc93
 obtain ⟨J94, h, hR97⟩ := h
 refine GC.meet (α := Bool × Bool) J94 (fun x95 => [(2, .bool x95.1), (3, .bool x95.2), (1, pv (some (b1, 0)))]) ?_ ?_
 obtain ⟨Hs98, hle99, h⟩ := h
 refine GC.any (Hs := Hs98) (by kernel_rfl) hle99 (Zp 0 rfl (OV.fieldAddr rfl rfl) ?_)
 obtain ⟨x100, hr101, h⟩ := h
 refine Zp 1 rfl (OV.load rfl rfl hr101) (Zp 2 rfl (OV.ibin (v := .bool ((x100 : Int) == 0)) rfl rfl rfl) (Zp 3 rfl (OV.move rfl) (Zp 14 rfl (OV.fieldAddr rfl rfl) ?_)))
 obtain ⟨x102, hr103, h⟩ := h
 refine Zp 15 rfl (OV.load rfl rfl hr103) (Zp 16 rfl (OV.lenSl rfl rfl) (Zp 17 rfl (OV.ibin (v := .bool (decide (((Sl.len x102 : Int) : Int) ≤ 16))) rfl rfl rfl) ?_))
 rcases Zb ((x100 : Int) == 0) with hc104 | hc104
 replace h := h.1 hc104
 refine Zg 4 rfl ⟨_, _, rfl, rfl, hc104⟩ (OV.fieldAddr rfl rfl) ?_
 obtain ⟨x105, hr106, h⟩ := h
 refine Zg 5 rfl ⟨_, _, rfl, rfl, hc104⟩ (OV.load rfl rfl hr106) (Zg 6 rfl ⟨_, _, rfl, rfl, hc104⟩ (OV.sbin (a := x105) (b := ([] : Str)) (v := .bool (x105 == ([] : Str))) rfl rfl rfl) (Zp 7 rfl (OV.pickT rfl hc104 rfl) (Zp 8 rfl (OV.move rfl) ?_)))
 rcases Zb (x105 == ([] : Str)) with hc107 | hc107
 replace h := h.1 hc107
 refine Zg 9 rfl ⟨_, _, rfl, rfl, hc107⟩ (OV.fieldAddr rfl rfl) ?_
 obtain ⟨x108, hr109, h⟩ := h
 refine Zg 10 rfl ⟨_, _, rfl, rfl, hc107⟩ (OV.load rfl rfl hr109) (Zg 11 rfl ⟨_, _, rfl, rfl, hc107⟩ (OV.lenSl rfl rfl) (Zg 12 rfl ⟨_, _, rfl, rfl, hc107⟩ (OV.ibin (v := .bool (((Sl.len x108 : Int) : Int) != 1)) rfl rfl rfl) (Zp 13 rfl (OV.pickT rfl hc107 rfl) (Zp 18 rfl (OV.assign rfl) (Zp 19 rfl (OV.assign rfl) (GA.done (by kernel_rfl) ?_))))))
 exact GL.jump (fun _ _ h => h) ((((Sl.len x108 : Int) : Int) != 1), (decide (((Sl.len x102 : Int) : Int) ≤ 16))) h ⟨rfl, rfl, rfl, trivial⟩
 replace h := h.2 hc107
 refine Zj 9 rfl ⟨_, rfl, .inl ⟨_, rfl, hc107⟩⟩ (Zj 10 rfl ⟨_, rfl, .inl ⟨_, rfl, hc107⟩⟩ (Zj 11 rfl ⟨_, rfl, .inl ⟨_, rfl, hc107⟩⟩ (Zj 12 rfl ⟨_, rfl, .inl ⟨_, rfl, hc107⟩⟩ (Zp 13 rfl (OV.pickF rfl hc107 rfl) (Zp 18 rfl (OV.assign rfl) (Zp 19 rfl (OV.assign rfl) (GA.done (by kernel_rfl) ?_)))))))
 exact GL.jump (fun _ _ h => h) (false, (decide (((Sl.len x102 : Int) : Int) ≤ 16))) h ⟨rfl, rfl, rfl, trivial⟩
 replace h := h.2 hc104
 refine Zj 4 rfl ⟨_, rfl, .inl ⟨_, rfl, hc104⟩⟩ (Zj 5 rfl ⟨_, rfl, .inl ⟨_, rfl, hc104⟩⟩ (Zj 6 rfl ⟨_, rfl, .inl ⟨_, rfl, hc104⟩⟩ (Zp 7 rfl (OV.pickF rfl hc104 rfl) (Zp 8 rfl (OV.move rfl) (Zj 9 rfl ⟨_, rfl, .inl ⟨_, rfl, rfl⟩⟩ (Zj 10 rfl ⟨_, rfl, .inl ⟨_, rfl, rfl⟩⟩ (Zj 11 rfl ⟨_, rfl, .inl ⟨_, rfl, rfl⟩⟩ (Zj 12 rfl ⟨_, rfl, .inl ⟨_, rfl, rfl⟩⟩ (Zp 13 rfl (OV.pickF rfl rfl rfl) (Zp 18 rfl (OV.assign rfl) (Zp 19 rfl (OV.assign rfl) ?_)))))))))))
 refine GA.done (by kernel_rfl) ?_
 exact GL.jump (fun _ _ h => h) (false, (decide (((Sl.len x102 : Int) : Int) ≤ 16))) h ⟨rfl, rfl, rfl, trivial⟩
 intro x95 H96 h
 replace h := hR97 x95 H96 h
 exact GL.jump (fun _ _ h => h) (x95.1, x95.2) h ⟨rfl, rfl, rfl, trivial⟩
 replace h := h.2 hc93
 refine Zo (Zi (.bool ((x23 : Int) == 6)) (Za (GL.nil ?_)))
 refine Zd (fun hc110 => ?_) fun hc110 => ?_
 replace h := h.1 hc110
 refine Zo (Zf ?_)
 obtain ⟨x111, hr112, h⟩ := h
 refine Zl hr112 (Zc h ok_strings_Cut ?_)
 rintro _ H116 ⟨r113, r114, r115, rfl, h⟩
 refine Zm (Zv (OV.extract (v := sv r113) rfl rfl) (Zv (OV.extract (v := sv r114) rfl rfl) (Zv (OV.extract (v := .bool r115) rfl rfl) (Za (Za (Za (GL.nil ?_)))))))
 obtain ⟨J117, h, hR120⟩ := h
 refine GC.meet (α := Bool × Bool) J117 (fun x118 => [(2, .bool x118.1), (3, .bool x118.2), (1, pv (some (b1, 0)))]) ?_ ?_
 obtain ⟨Hs121, hle122, h⟩ := h
 refine GC.any (Hs := Hs121) (by kernel_rfl) hle122 (Zp 0 rfl (OV.fieldAddr rfl rfl) ?_)
 obtain ⟨x123, hr124, h⟩ := h
 refine Zp 1 rfl (OV.load rfl rfl hr124) (Zp 2 rfl (OV.ibin (v := .bool ((x123 : Int) == 0)) rfl rfl rfl) (Zp 3 rfl (OV.move rfl) (Zp 28 rfl (OV.fieldAddr rfl rfl) ?_)))
 obtain ⟨x125, hr126, h⟩ := h
 refine Zp 29 rfl (OV.load rfl rfl hr126) (Zp 30 rfl (OV.lenSl rfl rfl) (Zp 31 rfl (OV.ibin (v := .bool (decide (((Sl.len x125 : Int) : Int) ≤ 8))) rfl rfl rfl) ?_))
 rcases Zb ((x123 : Int) == 0) with hc127 | hc127
 replace h := h.1 hc127
 refine Zg 4 rfl ⟨_, _, rfl, rfl, hc127⟩ (OV.move rfl) (GA.eff 5 rfl (by kernel_rfl) (GL.call h ⟨_, _, rfl, rfl, hc127⟩ rfl ok_value_name (vs := [sv r113]) rfl ?_))
 rintro _ H130 ⟨r129, rfl, h⟩
 obtain ⟨hle128, h⟩ := h
 refine GA.back hle128 (Zp 6 rfl (OV.pickT rfl hc127 rfl) (Zp 7 rfl (OV.move rfl) ?_))
 rcases Bool.eq_false_or_eq_true r129 with hc131 | hc131
 replace h := h.1 hc131
 refine Zg 8 rfl ⟨_, _, rfl, rfl, hc131⟩ (OV.move rfl) (Zg 9 rfl ⟨_, _, rfl, rfl, hc131⟩ (OV.move rfl) ?_)
 rcases Bool.eq_false_or_eq_true r115 with hc132 | hc132
 replace h := h.1 hc132
 refine Zg 10 rfl ⟨_, _, rfl, rfl, hc132⟩ (OV.move rfl) (GA.eff 11 rfl (by kernel_rfl) (GL.call h ⟨_, _, rfl, rfl, hc132⟩ rfl ok_value_name (vs := [sv r114]) rfl ?_))
 rintro _ H135 ⟨r134, rfl, h⟩
 obtain ⟨hle133, h⟩ := h
 refine GA.back hle133 (Zg 12 rfl ⟨_, _, rfl, rfl, hc131⟩ (OV.pickT rfl hc132 rfl) (Zg 13 rfl ⟨_, _, rfl, rfl, hc131⟩ (OV.move rfl) ?_))
 rcases Bool.eq_false_or_eq_true r134 with hc136 | hc136
 replace h := h.1 hc136
 refine Zj 14 rfl ⟨_, rfl, .inl ⟨_, rfl, hc136⟩⟩ (Zj 15 rfl ⟨_, rfl, .inl ⟨_, rfl, hc136⟩⟩ (Zj 16 rfl ⟨_, rfl, .inl ⟨_, rfl, hc136⟩⟩ (Zj 17 rfl ⟨_, rfl, .inr rfl⟩ (Zj 18 rfl ⟨_, rfl, .inr rfl⟩ (Zj 19 rfl ⟨_, rfl, .inr rfl⟩ (Zj 20 rfl ⟨_, rfl, .inl ⟨_, rfl, hc136⟩⟩ (Zj 21 rfl ⟨_, rfl, .inl ⟨_, rfl, hc136⟩⟩ (Zj 22 rfl ⟨_, rfl, .inr rfl⟩ (Zj 23 rfl ⟨_, rfl, .inr rfl⟩ (Zj 24 rfl ⟨_, rfl, .inr rfl⟩ (Zj 25 rfl ⟨_, rfl, .inl ⟨_, rfl, hc136⟩⟩ ?_)))))))))))
 refine Zg 26 rfl ⟨_, _, rfl, rfl, hc131⟩ (OV.pickT rfl hc136 rfl) (Zp 27 rfl (OV.pickT rfl hc131 rfl) (Zp 32 rfl (OV.assign rfl) (Zp 33 rfl (OV.assign rfl) (GA.done (by kernel_rfl) ?_))))
 exact GL.jump (fun _ _ h => h) (true, (decide (((Sl.len x125 : Int) : Int) ≤ 8))) h ⟨rfl, rfl, rfl, trivial⟩
 replace h := h.2 hc136
 refine Zg 14 rfl ⟨_, _, rfl, rfl, hc136⟩ (OV.move rfl) (Zg 15 rfl ⟨_, _, rfl, rfl, hc136⟩ (OV.not rfl) (Zg 16 rfl ⟨_, _, rfl, rfl, hc136⟩ (OV.move rfl) ?_))
 rcases Zb (!r115) with hc137 | hc137
 replace h := h.1 hc137
 refine Zg 17 rfl ⟨_, _, rfl, rfl, hc137⟩ (OV.fieldAddr rfl rfl) ?_
 obtain ⟨x138, hr139, h⟩ := h
 refine Zg 18 rfl ⟨_, _, rfl, rfl, hc137⟩ (OV.load rfl rfl hr139) (Zg 19 rfl ⟨_, _, rfl, rfl, hc137⟩ (OV.sbin (a := x138) (b := ([116, 114, 117, 101] : Str)) (v := .bool (!(x138 == ([116, 114, 117, 101] : Str)))) rfl rfl rfl) (Zg 20 rfl ⟨_, _, rfl, rfl, hc136⟩ (OV.pickT rfl hc137 rfl) (Zg 21 rfl ⟨_, _, rfl, rfl, hc136⟩ (OV.move rfl) ?_)))
 rcases Zb (!(x138 == ([116, 114, 117, 101] : Str))) with hc140 | hc140
 replace h := h.1 hc140
 refine Zg 22 rfl ⟨_, _, rfl, rfl, hc140⟩ (OV.fieldAddr rfl rfl) ?_
 obtain ⟨x141, hr142, h⟩ := h
 refine Zg 23 rfl ⟨_, _, rfl, rfl, hc140⟩ (OV.load rfl rfl hr142) (Zg 24 rfl ⟨_, _, rfl, rfl, hc140⟩ (OV.sbin (a := x141) (b := ([102, 97, 108, 115, 101] : Str)) (v := .bool (!(x141 == ([102, 97, 108, 115, 101] : Str)))) rfl rfl rfl) (Zg 25 rfl ⟨_, _, rfl, rfl, hc136⟩ (OV.pickT rfl hc140 rfl) (Zg 26 rfl ⟨_, _, rfl, rfl, hc131⟩ (OV.pickF rfl hc136 rfl) (Zp 27 rfl (OV.pickT rfl hc131 rfl) (Zp 32 rfl (OV.assign rfl) (Zp 33 rfl (OV.assign rfl) (GA.done (by kernel_rfl) ?_)))))))
 exact GL.jump (fun _ _ h => h) ((!(x141 == ([102, 97, 108, 115, 101] : Str))), (decide (((Sl.len x125 : Int) : Int) ≤ 8))) h ⟨rfl, rfl, rfl, trivial⟩
 replace h := h.2 hc140
 refine Zj 22 rfl ⟨_, rfl, .inl ⟨_, rfl, hc140⟩⟩ (Zj 23 rfl ⟨_, rfl, .inl ⟨_, rfl, hc140⟩⟩ (Zj 24 rfl ⟨_, rfl, .inl ⟨_, rfl, hc140⟩⟩ (Zg 25 rfl ⟨_, _, rfl, rfl, hc136⟩ (OV.pickF rfl hc140 rfl) (Zg 26 rfl ⟨_, _, rfl, rfl, hc131⟩ (OV.pickF rfl hc136 rfl) (Zp 27 rfl (OV.pickT rfl hc131 rfl) (Zp 32 rfl (OV.assign rfl) (Zp 33 rfl (OV.assign rfl) (GA.done (by kernel_rfl) ?_))))))))
 exact GL.jump (fun _ _ h => h) (false, (decide (((Sl.len x125 : Int) : Int) ≤ 8))) h ⟨rfl, rfl, rfl, trivial⟩
 replace h := h.2 hc137
 refine Zj 17 rfl ⟨_, rfl, .inl ⟨_, rfl, hc137⟩⟩ (Zj 18 rfl ⟨_, rfl, .inl ⟨_, rfl, hc137⟩⟩ (Zj 19 rfl ⟨_, rfl, .inl ⟨_, rfl, hc137⟩⟩ (Zg 20 rfl ⟨_, _, rfl, rfl, hc136⟩ (OV.pickF rfl hc137 rfl) (Zg 21 rfl ⟨_, _, rfl, rfl, hc136⟩ (OV.move rfl) (Zj 22 rfl ⟨_, rfl, .inl ⟨_, rfl, rfl⟩⟩ (Zj 23 rfl ⟨_, rfl, .inl ⟨_, rfl, rfl⟩⟩ (Zj 24 rfl ⟨_, rfl, .inl ⟨_, rfl, rfl⟩⟩ (Zg 25 rfl ⟨_, _, rfl, rfl, hc136⟩ (OV.pickF rfl rfl rfl) (Zg 26 rfl ⟨_, _, rfl, rfl, hc131⟩ (OV.pickF rfl hc136 rfl) (Zp 27 rfl (OV.pickT rfl hc131 rfl) (Zp 32 rfl (OV.assign rfl) ?_)))))))))))
 refine Zp 33 rfl (OV.assign rfl) (GA.done (by kernel_rfl) ?_)
 exact GL.jump (fun _ _ h => h) (false, (decide (((Sl.len x125 : Int) : Int) ≤ 8))) h ⟨rfl, rfl, rfl, trivial⟩
 replace h := h.2 hc132
 refine Zj 10 rfl ⟨_, rfl, .inl ⟨_, rfl, hc132⟩⟩ (Zj 11 rfl ⟨_, rfl, .inl ⟨_, rfl, hc132⟩⟩ (Zg 12 rfl ⟨_, _, rfl, rfl, hc131⟩ (OV.pickF rfl hc132 rfl) (Zg 13 rfl ⟨_, _, rfl, rfl, hc131⟩ (OV.move rfl) (Zg 14 rfl ⟨_, _, rfl, rfl, rfl⟩ (OV.move rfl) (Zg 15 rfl ⟨_, _, rfl, rfl, rfl⟩ (OV.not rfl) (Zg 16 rfl ⟨_, _, rfl, rfl, rfl⟩ (OV.move rfl) ?_))))))
 rcases Zb (!r115) with hc143 | hc143
 replace h := h.1 hc143
 refine Zg 17 rfl ⟨_, _, rfl, rfl, hc143⟩ (OV.fieldAddr rfl rfl) ?_
 obtain ⟨x144, hr145, h⟩ := h
 refine Zg 18 rfl ⟨_, _, rfl, rfl, hc143⟩ (OV.load rfl rfl hr145) (Zg 19 rfl ⟨_, _, rfl, rfl, hc143⟩ (OV.sbin (a := x144) (b := ([116, 114, 117, 101] : Str)) (v := .bool (!(x144 == ([116, 114, 117, 101] : Str)))) rfl rfl rfl) (Zg 20 rfl ⟨_, _, rfl, rfl, rfl⟩ (OV.pickT rfl hc143 rfl) (Zg 21 rfl ⟨_, _, rfl, rfl, rfl⟩ (OV.move rfl) ?_)))
 rcases Zb (!(x144 == ([116, 114, 117, 101] : Str))) with hc146 | hc146
 replace h := h.1 hc146
 refine Zg 22 rfl ⟨_, _, rfl, rfl, hc146⟩ (OV.fieldAddr rfl rfl) ?_
 obtain ⟨x147, hr148, h⟩ := h
 refine Zg 23 rfl ⟨_, _, rfl, rfl, hc146⟩ (OV.load rfl rfl hr148) (Zg 24 rfl ⟨_, _, rfl, rfl, hc146⟩ (OV.sbin (a := x147) (b := ([102, 97, 108, 115, 101] : Str)) (v := .bool (!(x147 == ([102, 97, 108, 115, 101] : Str)))) rfl rfl rfl) (Zg 25 rfl ⟨_, _, rfl, rfl, rfl⟩ (OV.pickT rfl hc146 rfl) (Zg 26 rfl ⟨_, _, rfl, rfl, hc131⟩ (OV.pickF rfl rfl rfl) (Zp 27 rfl (OV.pickT rfl hc131 rfl) (Zp 32 rfl (OV.assign rfl) (Zp 33 rfl (OV.assign rfl) (GA.done (by kernel_rfl) ?_)))))))
 exact GL.jump (fun _ _ h => h) ((!(x147 == ([102, 97, 108, 115, 101] : Str))), (decide (((Sl.len x125 : Int) : Int) ≤ 8))) h ⟨rfl, rfl, rfl, trivial⟩
 replace h := h.2 hc146
 refine Zj 22 rfl ⟨_, rfl, .inl ⟨_, rfl, hc146⟩⟩ (Zj 23 rfl ⟨_, rfl, .inl ⟨_, rfl, hc146⟩⟩ (Zj 24 rfl ⟨_, rfl, .inl ⟨_, rfl, hc146⟩⟩ (Zg 25 rfl ⟨_, _, rfl, rfl, rfl⟩ (OV.pickF rfl hc146 rfl) (Zg 26 rfl ⟨_, _, rfl, rfl, hc131⟩ (OV.pickF rfl rfl rfl) (Zp 27 rfl (OV.pickT rfl hc131 rfl) (Zp 32 rfl (OV.assign rfl) (Zp 33 rfl (OV.assign rfl) (GA.done (by kernel_rfl) ?_))))))))
 exact GL.jump (fun _ _ h => h) (false, (decide (((Sl.len x125 : Int) : Int) ≤ 8))) h ⟨rfl, rfl, rfl, trivial⟩
 replace h := h.2 hc143
 refine Zj 17 rfl ⟨_, rfl, .inl ⟨_, rfl, hc143⟩⟩ (Zj 18 rfl ⟨_, rfl, .inl ⟨_, rfl, hc143⟩⟩ (Zj 19 rfl ⟨_, rfl, .inl ⟨_, rfl, hc143⟩⟩ (Zg 20 rfl ⟨_, _, rfl, rfl, rfl⟩ (OV.pickF rfl hc143 rfl) (Zg 21 rfl ⟨_, _, rfl, rfl, rfl⟩ (OV.move rfl) (Zj 22 rfl ⟨_, rfl, .inl ⟨_, rfl, rfl⟩⟩ (Zj 23 rfl ⟨_, rfl, .inl ⟨_, rfl, rfl⟩⟩ (Zj 24 rfl ⟨_, rfl, .inl ⟨_, rfl, rfl⟩⟩ (Zg 25 rfl ⟨_, _, rfl, rfl, rfl⟩ (OV.pickF rfl rfl rfl) (Zg 26 rfl ⟨_, _, rfl, rfl, hc131⟩ (OV.pickF rfl rfl rfl) (Zp 27 rfl (OV.pickT rfl hc131 rfl) (Zp 32 rfl (OV.assign rfl) ?_)))))))))))
 refine Zp 33 rfl (OV.assign rfl) (GA.done (by kernel_rfl) ?_)
 exact GL.jump (fun _ _ h => h) (false, (decide (((Sl.len x125 : Int) : Int) ≤ 8))) h ⟨rfl, rfl, rfl, trivial⟩
 replace h := h.2 hc131
 refine Zj 8 rfl ⟨_, rfl, .inl ⟨_, rfl, hc131⟩⟩ (Zj 9 rfl ⟨_, rfl, .inl ⟨_, rfl, hc131⟩⟩ (Zj 10 rfl ⟨_, rfl, .inr rfl⟩ (Zj 11 rfl ⟨_, rfl, .inr rfl⟩ (Zj 12 rfl ⟨_, rfl, .inl ⟨_, rfl, hc131⟩⟩ (Zj 13 rfl ⟨_, rfl, .inl ⟨_, rfl, hc131⟩⟩ (Zj 14 rfl ⟨_, rfl, .inr rfl⟩ (Zj 15 rfl ⟨_, rfl, .inr rfl⟩ (Zj 16 rfl ⟨_, rfl, .inr rfl⟩ (Zj 17 rfl ⟨_, rfl, .inr rfl⟩ (Zj 18 rfl ⟨_, rfl, .inr rfl⟩ (Zj 19 rfl ⟨_, rfl, .inr rfl⟩ ?_)))))))))))
 refine Zj 20 rfl ⟨_, rfl, .inr rfl⟩ (Zj 21 rfl ⟨_, rfl, .inr rfl⟩ (Zj 22 rfl ⟨_, rfl, .inr rfl⟩ (Zj 23 rfl ⟨_, rfl, .inr rfl⟩ (Zj 24 rfl ⟨_, rfl, .inr rfl⟩ (Zj 25 rfl ⟨_, rfl, .inr rfl⟩ (Zj 26 rfl ⟨_, rfl, .inl ⟨_, rfl, hc131⟩⟩ (Zp 27 rfl (OV.pickF rfl hc131 rfl) (Zp 32 rfl (OV.assign rfl) (Zp 33 rfl (OV.assign rfl) (GA.done (by kernel_rfl) ?_))))))))))
 exact GL.jump (fun _ _ h => h) (false, (decide (((Sl.len x125 : Int) : Int) ≤ 8))) h ⟨rfl, rfl, rfl, trivial⟩
 replace h := h.2 hc127
 refine Zj 4 rfl ⟨_, rfl, .inl ⟨_, rfl, hc127⟩⟩ (Zj 5 rfl ⟨_, rfl, .inl ⟨_, rfl, hc127⟩⟩ (Zp 6 rfl (OV.pickF rfl hc127 rfl) (Zp 7 rfl (OV.move rfl) (Zj 8 rfl ⟨_, rfl, .inl ⟨_, rfl, rfl⟩⟩ (Zj 9 rfl ⟨_, rfl, .inl ⟨_, rfl, rfl⟩⟩ (Zj 10 rfl ⟨_, rfl, .inr rfl⟩ (Zj 11 rfl ⟨_, rfl, .inr rfl⟩ (Zj 12 rfl ⟨_, rfl, .inl ⟨_, rfl, rfl⟩⟩ (Zj 13 rfl ⟨_, rfl, .inl ⟨_, rfl, rfl⟩⟩ (Zj 14 rfl ⟨_, rfl, .inr rfl⟩ (Zj 15 rfl ⟨_, rfl, .inr rfl⟩ ?_)))))))))))
 refine Zj 16 rfl ⟨_, rfl, .inr rfl⟩ (Zj 17 rfl ⟨_, rfl, .inr rfl⟩ (Zj 18 rfl ⟨_, rfl, .inr rfl⟩ (Zj 19 rfl ⟨_, rfl, .inr rfl⟩ (Zj 20 rfl ⟨_, rfl, .inr rfl⟩ (Zj 21 rfl ⟨_, rfl, .inr rfl⟩ (Zj 22 rfl ⟨_, rfl, .inr rfl⟩ (Zj 23 rfl ⟨_, rfl, .inr rfl⟩ (Zj 24 rfl ⟨_, rfl, .inr rfl⟩ (Zj 25 rfl ⟨_, rfl, .inr rfl⟩ (Zj 26 rfl ⟨_, rfl, .inl ⟨_, rfl, rfl⟩⟩ (Zp 27 rfl (OV.pickF rfl rfl rfl) ?_)))))))))))
 refine Zp 32 rfl (OV.assign rfl) (Zp 33 rfl (OV.assign rfl) (GA.done (by kernel_rfl) ?_))
 exact GL.jump (fun _ _ h => h) (false, (decide (((Sl.len x125 : Int) : Int) ≤ 8))) h ⟨rfl, rfl, rfl, trivial⟩
 intro x118 H119 h
 replace h := hR120 x118 H119 h
 exact GL.jump (fun _ _ h => h) (x118.1, x118.2) h ⟨rfl, rfl, rfl, trivial⟩
 replace h := h.2 hc110
 refine GC.region (Za ?_)
 exact GL.jump (fun _ _ h => h) (false, true) h ⟨rfl, rfl, rfl, trivial⟩
 intro x20 H21 h
 replace h := hR22 x20 H21 h
 refine GC.seq (Zo (Zf ?_))
 obtain ⟨x149, hr150, h⟩ := h
 refine Zl hr150 (Zq (Zm (GL.nil (GC.block (GC.loop (α := Bool × Bool × Int) h (fun x151 => [(2, .bool x151.1), (3, .bool x151.2.1), (162, .int .i64 x151.2.2), (160, slv x149), (161, .int .i64 (Sl.len x149 : Int))]) ⟨rfl, rfl, rfl, rfl, rfl, trivial⟩ ?_)))))
 intro x151 H153 J152 h
 refine Zo (Zi (.bool (decide ((x151.2.2 : Int) < (Sl.len x149 : Int)))) (GL.nil (GC.seq ?_)))
 refine Zd (fun hc154 => ?_) fun hc154 => ?_
 replace h := h.1 hc154
 refine GC.skip (GC.seq (GC.block (Zo ?_)))
 obtain ⟨p155, ha156, hb157, hc158, hd159, h⟩ := h
 refine Zx ha156 hb157 hc158 hd159 ?_
 obtain ⟨x160, hr161, h⟩ := h
 refine Zv (OV.loadT rfl rfl rfl hr161) (GL.alloc (cs := T_api_Value.c T_api_Value.zero) h trivial rfl rfl rfl ?_)
 intro b162 H163 h
 refine GL.storeT (p := (b162, 0)) (vs := T_api_Value.c x160) h trivial rfl rfl rfl rfl ?_
 intro H164 h
 refine GL.nil (Zo ?_)
 obtain ⟨x165, hr166, h⟩ := h
 refine Zv (OV.loadT rfl rfl rfl hr166) (Zc h ok_value_item_look ?_)
 rintro _ H169 ⟨r167, r168, rfl, h⟩
 refine Zm (Zv (OV.extract (v := .bool r167) rfl rfl) (Zv (OV.extract (v := .bool r168) rfl rfl) (Za (Za (GL.nil (GC.region (Zm (Zm ?_))))))))
 refine GL.cut0 2 [(174, .bool (x151.1 && r167)), (3, .bool x151.2.1), (12, .bool r168), (160, slv x149), (161, .int .i64 (Sl.len x149 : Int)), (162, .int .i64 x151.2.2)] ?_ ?_
 rcases Bool.eq_false_or_eq_true x151.1 with hc170 | hc170
 refine Zu hc170 (OV.move rfl) (Zt hc170 ?_)
 exact GL.jump0 (fun _ _ h => h) () rfl ⟨(by rw [hc170]; rfl), rfl, rfl, rfl, rfl, rfl, trivial⟩
 refine Zk hc170 (Zn hc170 ?_)
 exact GL.jump0 (fun _ _ h => h) () rfl ⟨(by rw [hc170]; rfl), rfl, rfl, rfl, rfl, rfl, trivial⟩
 refine Zm (Zm ?_)
 refine GL.cut0 2 [(178, .bool (x151.2.1 && r168)), (160, slv x149), (161, .int .i64 (Sl.len x149 : Int)), (162, .int .i64 x151.2.2), (174, .bool (x151.1 && r167))] ?_ ?_
 rcases Bool.eq_false_or_eq_true x151.2.1 with hc171 | hc171
 refine Zu hc171 (OV.move rfl) (Zt hc171 ?_)
 exact GL.jump0 (fun _ _ h => h) () rfl ⟨(by rw [hc171]; rfl), rfl, rfl, rfl, rfl, trivial⟩
 refine Zk hc171 (Zn hc171 ?_)
 exact GL.jump0 (fun _ _ h => h) () rfl ⟨(by rw [hc171]; rfl), rfl, rfl, rfl, rfl, trivial⟩
 refine Za (Za (GL.nil_to (fun _ _ h => h) (GC.region (Zi (.int .i64 (w .i64 (x151.2.2 + 1))) (Zm ?_)))))
 exact GL.jump (fun _ _ h => h) ((x151.1 && r167), (x151.2.1 && r168), (w .i64 (x151.2.2 + 1))) h ⟨rfl, rfl, rfl, rfl, rfl, trivial⟩
 replace h := h.2 hc154
 refine GC.exit_to (fun _ _ h => h) (Zo (Zm (Zm (Za (Za (GL.nil ?_))))))
 exact GC.ret (fun _ _ hf hs => post_tmp2 rfl rfl rfl hf hs ⟨x151.1, x151.2.1, rfl, h⟩)
def sh_slices_IndexFunc_zset_Entry_zset_Entry (C : Ctx) (p_s : Sl) (p_f : Value) (K : Int → Heap → Prop) (H : Heap) : Prop :=
 lp (α := Int) 0 H (fun x1 J2 H3 =>
 ift (decide ((x1 : Int) < (Sl.len p_s : Int)))
 (ixa p_s x1 fun p5 =>
 ldT H3 T_zset_Entry.c (p5.1, p5.2 + (x1 : Int).toNat * 2) fun x10 =>
 callU Tryz.prog C p_f [.agg (T_zset_Entry.c x10).toArray] H3 (fun v H13 => ∃ (r12 : Bool), v = .bool r12 ∧
 ift r12
 (K x1 H13)
 (J2 (w .i64 (x1 + 1)) H13)))
 (K (-1) H3))
theorem ad_slices_IndexFunc_zset_Entry_zset_Entry (C : Ctx) (p_s : Sl) (p_f : Value) (K : Int → Heap → Prop) (H : Heap) (h : sh_slices_IndexFunc_zset_Entry_zset_Entry C p_s p_f K H) : c_slices_IndexFunc_zset_Entry_zset_Entry C p_s p_f K H := by
 refine Spec.enter Tryz.func65 rfl Tryz.ntmps65 rfl (GC.sub [(0, slv p_s), (1, p_f)] ⟨rfl, rfl, trivial⟩ (Zo (Za (GL.nil (GC.seq (Zo (Zm (Zq (Zm (GL.nil (GC.block ?_)))))))))))
 refine GC.loop (α := Int) h (fun x1 => [(8, .int .i64 x1), (0, slv p_s), (1, p_f), (7, .int .i64 (Sl.len p_s : Int))]) ⟨rfl, rfl, rfl, rfl, trivial⟩ ?_
 intro x1 H3 J2 h
 refine Zo (Zi (.bool (decide ((x1 : Int) < (Sl.len p_s : Int)))) (GL.nil (GC.seq ?_)))
 refine Zd (fun hc4 => ?_) fun hc4 => ?_
 replace h := h.1 hc4
 refine GC.skip (GC.seq (GC.block (Zo (Zm (Za (GL.nil (Zo (Zm (Zm (Zm ?_))))))))))
 obtain ⟨p5, ha6, hb7, hc8, hd9, h⟩ := h
 refine Zx ha6 hb7 hc8 hd9 ?_
 obtain ⟨x10, hr11, h⟩ := h
 refine Zv (OV.loadT rfl rfl rfl hr11) (GL.callU (xv := p_f) (vs := [.agg (T_zset_Entry.c x10).toArray]) h trivial rfl rfl rfl ?_)
 rintro _ H13 ⟨r12, rfl, h⟩
 refine GL.nil ?_
 refine Zd (fun hc14 => ?_) fun hc14 => ?_
 replace h := h.1 hc14
 refine Zo (Zm (Za (GL.nil ?_)))
 exact GC.ret (fun _ _ hf hs => post_tmp1 rfl rfl hf hs ⟨x1, rfl, h⟩)
 replace h := h.2 hc14
 refine GC.skip_to (fun _ _ h => h) (GC.region (Zi (.int .i64 (w .i64 (x1 + 1))) (Zm ?_)))
 exact GL.jump (fun _ _ h => h) (w .i64 (x1 + 1)) h ⟨rfl, rfl, rfl, rfl, trivial⟩
 replace h := h.2 hc4
 refine GC.exit_to (fun _ _ h => h) (Zo (Za (GL.nil ?_)))
 exact GC.ret (fun _ _ hf hs => post_tmp1 rfl rfl hf hs ⟨(-1), rfl, h⟩)
def sh_zset_each (C : Ctx) (p_parts : Sl) (K : Value → Heap → Prop) (H : Heap) : Prop :=
 nw ([slv p_parts]) (fun b1 H2 =>
 K (.func (.func 80) (List.toArray []) (List.toArray [pv (some (b1, 0))]) : Value) H2) H
theorem ad_zset_each (C : Ctx) (p_parts : Sl) (K : Value → Heap → Prop) (H : Heap) (h : sh_zset_each C p_parts K H) : c_zset_each C p_parts K H := by
 refine Spec.enter Tryz.func66 rfl Tryz.ntmps66 rfl (GC.sub [(0, slv p_parts)] ⟨rfl, trivial⟩ (Zo (GL.box (v := slv p_parts) (cs := [slv p_parts]) h trivial rfl rfl rfl ?_)))
 intro b1 H2 h
 refine Za (GL.nil (Zo (Zv (OV.makeFunc (vs := []) (us := [pv (some (b1, 0))]) rfl rfl) (Za (GL.nil ?_)))))
 exact GC.ret (fun _ _ hf hs => post_tmp1 rfl rfl hf hs ⟨(.func (.func 80) (List.toArray []) (List.toArray [pv (some (b1, 0))]) : Value), rfl, h⟩)
def sh_slices_ContainsFunc_api_Value_api_Value (C : Ctx) (p_s : Sl) (p_f : Value) (K : Bool → Heap → Prop) (H : Heap) : Prop :=
 c_slices_IndexFunc_api_Value_api_Value C p_s p_f (fun r1 H2 =>
 K (decide ((r1 : Int) ≥ 0)) H2) H
theorem ad_slices_ContainsFunc_api_Value_api_Value (C : Ctx) (p_s : Sl) (p_f : Value) (K : Bool → Heap → Prop) (H : Heap) (h : sh_slices_ContainsFunc_api_Value_api_Value C p_s p_f K H) : c_slices_ContainsFunc_api_Value_api_Value C p_s p_f K H := by
 refine Spec.enter Tryz.func67 rfl Tryz.ntmps67 rfl (GC.sub [(0, slv p_s), (1, p_f)] ⟨rfl, rfl, trivial⟩ (Zo (Za (GL.nil (Zo (Zm (Zm (Zc h ok_slices_IndexFunc_api_Value_api_Value ?_))))))))
 rintro _ H2 ⟨r1, rfl, h⟩
 refine Zi (.bool (decide ((r1 : Int) ≥ 0))) (Za (GL.nil ?_))
 exact GC.ret (fun _ _ hf hs => post_tmp1 rfl rfl hf hs ⟨(decide ((r1 : Int) ≥ 0)), rfl, h⟩)
def sh_zset_sums_1 (C : Ctx) (p_v : T_api_Value) (K : Bool → Heap → Prop) (H : Heap) : Prop :=
 nw (T_api_Value.c p_v) (fun b1 H2 =>
 ldT H2 T_api_Value.c (b1, 0) fun x3 =>
 c_value_Check C x3 (fun r5 H6 =>
 K ((r5 : Int) != 0) H6) H2) H
theorem ad_zset_sums_1 (C : Ctx) (p_v : T_api_Value) (K : Bool → Heap → Prop) (H : Heap) (h : sh_zset_sums_1 C p_v K H) : c_zset_sums_1 C p_v K H := by
 refine Spec.enter Tryz.func68 rfl Tryz.ntmps68 rfl (GC.sub [(0, .agg (T_api_Value.c p_v).toArray)] ⟨rfl, trivial⟩ (Zo (GL.box (v := .agg (T_api_Value.c p_v).toArray) (cs := T_api_Value.c p_v) h trivial rfl rfl rfl ?_)))
 intro b1 H2 h
 refine Za (GL.nil (Zo ?_))
 obtain ⟨x3, hr4, h⟩ := h
 refine Zv (OV.loadT rfl rfl rfl hr4) (Zc h ok_value_Check ?_)
 rintro _ H6 ⟨r5, rfl, h⟩
 refine Zi (.bool ((r5 : Int) != 0)) (Za (GL.nil ?_))
 exact GC.ret (fun _ _ hf hs => post_tmp1 rfl rfl hf hs ⟨((r5 : Int) != 0), rfl, h⟩)
def sh_zset_out (C : Ctx) (p_n : Int) (K : Bool → Heap → Prop) (H : Heap) : Prop :=
 K ((decide ((p_n : Int) < (-2147483647))) || (decide ((p_n : Int) > 2147483647))) H
theorem ad_zset_out (C : Ctx) (p_n : Int) (K : Bool → Heap → Prop) (H : Heap) (h : sh_zset_out C p_n K H) : c_zset_out C p_n K H := by
 refine Spec.enter Tryz.func69 rfl Tryz.ntmps69 rfl (GC.sub [(0, .int .i64 p_n)] ⟨rfl, trivial⟩ (Zo (Za (GL.nil (Zo (Zm (Zi (.bool (decide ((p_n : Int) < (-2147483647)))) (Zm ?_))))))))
 refine GL.cut0 3 [(8, .bool ((decide ((p_n : Int) < (-2147483647))) || (decide ((p_n : Int) > 2147483647))))] ?_ ?_
 rcases Zb (decide ((p_n : Int) < (-2147483647))) with hc1 | hc1
 refine Zk hc1 (Zk hc1 (Zt hc1 ?_))
 exact GL.jump0 (fun _ _ h => h) () rfl ⟨(by rw [hc1]; rfl), trivial⟩
 refine Zu hc1 (OV.move rfl) (Zu hc1 (OV.ibin (v := .bool (decide ((p_n : Int) > 2147483647))) rfl rfl rfl) (Zn hc1 ?_))
 exact GL.jump0 (fun _ _ h => h) () rfl ⟨(by rw [hc1]; rfl), trivial⟩
 refine Za (GL.nil ?_)
 exact GC.ret (fun _ _ hf hs => post_tmp1 rfl rfl hf hs ⟨((decide ((p_n : Int) < (-2147483647))) || (decide ((p_n : Int) > 2147483647))), rfl, h⟩)
def sh_slices_SortStableFunc_zset_Entry_zset_Entry (C : Ctx) (p_x : Sl) (p_cmp : Value) (K : Heap → Prop) (H : Heap) : Prop :=
 c_slices_stableCmpFunc_zset_Entry C p_x (Sl.len p_x : Int) p_cmp (fun H1 =>
 K H1) H
theorem ad_slices_SortStableFunc_zset_Entry_zset_Entry (C : Ctx) (p_x : Sl) (p_cmp : Value) (K : Heap → Prop) (H : Heap) (h : sh_slices_SortStableFunc_zset_Entry_zset_Entry C p_x p_cmp K H) : c_slices_SortStableFunc_zset_Entry_zset_Entry C p_x p_cmp K H := by
 refine Spec.enter Tryz.func70 rfl Tryz.ntmps70 rfl (GC.sub [(0, slv p_x), (1, p_cmp)] ⟨rfl, rfl, trivial⟩ (GC.region (Zm (Zm (Zq (Zm (Zc h ok_slices_stableCmpFunc_zset_Entry ?_)))))))
 rintro _ H1 ⟨rfl, h⟩
 exact GL.ends (fun _ _ hf hs => post_tmp0 rfl hf hs ⟨rfl, h⟩)
def sh_zset_sums_2 (C : Ctx) (p_a : T_zset_Entry) (p_b : T_zset_Entry) (K : Int → Heap → Prop) (H : Heap) : Prop :=
 nw (T_zset_Entry.c p_a) (fun b1 H2 =>
 nw (T_zset_Entry.c p_b) (fun b3 H4 =>
 ldL H4 ((b1, 0).1, (b1, 0).2 + 0) fun x5 =>
 ldL H4 ((b3, 0).1, (b3, 0).2 + 0) fun x7 =>
 c_value_CmpRows C x5 x7 (fun r9 H10 =>
 K r9 H10) H4) H2) H
theorem ad_zset_sums_2 (C : Ctx) (p_a : T_zset_Entry) (p_b : T_zset_Entry) (K : Int → Heap → Prop) (H : Heap) (h : sh_zset_sums_2 C p_a p_b K H) : c_zset_sums_2 C p_a p_b K H := by
 refine Spec.enter Tryz.func71 rfl Tryz.ntmps71 rfl (GC.sub [(0, .agg (T_zset_Entry.c p_a).toArray), (1, .agg (T_zset_Entry.c p_b).toArray)] ⟨rfl, rfl, trivial⟩ (Zo (GL.box (v := .agg (T_zset_Entry.c p_a).toArray) (cs := T_zset_Entry.c p_a) h trivial rfl rfl rfl ?_)))
 intro b1 H2 h
 refine GL.box (v := .agg (T_zset_Entry.c p_b).toArray) (cs := T_zset_Entry.c p_b) h trivial rfl rfl rfl ?_
 intro b3 H4 h
 refine Za (GL.nil (Zo (Zf ?_)))
 obtain ⟨x5, hr6, h⟩ := h
 refine Zl hr6 (Zf ?_)
 obtain ⟨x7, hr8, h⟩ := h
 refine Zl hr8 (Zc h ok_value_CmpRows ?_)
 rintro _ H10 ⟨r9, rfl, h⟩
 refine Za (GL.nil ?_)
 exact GC.ret (fun _ _ hf hs => post_tmp1 rfl rfl hf hs ⟨r9, rfl, h⟩)
def sh_value_CmpRows (C : Ctx) (p_a : Sl) (p_b : Sl) (K : Int → Heap → Prop) (H : Heap) : Prop :=
 c_value_may C p_a (fun r1 H2 =>
 c_value_may C p_b (fun r3 H4 =>
 ift ((!r1) || (!r3))
 (c_value_last C r1 r3 (fun r7 H8 =>
 K r7 H8) H4)
 (c_value_rows C p_a p_b (fun r9 H10 =>
 K r9 H10) H4)) H2) H
theorem ad_value_CmpRows (C : Ctx) (p_a : Sl) (p_b : Sl) (K : Int → Heap → Prop) (H : Heap) (h : sh_value_CmpRows C p_a p_b K H) : c_value_CmpRows C p_a p_b K H := by
 refine Spec.enter Tryz.func72 rfl Tryz.ntmps72 rfl (GC.sub [(0, slv p_a), (1, slv p_b)] ⟨rfl, rfl, trivial⟩ (Zo (Za (GL.nil (GC.seq (Zo (Zm (Zc h ok_value_may ?_))))))))
 rintro _ H2 ⟨r1, rfl, h⟩
 refine Zm (Zc h ok_value_may ?_)
 rintro _ H4 ⟨r3, rfl, h⟩
 refine Za (Za (GL.nil (Zo (Zm (Zv (OV.not rfl) (Zm ?_))))))
 refine GL.cut0 3 [(16, .bool ((!r1) || (!r3))), (0, slv p_a), (1, slv p_b), (5, .bool r1), (6, .bool r3)] ?_ ?_
 rcases Zb (!r1) with hc5 | hc5
 refine Zk hc5 (Zk hc5 (Zt hc5 ?_))
 exact GL.jump0 (fun _ _ h => h) () rfl ⟨(by rw [hc5]; rfl), rfl, rfl, rfl, rfl, trivial⟩
 refine Zu hc5 (OV.move rfl) (Zu hc5 (OV.not rfl) (Zn hc5 ?_))
 exact GL.jump0 (fun _ _ h => h) () rfl ⟨(by rw [hc5]; rfl), rfl, rfl, rfl, rfl, trivial⟩
 refine GL.nil ?_
 refine Zd (fun hc6 => ?_) fun hc6 => ?_
 replace h := h.1 hc6
 refine Zo (Zm (Zm (Zc h ok_value_last ?_)))
 rintro _ H8 ⟨r7, rfl, h⟩
 refine Za (GL.nil ?_)
 exact GC.ret (fun _ _ hf hs => post_tmp1 rfl rfl hf hs ⟨r7, rfl, h⟩)
 replace h := h.2 hc6
 refine GC.skip (Zo (Zm (Zm (Zc h ok_value_rows ?_))))
 rintro _ H10 ⟨r9, rfl, h⟩
 refine Za (GL.nil ?_)
 exact GC.ret (fun _ _ hf hs => post_tmp1 rfl rfl hf hs ⟨r9, rfl, h⟩)
def sh_zset_own (C : Ctx) (p_l : Sl) (K : Sl → Heap → Prop) (H : Heap) : Prop :=
 ift (((Sl.len p_l : Int) : Int) == 0)
 (K Sl.nil H)
 (c_slices_Clone_api_Value_api_Value C p_l (fun r2 H3 =>
 lp (α := Int) 0 H3 (fun x4 J5 H6 =>
 ift (decide ((x4 : Int) < (Sl.len r2 : Int)))
 (ixa r2 x4 fun p8 =>
 ldL H6 ((p8.1, p8.2 + (x4 : Int).toNat * 4).1, (p8.1, p8.2 + (x4 : Int).toNat * 4).2 + 3) fun x13 =>
 c_zset_own C x13 (fun r15 H16 =>
 ixa r2 x4 fun p17 =>
 st ((p17.1, p17.2 + (x4 : Int).toNat * 4).1, (p17.1, p17.2 + (x4 : Int).toNat * 4).2 + 3) (slv r15) (fun H22 =>
 J5 (w .i64 (x4 + 1)) H22) H16) H6)
 (K r2 H6))) H)
theorem ad_zset_own (C : Ctx) (p_l : Sl) (K : Sl → Heap → Prop) (H : Heap) (h : sh_zset_own C p_l K H) : c_zset_own C p_l K H := by
 refine Spec.enter Tryz.func73 rfl Tryz.ntmps73 rfl (GC.sub [(0, slv p_l)] ⟨rfl, trivial⟩ (Zo (Za (GL.nil (GC.seq (Zo (Zm (Zq (Zi (.bool (((Sl.len p_l : Int) : Int) == 0)) (GL.nil ?_))))))))))
 refine Zd (fun hc1 => ?_) fun hc1 => ?_
 replace h := h.1 hc1
 refine Zo (Za (GL.nil ?_))
 exact GC.ret (fun _ _ hf hs => post_tmp1 rfl rfl hf hs ⟨Sl.nil, rfl, h⟩)
 replace h := h.2 hc1
 refine GC.skip (Zo (Zm (Zc h ok_slices_Clone_api_Value_api_Value ?_)))
 rintro _ H3 ⟨r2, rfl, h⟩
 refine Za (GL.nil (GC.seq (Zo (Zm (Zq (Zm (GL.nil (GC.block (GC.loop (α := Int) h (fun x4 => [(11, .int .i64 x4), (0, slv r2), (10, .int .i64 (Sl.len r2 : Int))]) ⟨rfl, rfl, rfl, trivial⟩ ?_)))))))))
 intro x4 H6 J5 h
 refine Zo (Zi (.bool (decide ((x4 : Int) < (Sl.len r2 : Int)))) (GL.nil (GC.seq ?_)))
 refine Zd (fun hc7 => ?_) fun hc7 => ?_
 replace h := h.1 hc7
 refine GC.skip (GC.seq (GC.block (Zo (Zm (Za (GL.nil (GC.region (Zm (Zm (Zm (Zm ?_)))))))))))
 obtain ⟨p8, ha9, hb10, hc11, hd12, h⟩ := h
 refine Zx ha9 hb10 hc11 hd12 (Zf ?_)
 obtain ⟨x13, hr14, h⟩ := h
 refine Zl hr14 (Zc h ok_zset_own ?_)
 rintro _ H16 ⟨r15, rfl, h⟩
 obtain ⟨p17, ha18, hb19, hc20, hd21, h⟩ := h
 refine Zx ha18 hb19 hc20 hd21 (Zf (GL.store (p := ((p17.1, p17.2 + (x4 : Int).toNat * 4).1, (p17.1, p17.2 + (x4 : Int).toNat * 4).2 + 3)) (v := slv r15) h trivial rfl rfl rfl rfl ?_))
 intro H22 h
 refine GL.nil_to (fun _ _ h => h) (GC.region (Zi (.int .i64 (w .i64 (x4 + 1))) (Zm ?_)))
 exact GL.jump (fun _ _ h => h) (w .i64 (x4 + 1)) h ⟨rfl, rfl, rfl, trivial⟩
 replace h := h.2 hc7
 refine GC.exit_to (fun _ _ h => h) (Zo (Zm (Za (GL.nil ?_))))
 exact GC.ret (fun _ _ hf hs => post_tmp1 rfl rfl hf hs ⟨r2, rfl, h⟩)
def sh_value_Show (C : Ctx) (p_v : T_api_Value) (K : Str → Heap → Prop) (H : Heap) : Prop :=
 nw (T_api_Value.c p_v) (fun b1 H2 =>
 ldT H2 T_api_Value.c (b1, 0) fun x3 =>
 c_value_Check C x3 (fun r5 H6 =>
 ift ((r5 : Int) != 0)
 (K [] H6)
 (nwB 128 5 (fun b8 H9 =>
 nw ([.nilFunc]) (fun b10 H11 =>
 nw ([.nilFunc]) (fun b12 H13 =>
 st (b12, 0) (.func (.func 87) (List.toArray []) (List.toArray [pv (some (b8, 0)), pv (some (b10, 0))])) (fun H14 =>
 st (b10, 0) (.func (.func 90) (List.toArray []) (List.toArray [pv (some (b8, 0)), pv (some (b12, 0))])) (fun H15 =>
 ldV H15 (b10, 0) fun x16 =>
 ldT H15 T_api_Value.c (b1, 0) fun x18 =>
 callU Tryz.prog C x16 [.agg (T_api_Value.c x18).toArray] H15 (fun v H20 => v = .tuple #[] ∧
 c_strings_Builder_String C (some (b8, 0)) (fun r21 H22 =>
 K r21 H22) H20)) H14) H13) H11) H9) H6)) H2) H
theorem ad_value_Show (C : Ctx) (p_v : T_api_Value) (K : Str → Heap → Prop) (H : Heap) (h : sh_value_Show C p_v K H) : c_value_Show C p_v K H := by
 refine Spec.enter Tryz.func74 rfl Tryz.ntmps74 rfl (GC.sub [(0, .agg (T_api_Value.c p_v).toArray)] ⟨rfl, trivial⟩ (Zo (GL.box (v := .agg (T_api_Value.c p_v).toArray) (cs := T_api_Value.c p_v) h trivial rfl rfl rfl ?_)))
 intro b1 H2 h
 refine Za (GL.nil (GC.seq (Zo ?_)))
 obtain ⟨x3, hr4, h⟩ := h
 refine Zv (OV.loadT rfl rfl rfl hr4) (Zc h ok_value_Check ?_)
 rintro _ H6 ⟨r5, rfl, h⟩
 refine Zi (.bool ((r5 : Int) != 0)) (GL.nil ?_)
 refine Zd (fun hc7 => ?_) fun hc7 => ?_
 replace h := h.1 hc7
 refine Zo (Za (GL.nil ?_))
 exact GC.ret (fun _ _ hf hs => post_tmp1 rfl rfl hf hs ⟨[], rfl, h⟩)
 replace h := h.2 hc7
 refine GC.skip (Zo (GL.allocB (T := 128) (e := 5) h trivial rfl rfl rfl ?_))
 intro b8 H9 h
 refine GL.nil (Zo (GL.alloc (cs := [.nilFunc]) h trivial rfl rfl rfl ?_))
 intro b10 H11 h
 refine GL.nil (Zo (Zv (OV.makeFunc (vs := []) (us := [pv (some (b8, 0)), pv (some (b10, 0))]) rfl rfl) (GL.alloc (cs := [.nilFunc]) h trivial rfl rfl rfl ?_)))
 intro b12 H13 h
 refine GL.store (p := (b12, 0)) (v := .func (.func 87) (List.toArray []) (List.toArray [pv (some (b8, 0)), pv (some (b10, 0))])) h trivial rfl rfl rfl rfl ?_
 intro H14 h
 refine GL.nil (Zo (Zv (OV.makeFunc (vs := []) (us := [pv (some (b8, 0)), pv (some (b12, 0))]) rfl rfl) (GL.store (p := (b10, 0)) (v := .func (.func 90) (List.toArray []) (List.toArray [pv (some (b8, 0)), pv (some (b12, 0))])) h trivial rfl rfl rfl rfl ?_)))
 intro H15 h
 refine GL.nil (Zo ?_)
 obtain ⟨x16, hr17, h⟩ := h
 refine Zl hr17 ?_
 obtain ⟨x18, hr19, h⟩ := h
 refine Zv (OV.loadT rfl rfl rfl hr19) (GL.callU (xv := x16) (vs := [.agg (T_api_Value.c x18).toArray]) h trivial rfl rfl rfl ?_)
 rintro _ H20 ⟨rfl, h⟩
 refine GL.nil (Zo (Zc h ok_strings_Builder_String ?_))
 rintro _ H22 ⟨r21, rfl, h⟩
 refine Za (GL.nil ?_)
 exact GC.ret (fun _ _ hf hs => post_tmp1 rfl rfl hf hs ⟨r21, rfl, h⟩)
end Sx
end

