/-
  Texts of this family, one behind the other: Sh3, Sh4.
-/
import Derived.Test.YtmeefnmaphmpkaaGreatDoorBO2
noncomputable section
set_option linter.unusedVariables false
set_option linter.unusedSimpArgs false
set_option maxRecDepth 10000
namespace Sx
section
set_option maxRecDepth 100000
open Go Go.Proofs
def QhS (C:Ctx) (p_a:Qd) (p_b:Qd) (K:Bool→Heap→Prop) (H:Heap):Prop:=
 nw (Qd.c p_a) (fun b1 H2=>
 nw (Qd.c p_b) (fun b3 H4=>
 ldS H4 ((b1,0).1,(b1,0).2+0) fun x5=>
 ldS H4 ((b3,0).1,(b3,0).2+0) fun x7=>
 jn (α:=Bool) (fun b9 H17=>
 ift b9
 (K false H17)
 (lp (α:=Int) 0 H17 (fun x19 J20 H21=>
 ldL H21 ((b1,0).1,(b1,0).2+1) fun x22=>
 ift (decide ((x19:Int) < (Sl.len x22:Int)))
 (dr H21 fun Hs25=>
 ldL Hs25 ((b1,0).1,(b1,0).2+1) fun x27=>
 ixa x27 x19 fun p29=>
 ldT Hs25 Qd.c (p29.1,p29.2+(x19:Int).toNat*2) fun x34=>
 ldL Hs25 ((b3,0).1,(b3,0).2+1) fun x36=>
 ixa x36 x19 fun p38=>
 ldT Hs25 Qd.c (p38.1,p38.2+(x19:Int).toNat*2) fun x43=>
 QaQ C x34 x43 (fun r46 H47=>
 Heap.le Hs25 H47∧
 ift (!r46)
 (K false H47)
 (J20 (w .i64 (x19+1)) H47)) H21)
 (K true H21))))
 (fun J10=>ift (!(x5 == x7))
 (J10 true H4)
 (ldL H4 ((b1,0).1,(b1,0).2+1) fun x13=>
 ldL H4 ((b3,0).1,(b3,0).2+1) fun x15=>
 J10 (((Sl.len x13:Int):Int) != (Sl.len x15:Int)) H4))) H2) H
theorem QlL (C p_a p_b K H) (h:QhS C p_a p_b K H):QaQ C p_a p_b K H:=by
 refine Ye Tryz.func35 rfl Tryz.ntmps35 [(0,.agg (Qd.c p_a).toArray),(1,.agg (Qd.c p_b).toArray)] (Zo (GL.box (v:=.agg (Qd.c p_a).toArray) (cs:=Qd.c p_a) h trivial rfl rfl rfl ?_))
 intro b1 H2 h
 refine GL.box (v:=.agg (Qd.c p_b).toArray) (cs:=Qd.c p_b) h trivial rfl rfl rfl ?_
 intro b3 H4 h
 refine Za (GL.nil (GC.seq (Zo (Zf (Yl h fun x5 h=>?_)))))
 refine Zf (Yl h fun x7 h=>?_)
 refine Zv (OV.sbin (a:=x5) (b:=x7) (v:=.bool (!(x5 == x7))) rfl rfl rfl) (Zm ?_)
 obtain ⟨J10,h,hR11⟩:=h
 refine GL.cut (α:=Bool) 8 J10 (fun b9=>[(19,.bool b9),(2,pv (some (b1,0))),(3,pv (some (b3,0)))]) ?_ ?_
 rcases h.em with ⟨u12,h⟩ | ⟨u12,h⟩
 refine Zk u12 (Zk u12 (Zk u12 (Zk u12 (Zk u12 (Zk u12 (Zk u12 (Zt u12 ?_)))))))
 exact Yj I3 true h
 refine Zu u12 Yf ?_
 obtain ⟨x13,v14,h⟩:=h
 refine Zu u12 (Yo v14) (Zu u12 (OV.lenSl rfl rfl) (Zu u12 Yf ?_))
 obtain ⟨x15,v16,h⟩:=h
 refine Zu u12 (Yo v16) (Zu u12 (OV.lenSl rfl rfl) (Zu u12 (OV.ibin (v:=.bool (((Sl.len x13:Int):Int) != (Sl.len x15:Int))) rfl rfl rfl) (Zn u12 ?_)))
 exact Yj I3 (((Sl.len x13:Int):Int) != (Sl.len x15:Int)) h
 intro b9 H17 h
 replace h:=hR11 b9 H17 h
 refine GL.nil (Yd h (fun u18 h=>?_) fun u18 h=>?_)
 refine Zo (Za (GL.nil ?_))
 exact Y1 I3 ⟨false,rfl,h⟩
 refine GC.skip (GC.seq (Zo (Za (GL.nil (GC.block (Yp h (fun x19=>[(5,.int .i64 x19),(2,pv (some (b1,0))),(3,pv (some (b3,0)))]) ?_))))))
 intro x19 H21 J20 h
 refine GC.seq (Zo (Zm (Zf (Yl h fun x22 h=>?_))))
 refine Zq (Zi (.bool (decide ((x19:Int) < (Sl.len x22:Int)))) (GL.nil (Yd h (fun u24 h=>?_) fun u24 h=>?_)))
 refine GC.skip (GC.seq (GC.block (GC.seq ?_)))
 obtain ⟨Hs25,hle26,h⟩:=h
 refine GC.any (Hs:=Hs25) (by kernel_rfl) hle26 (Zp 0 rfl Yf ?_)
 obtain ⟨x27,v28,h⟩:=h
 refine Zp 1 rfl (Yo v28) (Zp 2 rfl Ym ?_)
 obtain ⟨p29,ha30,hb31,u32,hd33,h⟩:=h
 refine Zp 3 rfl (OV.indexAddr rfl rfl rfl rfl ha30 hb31 u32 hd33) ?_
 obtain ⟨x34,v35,h⟩:=h
 refine Zp 4 rfl (OV.loadT rfl rfl rfl v35) (Zp 5 rfl Yf ?_)
 obtain ⟨x36,v37,h⟩:=h
 refine Zp 6 rfl (Yo v37) (Zp 7 rfl Ym ?_)
 obtain ⟨p38,ha39,hb40,u41,hd42,h⟩:=h
 refine Zp 8 rfl (OV.indexAddr rfl rfl rfl rfl ha39 hb40 u41 hd42) ?_
 obtain ⟨x43,v44,h⟩:=h
 refine Zp 9 rfl (OV.loadT rfl rfl rfl v44) (GA.eff 10 rfl (by kernel_rfl) (Zc h QhB ?_))
 rintro _ H47 ⟨r46,rfl,h⟩
 obtain ⟨hle45,h⟩:=h
 refine GA.back hle45 (Zp 11 rfl (OV.not rfl) (GA.done (by kernel_rfl) (GL.nil (Yd h (fun u48 h=>?_) fun u48 h=>?_))))
 refine Zo (Za (GL.nil ?_))
 exact Y1 I3 ⟨false,rfl,h⟩
 refine GC.skip_to I3 (GC.region (Zm (Zi (.int .i64 (w .i64 (x19+1))) (Za ?_))))
 exact Yj I3 (w .i64 (x19+1)) h
 refine GC.exit_to I3 (Zo (Za (GL.nil ?_)))
 exact Y1 I3 ⟨true,rfl,h⟩
def Qgz (C:Ctx) (p_a:Sl) (p_b:Sl) (K:Bool→Heap→Prop) (H:Heap):Prop:=
 ift (((Sl.len p_a:Int):Int) != (Sl.len p_b:Int))
 (K false H)
 (lp (α:=Int) 0 H (fun x2 J3 H4=>
 ift (decide ((x2:Int) < (Sl.len p_a:Int)))
 (dr H4 fun Hs6=>
 ixa p_a x2 fun p8=>
 ldT Hs6 Qb.c (p8.1,p8.2+(x2:Int).toNat*9) fun x13=>
 ixa p_b x2 fun p15=>
 ldT Hs6 Qb.c (p15.1,p15.2+(x2:Int).toNat*9) fun x20=>
 QaO C x13 x20 (fun r23 H24=>
 Heap.le Hs6 H24∧
 ift (!r23)
 (K false H24)
 (J3 (w .i64 (x2+1)) H24)) H4)
 (K true H4)))
theorem Qk1 (C p_a p_b K H) (h:Qgz C p_a p_b K H):Q7 C p_a p_b K H:=by
 refine Ye Tryz.func36 rfl Tryz.ntmps36 [(0,slv p_a),(1,slv p_b)] (Zo (Za (GL.nil (GC.seq (Zo (Zm (Zq (Zm (Zq (Zi (.bool (((Sl.len p_a:Int):Int) != (Sl.len p_b:Int))) (GL.nil (Yd h (fun u1 h=>?_) fun u1 h=>?_))))))))))))
 refine Zo (Za (GL.nil ?_))
 exact Y1 I3 ⟨false,rfl,h⟩
 refine GC.skip (GC.seq (Zo (Za (GL.nil (GC.block (Yp h (fun x2=>[(5,.int .i64 x2),(0,slv p_a),(1,slv p_b)]) ?_))))))
 intro x2 H4 J3 h
 refine GC.seq (Zo (Zm (Zm (Zq (Zi (.bool (decide ((x2:Int) < (Sl.len p_a:Int)))) (GL.nil (Yd h (fun u5 h=>?_) fun u5 h=>?_)))))))
 refine GC.skip (GC.seq (GC.block (GC.seq ?_)))
 obtain ⟨Hs6,hle7,h⟩:=h
 refine GC.any (Hs:=Hs6) (by kernel_rfl) hle7 (Zp 0 rfl Ym (Zp 1 rfl Ym ?_))
 obtain ⟨p8,ha9,hb10,u11,hd12,h⟩:=h
 refine Zp 2 rfl (OV.indexAddr rfl rfl rfl rfl ha9 hb10 u11 hd12) ?_
 obtain ⟨x13,v14,h⟩:=h
 refine Zp 3 rfl (OV.loadT rfl rfl rfl v14) (Zp 4 rfl Ym (Zp 5 rfl Ym ?_))
 obtain ⟨p15,ha16,hb17,u18,hd19,h⟩:=h
 refine Zp 6 rfl (OV.indexAddr rfl rfl rfl rfl ha16 hb17 u18 hd19) ?_
 obtain ⟨x20,v21,h⟩:=h
 refine Zp 7 rfl (OV.loadT rfl rfl rfl v21) (GA.eff 8 rfl (by kernel_rfl) (Zc h QlU ?_))
 rintro _ H24 ⟨r23,rfl,h⟩
 obtain ⟨hle22,h⟩:=h
 refine GA.back hle22 (Zp 9 rfl (OV.not rfl) (GA.done (by kernel_rfl) (GL.nil (Yd h (fun u25 h=>?_) fun u25 h=>?_))))
 refine Zo (Za (GL.nil ?_))
 exact Y1 I3 ⟨false,rfl,h⟩
 refine GC.skip_to I3 (GC.region (Zm (Zi (.int .i64 (w .i64 (x2+1))) (Za ?_))))
 exact Yj I3 (w .i64 (x2+1)) h
 refine GC.exit_to I3 (Zo (Za (GL.nil ?_)))
 exact Y1 I3 ⟨true,rfl,h⟩
def QgA (C:Ctx) (p_a:Sl) (p_b:Sl) (K:Bool→Heap→Prop) (H:Heap):Prop:=
 ift (((Sl.len p_a:Int):Int) != (Sl.len p_b:Int))
 (K false H)
 (lp (α:=Int) 0 H (fun x2 J3 H4=>
 ift (decide ((x2:Int) < (Sl.len p_a:Int)))
 (ixa p_a x2 fun p6=>
 ldS H4 (p6.1,p6.2+(x2:Int).toNat*1) fun x11=>
 ixa p_b x2 fun p13=>
 ldS H4 (p13.1,p13.2+(x2:Int).toNat*1) fun x18=>
 ift (!(x11 == x18))
 (K false H4)
 (J3 (w .i64 (x2+1)) H4))
 (K true H4)))
theorem Qk2 (C p_a p_b K H) (h:QgA C p_a p_b K H):QeU C p_a p_b K H:=by
 refine Ye Tryz.func37 rfl Tryz.ntmps37 [(0,slv p_a),(1,slv p_b)] (Zo (Za (GL.nil (GC.seq (Zo (Zm (Zq (Zm (Zq (Zi (.bool (((Sl.len p_a:Int):Int) != (Sl.len p_b:Int))) (GL.nil (Yd h (fun u1 h=>?_) fun u1 h=>?_))))))))))))
 refine Zo (Za (GL.nil ?_))
 exact Y1 I3 ⟨false,rfl,h⟩
 refine GC.skip (GC.seq (Zo (Za (GL.nil (GC.block (Yp h (fun x2=>[(5,.int .i64 x2),(0,slv p_a),(1,slv p_b)]) ?_))))))
 intro x2 H4 J3 h
 refine GC.seq (Zo (Zm (Zm (Zq (Zi (.bool (decide ((x2:Int) < (Sl.len p_a:Int)))) (GL.nil (Yd h (fun u5 h=>?_) fun u5 h=>?_)))))))
 refine GC.skip (GC.seq (GC.block (GC.seq (GC.draw (by kernel_rfl) (by kernel_rfl) (GQ.val trivial rfl (OV.move (v:=slv p_a) rfl) (GQ.val trivial rfl (OV.move (v:=.int .i64 x2) rfl) ?_))))))
 obtain ⟨p6,ha7,hb8,u9,hd10,h⟩:=h
 refine GQ.val trivial rfl (OV.indexAddr (s:=p_a) rfl rfl rfl rfl ha7 hb8 u9 hd10) ?_
 obtain ⟨x11,v12,h⟩:=h
 refine GQ.val trivial rfl (OV.load (p:=(p6.1,p6.2+(x2:Int).toNat*1)) rfl rfl v12) (GQ.val trivial rfl (OV.move (v:=slv p_b) rfl) (GQ.val trivial rfl (OV.move (v:=.int .i64 x2) rfl) ?_))
 obtain ⟨p13,ha14,hb15,u16,hd17,h⟩:=h
 refine GQ.val trivial rfl (OV.indexAddr (s:=p_b) rfl rfl rfl rfl ha14 hb15 u16 hd17) ?_
 obtain ⟨x18,v19,h⟩:=h
 refine GQ.val trivial rfl (OV.load (p:=(p13.1,p13.2+(x2:Int).toNat*1)) rfl rfl v19) (GQ.val trivial rfl (OV.sbin (a:=x11) (b:=x18) (v:=.bool (!(x11 == x18))) rfl rfl rfl) (GQ.nil (GL.nil (Yd h (fun u20 h=>?_) fun u20 h=>?_))))
 refine Zo (Za (GL.nil ?_))
 exact Y1 I3 ⟨false,rfl,h⟩
 refine GC.skip_to I3 (GC.region (Zm (Zi (.int .i64 (w .i64 (x2+1))) (Za ?_))))
 exact Yj I3 (w .i64 (x2+1)) h
 refine GC.exit_to I3 (Zo (Za (GL.nil ?_)))
 exact Y1 I3 ⟨true,rfl,h⟩
def QhP (C:Ctx) (p_a:Sl) (p_b:Sl) (K:Bool→Heap→Prop) (H:Heap):Prop:=
 ift (((Sl.len p_a:Int):Int) != (Sl.len p_b:Int))
 (K false H)
 (lp (α:=Int) 0 H (fun x2 J3 H4=>
 ift (decide ((x2:Int) < (Sl.len p_a:Int)))
 (jn (α:=Bool) (fun x7 H8=>
 ift x7
 (K false H8)
 (J3 (w .i64 (x2+1)) H8))
 (fun J6=>dr H4 fun Hs10=>
 ixa p_a x2 fun p12=>
 ldI Hs10 .u8 ((p12.1,p12.2+(x2:Int).toNat*5).1,(p12.1,p12.2+(x2:Int).toNat*5).2+0) fun x17=>
 ixa p_b x2 fun p19=>
 ldI Hs10 .u8 ((p19.1,p19.2+(x2:Int).toNat*5).1,(p19.1,p19.2+(x2:Int).toNat*5).2+0) fun x24=>
 ift ((x17:Int) != x24)
 (J6 true H4)
 (ixa p_a x2 fun p27=>
 ldS Hs10 ((p27.1,p27.2+(x2:Int).toNat*5).1,(p27.1,p27.2+(x2:Int).toNat*5).2+3) fun x32=>
 ixa p_b x2 fun p34=>
 ldS Hs10 ((p34.1,p34.2+(x2:Int).toNat*5).1,(p34.1,p34.2+(x2:Int).toNat*5).2+3) fun x39=>
 ift (!(x32 == x39))
 (J6 true H4)
 (ixa p_a x2 fun p42=>
 ldL Hs10 ((p42.1,p42.2+(x2:Int).toNat*5).1,(p42.1,p42.2+(x2:Int).toNat*5).2+4) fun x47=>
 ixa p_b x2 fun p49=>
 ldL Hs10 ((p49.1,p49.2+(x2:Int).toNat*5).1,(p49.1,p49.2+(x2:Int).toNat*5).2+4) fun x54=>
 Q7 C x47 x54 (fun r57 H58=>
 Heap.le Hs10 H58∧
 J6 (!r57) H58) H4))))
 (K true H4)))
theorem QlI (C p_a p_b K H) (h:QhP C p_a p_b K H):Qbe C p_a p_b K H:=by
 refine Ye Tryz.func38 rfl Tryz.ntmps38 [(0,slv p_a),(1,slv p_b)] (Zo (Za (GL.nil (GC.seq (Zo (Zm (Zq (Zm (Zq (Zi (.bool (((Sl.len p_a:Int):Int) != (Sl.len p_b:Int))) (GL.nil (Yd h (fun u1 h=>?_) fun u1 h=>?_))))))))))))
 refine Zo (Za (GL.nil ?_))
 exact Y1 I3 ⟨false,rfl,h⟩
 refine GC.skip (GC.seq (Zo (Za (GL.nil (GC.block (Yp h (fun x2=>[(5,.int .i64 x2),(0,slv p_a),(1,slv p_b)]) ?_))))))
 intro x2 H4 J3 h
 refine GC.seq (Zo (Zm (Zm (Zq (Zi (.bool (decide ((x2:Int) < (Sl.len p_a:Int)))) (GL.nil (Yd h (fun u5 h=>?_) fun u5 h=>?_)))))))
 refine GC.skip (GC.seq (GC.block (GC.seq ?_)))
 obtain ⟨J6,h,hR9⟩:=h
 refine GC.meet (α:=Bool) J6 (fun x7=>[(54,.bool x7),(0,slv p_a),(1,slv p_b),(5,.int .i64 x2)]) ?_ ?_
 obtain ⟨Hs10,hle11,h⟩:=h
 refine GC.any (Hs:=Hs10) (by kernel_rfl) hle11 (Zp 0 rfl Ym (Zp 1 rfl Ym ?_))
 obtain ⟨p12,ha13,hb14,u15,hd16,h⟩:=h
 refine Zp 2 rfl (OV.indexAddr rfl rfl rfl rfl ha13 hb14 u15 hd16) (Zp 3 rfl Yf ?_)
 obtain ⟨x17,v18,h⟩:=h
 refine Zp 4 rfl (Yo v18) (Zp 5 rfl Ym (Zp 6 rfl Ym ?_))
 obtain ⟨p19,ha20,hb21,u22,hd23,h⟩:=h
 refine Zp 7 rfl (OV.indexAddr rfl rfl rfl rfl ha20 hb21 u22 hd23) (Zp 8 rfl Yf ?_)
 obtain ⟨x24,v25,h⟩:=h
 refine Zp 9 rfl (Yo v25) (Zp 10 rfl (OV.ibin (v:=.bool ((x17:Int) != x24)) rfl rfl rfl) (Zp 11 rfl Ym ?_))
 rcases h.em with ⟨u26,h⟩ | ⟨u26,h⟩
 refine Zj 12 rfl (Yw u26) (Zj 13 rfl (Yw u26) (Zj 14 rfl (Yw u26) (Zj 15 rfl (Yw u26) (Zj 16 rfl (Yw u26) (Zj 17 rfl (Yw u26) (Zj 18 rfl (Yw u26) (Zj 19 rfl (Yw u26) (Zj 20 rfl (Yw u26) (Zj 21 rfl (Yw u26) (Zj 22 rfl (Yw u26) (Zp 23 rfl (OV.pickT rfl u26 rfl) (Zp 24 rfl Ym (Zj 25 rfl (Yw rfl) (Zj 26 rfl (Yw rfl) (Zj 27 rfl (Yw rfl) (Zj 28 rfl (Yw rfl) (Zj 29 rfl (Yw rfl) (Zj 30 rfl (Yw rfl) (Zj 31 rfl (Yw rfl) (Zj 32 rfl (Yw rfl) (Zj 33 rfl (Yw rfl) (Zj 34 rfl (Yw rfl) (Zj 35 rfl (Yw rfl) (Zj 36 rfl (Yw rfl) (Zp 37 rfl (OV.pickT rfl rfl rfl) (GA.done (by kernel_rfl) ?_))))))))))))))))))))))))))
 exact Yj I3 true h
 refine Zg 12 rfl (Yt u26) Ym (Zg 13 rfl (Yt u26) Ym ?_)
 obtain ⟨p27,ha28,hb29,u30,hd31,h⟩:=h
 refine Zg 14 rfl (Yt u26) (OV.indexAddr rfl rfl rfl rfl ha28 hb29 u30 hd31) (Zg 15 rfl (Yt u26) Yf ?_)
 obtain ⟨x32,v33,h⟩:=h
 refine Zg 16 rfl (Yt u26) (Yo v33) (Zg 17 rfl (Yt u26) Ym (Zg 18 rfl (Yt u26) Ym ?_))
 obtain ⟨p34,ha35,hb36,u37,hd38,h⟩:=h
 refine Zg 19 rfl (Yt u26) (OV.indexAddr rfl rfl rfl rfl ha35 hb36 u37 hd38) (Zg 20 rfl (Yt u26) Yf ?_)
 obtain ⟨x39,v40,h⟩:=h
 refine Zg 21 rfl (Yt u26) (Yo v40) (Zg 22 rfl (Yt u26) (OV.sbin (a:=x32) (b:=x39) (v:=.bool (!(x32 == x39))) rfl rfl rfl) (Zp 23 rfl (OV.pickF rfl u26 rfl) (Zp 24 rfl Ym ?_)))
 rcases h.em with ⟨u41,h⟩ | ⟨u41,h⟩
 refine Zj 25 rfl (Yw u41) (Zj 26 rfl (Yw u41) (Zj 27 rfl (Yw u41) (Zj 28 rfl (Yw u41) (Zj 29 rfl (Yw u41) (Zj 30 rfl (Yw u41) (Zj 31 rfl (Yw u41) (Zj 32 rfl (Yw u41) (Zj 33 rfl (Yw u41) (Zj 34 rfl (Yw u41) (Zj 35 rfl (Yw u41) (Zj 36 rfl (Yw u41) (Zp 37 rfl (OV.pickT rfl u41 rfl) (GA.done (by kernel_rfl) ?_)))))))))))))
 exact Yj I3 true h
 refine Zg 25 rfl (Yt u41) Ym (Zg 26 rfl (Yt u41) Ym ?_)
 obtain ⟨p42,ha43,hb44,u45,hd46,h⟩:=h
 refine Zg 27 rfl (Yt u41) (OV.indexAddr rfl rfl rfl rfl ha43 hb44 u45 hd46) (Zg 28 rfl (Yt u41) Yf ?_)
 obtain ⟨x47,v48,h⟩:=h
 refine Zg 29 rfl (Yt u41) (Yo v48) (Zg 30 rfl (Yt u41) Ym (Zg 31 rfl (Yt u41) Ym ?_))
 obtain ⟨p49,ha50,hb51,u52,hd53,h⟩:=h
 refine Zg 32 rfl (Yt u41) (OV.indexAddr rfl rfl rfl rfl ha50 hb51 u52 hd53) (Zg 33 rfl (Yt u41) Yf ?_)
 obtain ⟨x54,v55,h⟩:=h
 refine Zg 34 rfl (Yt u41) (Yo v55) (GA.eff 35 rfl (by kernel_rfl) (GL.call h (Yt u41) rfl Qeu (vs:=[slv x47,slv x54]) rfl ?_))
 rintro _ H58 ⟨r57,rfl,h⟩
 obtain ⟨hle56,h⟩:=h
 refine GA.back hle56 (Zg 36 rfl (Yt u41) (OV.not rfl) (Zp 37 rfl (OV.pickF rfl u41 rfl) (GA.done (by kernel_rfl) ?_)))
 exact Yj I3 (!r57) h
 intro x7 H8 h
 replace h:=hR9 x7 H8 h
 refine GL.nil (Yd h (fun u59 h=>?_) fun u59 h=>?_)
 refine Zo (Za (GL.nil ?_))
 exact Y1 I3 ⟨false,rfl,h⟩
 refine GC.skip_to I3 (GC.region (Zm (Zi (.int .i64 (w .i64 (x2+1))) (Za ?_))))
 exact Yj I3 (w .i64 (x2+1)) h
 refine GC.exit_to I3 (Zo (Za (GL.nil ?_)))
 exact Y1 I3 ⟨true,rfl,h⟩
def Ql7 (C:Ctx) (p_m:Qa) (K:Int→Heap→Prop) (H:Heap):Prop:=
 nw (Qa.c p_m) (fun b1 H2=>
 dr H2 fun Hs3=>
 ldL Hs3 ((b1,0).1,(b1,0).2+2) fun x5=>
 ldL Hs3 ((b1,0).1,(b1,0).2+3) fun x7=>
 ldL Hs3 ((b1,0).1,(b1,0).2+4) fun x9=>
 ldL Hs3 ((b1,0).1,(b1,0).2+5) fun x11=>
 QN C x5 (.func (.func 105) (List.toArray []) (List.toArray []):Value) (fun r14 H15=>
 Heap.le Hs3 H15∧
 QQ C x7 (.func (.func 111) (List.toArray []) (List.toArray []):Value) (fun r17 H18=>
 Heap.le Hs3 H18∧
 Q0 C x9 (.func (.func 113) (List.toArray []) (List.toArray []):Value) (fun r20 H21=>
 Heap.le Hs3 H21∧
 QU C x11 (.func (.func 119) (List.toArray []) (List.toArray []):Value) (fun r23 H24=>
 Heap.le Hs3 H24∧
 K (max4 r14 r17 r20 r23) H24) H21) H18) H15) H2) H
theorem Qph (C p_m K H) (h:Ql7 C p_m K H):QdT C p_m K H:=by
 refine Ye Tryz.func39 rfl Tryz.ntmps39 [(0,.agg (Qa.c p_m).toArray)] (Zo (GL.box (v:=.agg (Qa.c p_m).toArray) (cs:=Qa.c p_m) h trivial rfl rfl rfl ?_))
 intro b1 H2 h
 refine Za (GL.nil (GC.seq ?_))
 obtain ⟨Hs3,hle4,h⟩:=h
 refine GC.any (Hs:=Hs3) (by kernel_rfl) hle4 (Zp 0 rfl Yf ?_)
 obtain ⟨x5,v6,h⟩:=h
 refine Zp 1 rfl (Yo v6) (Zp 3 rfl Yf ?_)
 obtain ⟨x7,v8,h⟩:=h
 refine Zp 4 rfl (Yo v8) (Zp 6 rfl Yf ?_)
 obtain ⟨x9,v10,h⟩:=h
 refine Zp 7 rfl (Yo v10) (Zp 9 rfl Yf ?_)
 obtain ⟨x11,v12,h⟩:=h
 refine Zp 10 rfl (Yo v12) (GA.eff 2 rfl (by kernel_rfl) (Zc h Qf5 ?_))
 rintro _ H15 ⟨r14,rfl,h⟩
 obtain ⟨hle13,h⟩:=h
 refine GA.back hle13 (GA.eff 5 rfl (by kernel_rfl) (Zc h Qgm ?_))
 rintro _ H18 ⟨r17,rfl,h⟩
 obtain ⟨hle16,h⟩:=h
 refine GA.back hle16 (GA.eff 8 rfl (by kernel_rfl) (Zc h QhH ?_))
 rintro _ H21 ⟨r20,rfl,h⟩
 obtain ⟨hle19,h⟩:=h
 refine GA.back hle19 (GA.eff 11 rfl (by kernel_rfl) (Zc h Qg4 ?_))
 rintro _ H24 ⟨r23,rfl,h⟩
 obtain ⟨hle22,h⟩:=h
 refine GA.back hle22 (Zp 12 rfl (OV.max4 rfl rfl rfl rfl) (Zp 13 rfl Ya (GA.done (by kernel_rfl) (GL.nil ?_))))
 exact Y1 I3 ⟨(max4 r14 r17 r20 r23),rfl,h⟩
def Qmb (C:Ctx) (p_s:Str) (K:Bool→Heap→Prop) (H:Heap):Prop:=
 jn (α:=Bool) (fun b1 H8=>
 jn (α:=Bool) (fun b9 H16=>
 jn (α:=Bool) (fun b17 H23=>
 jn (α:=Bool) (fun b24 H32=>
 K b24 H32)
 (fun J25=>ift b17
 (catOk ([32]:Str) p_s∧
 catOk (([32]:Str)++p_s) ([32]:Str)∧
 Qgp C [32,109,111,100,117,108,101,32,105,109,112,111,114,116,32,112,117,98,32,116,121,112,101,32,105,110,112,117,116,32,114,101,108,32,110,101,118,101,114,32,110,111,116,32,97,110,100,32,111,114,32,105,102,32,116,104,101,110,32,101,108,115,101,32,116,114,117,101,32,102,97,108,115,101,32,99,111,117,110,116,32,115,117,109,32,109,105,110,32,109,97,120,32,110,101,103,32,108,101,110,32,98,105,103,32,105,110,116,32,98,111,111,108,32,116,101,120,116,32,116,117,112,108,101,32] ((([32]:Str)++p_s)++([32]:Str)) (fun r30 H31=>
 J25 (!r30) H31) H23)
 (J25 false H23)))
 (fun J18=>ift b9
 (Qii C p_s (fun r21 H22=>
 J18 r21 H22) H16)
 (J18 false H16)))
 (fun J10=>ift b1
 (ixs p_s 0 fun c13=>
 J10 (decide (((c13.toNat:Int):Int)≤122)) H8)
 (J10 false H8)))
 (fun J2=>ift (!(p_s == ([]:Str)))
 (ixs p_s 0 fun c5=>
 J2 (decide (((c5.toNat:Int):Int) ≥ 97)) H)
 (J2 false H))
theorem Qpl (C p_s K H) (h:Qmb C p_s K H):Qa0 C p_s K H:=by
 refine Ye Tryz.func40 rfl Tryz.ntmps40 [(0,sv p_s)] (Zo (Za (GL.nil (Zo (Zm (Zv (OV.sbin (a:=p_s) (b:=([]:Str)) (v:=.bool (!(p_s == ([]:Str)))) rfl rfl rfl) (Zm ?_)))))))
 obtain ⟨J2,h,hR3⟩:=h
 refine GL.cut (α:=Bool) 4 J2 (fun b1=>[(9,.bool b1),(0,sv p_s)]) ?_ ?_
 rcases h.em with ⟨u4,h⟩ | ⟨u4,h⟩
 refine Zu u4 Ym ?_
 obtain ⟨c5,ha6,hb7,h⟩:=h
 refine Zu u4 (OV.indexStr rfl rfl rfl ha6 hb7) (Zu u4 (OV.ibin (v:=.bool (decide (((c5.toNat:Int):Int) ≥ 97))) rfl rfl rfl) (Zt u4 ?_))
 exact Yj I3 (decide (((c5.toNat:Int):Int) ≥ 97)) h
 refine Zk u4 (Zk u4 (Zk u4 (Zn u4 ?_)))
 exact Yj I3 false h
 intro b1 H8 h
 replace h:=hR3 b1 H8 h
 refine Zm ?_
 obtain ⟨J10,h,hR11⟩:=h
 refine GL.cut (α:=Bool) 4 J10 (fun b9=>[(14,.bool b9),(0,sv p_s)]) ?_ ?_
 rcases h.em with ⟨u12,h⟩ | ⟨u12,h⟩
 refine Zu u12 Ym ?_
 obtain ⟨c13,ha14,hb15,h⟩:=h
 refine Zu u12 (OV.indexStr rfl rfl rfl ha14 hb15) (Zu u12 (OV.ibin (v:=.bool (decide (((c13.toNat:Int):Int)≤122))) rfl rfl rfl) (Zt u12 ?_))
 exact Yj I3 (decide (((c13.toNat:Int):Int)≤122)) h
 refine Zk u12 (Zk u12 (Zk u12 (Zn u12 ?_)))
 exact Yj I3 false h
 intro b9 H16 h
 replace h:=hR11 b9 H16 h
 refine Zm ?_
 obtain ⟨J18,h,hR19⟩:=h
 refine GL.cut (α:=Bool) 3 J18 (fun b17=>[(18,.bool b17),(0,sv p_s)]) ?_ ?_
 rcases h.em with ⟨u20,h⟩ | ⟨u20,h⟩
 refine Zu u20 Ym (GL.call h (Yt u20) rfl Ql5 (vs:=[sv p_s]) rfl ?_)
 rintro _ H22 ⟨r21,rfl,h⟩
 refine Zt u20 ?_
 exact Yj I3 r21 h
 refine Zk u20 (Zk u20 (Zn u20 ?_))
 exact Yj I3 false h
 intro b17 H23 h
 replace h:=hR19 b17 H23 h
 refine Zm ?_
 obtain ⟨J25,h,hR26⟩:=h
 refine GL.cut (α:=Bool) 6 J25 (fun b24=>[(25,.bool b24)]) ?_ ?_
 rcases h.em with ⟨u27,h⟩ | ⟨u27,h⟩
 refine Zu u27 Ym ?_
 obtain ⟨hl28,h⟩:=h
 refine Zu u27 (OV.cat (a:=([32]:Str)) (b:=p_s) rfl rfl hl28) ?_
 obtain ⟨hl29,h⟩:=h
 refine Zu u27 (OV.cat (a:=(([32]:Str)++p_s)) (b:=([32]:Str)) rfl rfl hl29) (GL.call h (Yt u27) rfl QkV (vs:=[sv [32,109,111,100,117,108,101,32,105,109,112,111,114,116,32,112,117,98,32,116,121,112,101,32,105,110,112,117,116,32,114,101,108,32,110,101,118,101,114,32,110,111,116,32,97,110,100,32,111,114,32,105,102,32,116,104,101,110,32,101,108,115,101,32,116,114,117,101,32,102,97,108,115,101,32,99,111,117,110,116,32,115,117,109,32,109,105,110,32,109,97,120,32,110,101,103,32,108,101,110,32,98,105,103,32,105,110,116,32,98,111,111,108,32,116,101,120,116,32,116,117,112,108,101,32],sv ((([32]:Str)++p_s)++([32]:Str))]) rfl ?_)
 rintro _ H31 ⟨r30,rfl,h⟩
 refine Zu u27 (OV.not rfl) (Zt u27 ?_)
 exact Yj I3 (!r30) h
 refine Zk u27 (Zk u27 (Zk u27 (Zk u27 (Zk u27 (Zn u27 ?_)))))
 exact Yj I3 false h
 intro b24 H32 h
 replace h:=hR26 b24 H32 h
 refine Za (GL.nil ?_)
 exact Y1 I3 ⟨b24,rfl,h⟩
def QeP (C:Ctx) (p_l:Sl) (p_is:Value) (K:Bool→Heap→Prop) (H:Heap):Prop:=
 (Value.cells p_is = #[p_is])∧nw ([p_is]) (fun b1 H2=>
 Qu C p_l (.func (.func 122) (List.toArray []) (List.toArray [pv (some (b1,0))]):Value) (fun r4 H5=>
 K (!r4) H5) H2) H
theorem QiN (C p_l p_is K H) (h:QeP C p_l p_is K H):Qai C p_l p_is K H:=by
 refine Ye Tryz.func41 rfl Tryz.ntmps41 [(0,slv p_l),(1,p_is)] (Zo ?_)
 obtain ⟨u3,h⟩:=h
 refine GL.box (v:=p_is) (cs:=[p_is]) h trivial rfl rfl u3 ?_
 intro b1 H2 h
 refine Za (GL.nil (Zo (Zm (Zv (OV.makeFunc (vs:=[]) (us:=[pv (some (b1,0))]) rfl rfl) (Zc h QE ?_)))))
 rintro _ H5 ⟨r4,rfl,h⟩
 refine Zv (OV.not rfl) (Za (GL.nil ?_))
 exact Y1 I3 ⟨(!r4),rfl,h⟩
def QjH (C:Ctx) (p_x:Qp) (K:Bool→Heap→Prop) (H:Heap):Prop:=
 nw (Qp.c p_x) (fun b1 H2=>
 ldS H2 ((b1,0).1,(b1,0).2+2) fun x3=>
 Qa0 C x3 (fun r5 H6=>
 K r5 H6) H2) H
theorem QmF (C p_x K H) (h:QjH C p_x K H):Qcv C p_x K H:=by
 refine Ye Tryz.func42 rfl Tryz.ntmps42 [(0,.agg (Qp.c p_x).toArray)] (Zo (GL.box (v:=.agg (Qp.c p_x).toArray) (cs:=Qp.c p_x) h trivial rfl rfl rfl ?_))
 intro b1 H2 h
 refine Za (GL.nil (Zo (Zf (Yl h fun x3 h=>?_))))
 refine Zc h Qbb ?_
 rintro _ H6 ⟨r5,rfl,h⟩
 refine Za (GL.nil ?_)
 exact Y1 I3 ⟨r5,rfl,h⟩
def QeC (C:Ctx) (p_l:Sl) (p_is:Value) (K:Bool→Heap→Prop) (H:Heap):Prop:=
 (Value.cells p_is = #[p_is])∧nw ([p_is]) (fun b1 H2=>
 QaA C p_l (.func (.func 124) (List.toArray []) (List.toArray [pv (some (b1,0))]):Value) (fun r4 H5=>
 K (!r4) H5) H2) H
theorem Qh6 (C p_l p_is K H) (h:QeC C p_l p_is K H):Qac C p_l p_is K H:=by
 refine Ye Tryz.func43 rfl Tryz.ntmps43 [(0,slv p_l),(1,p_is)] (Zo ?_)
 obtain ⟨u3,h⟩:=h
 refine GL.box (v:=p_is) (cs:=[p_is]) h trivial rfl rfl u3 ?_
 intro b1 H2 h
 refine Za (GL.nil (Zo (Zm (Zv (OV.makeFunc (vs:=[]) (us:=[pv (some (b1,0))]) rfl rfl) (Zc h QbP ?_)))))
 rintro _ H5 ⟨r4,rfl,h⟩
 refine Zv (OV.not rfl) (Za (GL.nil ?_))
 exact Y1 I3 ⟨(!r4),rfl,h⟩
def QjQ (C:Ctx) (p_t:Qc) (K:Bool→Heap→Prop) (H:Heap):Prop:=
 nw (Qc.c p_t) (fun b1 H2=>
 ldS H2 ((b1,0).1,(b1,0).2+3) fun x3=>
 Qa0 C x3 (fun r5 H6=>
 jn (α:=Bool) (fun b7 H13=>
 jn (α:=Bool) (fun b14 H22=>
 jn (α:=Bool) (fun b23 H29=>
 jn (α:=Bool) (fun b30 H36=>
 jn (α:=Bool) (fun b37 H45=>
 K b37 H45)
 (fun J38=>ift b30
 (ldL H36 ((b1,0).1,(b1,0).2+5) fun x41=>
 Qab C x41 (.func (.func 128) (List.toArray []) (List.toArray []):Value) (fun r43 H44=>
 J38 r43 H44) H36)
 (J38 false H36)))
 (fun J31=>ift b23
 (ldL H29 ((b1,0).1,(b1,0).2+5) fun x34=>
 J31 (decide (((Sl.len x34:Int):Int)≤16)) H29)
 (J31 false H29)))
 (fun J24=>ift b14
 (ldL H22 ((b1,0).1,(b1,0).2+5) fun x27=>
 J24 (decide (((Sl.len x27:Int):Int) ≥ 1)) H22)
 (J24 false H22)))
 (fun J15=>ift b7
 (ldL H13 ((b1,0).1,(b1,0).2+4) fun x18=>
 QaB C x18 (.func (.func 126) (List.toArray []) (List.toArray []):Value) (fun r20 H21=>
 J15 r20 H21) H13)
 (J15 false H13)))
 (fun J8=>ift r5
 (ldL H6 ((b1,0).1,(b1,0).2+4) fun x11=>
 J8 (decide (((Sl.len x11:Int):Int)≤8)) H6)
 (J8 false H6))) H2) H
theorem QmO (C p_t K H) (h:QjQ C p_t K H):QcC C p_t K H:=by
 refine Ye Tryz.func44 rfl Tryz.ntmps44 [(0,.agg (Qc.c p_t).toArray)] (Zo (GL.box (v:=.agg (Qc.c p_t).toArray) (cs:=Qc.c p_t) h trivial rfl rfl rfl ?_))
 intro b1 H2 h
 refine Za (GL.nil (Zo (Zf (Yl h fun x3 h=>?_))))
 refine Zc h Qbb ?_
 rintro _ H6 ⟨r5,rfl,h⟩
 refine Zm ?_
 obtain ⟨J8,h,hR9⟩:=h
 refine GL.cut (α:=Bool) 5 J8 (fun b7=>[(11,.bool b7),(1,pv (some (b1,0)))]) ?_ ?_
 rcases h.em with ⟨u10,h⟩ | ⟨u10,h⟩
 refine Zu u10 Yf ?_
 obtain ⟨x11,v12,h⟩:=h
 refine Zu u10 (Yo v12) (Zu u10 (OV.lenSl rfl rfl) (Zu u10 (OV.ibin (v:=.bool (decide (((Sl.len x11:Int):Int)≤8))) rfl rfl rfl) (Zt u10 ?_)))
 exact Yj I3 (decide (((Sl.len x11:Int):Int)≤8)) h
 refine Zk u10 (Zk u10 (Zk u10 (Zk u10 (Zn u10 ?_))))
 exact Yj I3 false h
 intro b7 H13 h
 replace h:=hR9 b7 H13 h
 refine Zm ?_
 obtain ⟨J15,h,hR16⟩:=h
 refine GL.cut (α:=Bool) 4 J15 (fun b14=>[(16,.bool b14),(1,pv (some (b1,0)))]) ?_ ?_
 rcases h.em with ⟨u17,h⟩ | ⟨u17,h⟩
 refine Zu u17 Yf ?_
 obtain ⟨x18,v19,h⟩:=h
 refine Zu u17 (Yo v19) (GL.call h (Yt u17) rfl Qgs (vs:=[slv x18,.func (.func 126) (List.toArray []) (List.toArray [])]) rfl ?_)
 rintro _ H21 ⟨r20,rfl,h⟩
 refine Zt u17 ?_
 exact Yj I3 r20 h
 refine Zk u17 (Zk u17 (Zk u17 (Zn u17 ?_)))
 exact Yj I3 false h
 intro b14 H22 h
 replace h:=hR16 b14 H22 h
 refine Zm ?_
 obtain ⟨J24,h,hR25⟩:=h
 refine GL.cut (α:=Bool) 5 J24 (fun b23=>[(22,.bool b23),(1,pv (some (b1,0)))]) ?_ ?_
 rcases h.em with ⟨u26,h⟩ | ⟨u26,h⟩
 refine Zu u26 Yf ?_
 obtain ⟨x27,v28,h⟩:=h
 refine Zu u26 (Yo v28) (Zu u26 (OV.lenSl rfl rfl) (Zu u26 (OV.ibin (v:=.bool (decide (((Sl.len x27:Int):Int) ≥ 1))) rfl rfl rfl) (Zt u26 ?_)))
 exact Yj I3 (decide (((Sl.len x27:Int):Int) ≥ 1)) h
 refine Zk u26 (Zk u26 (Zk u26 (Zk u26 (Zn u26 ?_))))
 exact Yj I3 false h
 intro b23 H29 h
 replace h:=hR25 b23 H29 h
 refine Zm ?_
 obtain ⟨J31,h,hR32⟩:=h
 refine GL.cut (α:=Bool) 5 J31 (fun b30=>[(28,.bool b30),(1,pv (some (b1,0)))]) ?_ ?_
 rcases h.em with ⟨u33,h⟩ | ⟨u33,h⟩
 refine Zu u33 Yf ?_
 obtain ⟨x34,v35,h⟩:=h
 refine Zu u33 (Yo v35) (Zu u33 (OV.lenSl rfl rfl) (Zu u33 (OV.ibin (v:=.bool (decide (((Sl.len x34:Int):Int)≤16))) rfl rfl rfl) (Zt u33 ?_)))
 exact Yj I3 (decide (((Sl.len x34:Int):Int)≤16)) h
 refine Zk u33 (Zk u33 (Zk u33 (Zk u33 (Zn u33 ?_))))
 exact Yj I3 false h
 intro b30 H36 h
 replace h:=hR32 b30 H36 h
 refine Zm ?_
 obtain ⟨J38,h,hR39⟩:=h
 refine GL.cut (α:=Bool) 4 J38 (fun b37=>[(33,.bool b37)]) ?_ ?_
 rcases h.em with ⟨u40,h⟩ | ⟨u40,h⟩
 refine Zu u40 Yf ?_
 obtain ⟨x41,v42,h⟩:=h
 refine Zu u40 (Yo v42) (GL.call h (Yt u40) rfl Qio (vs:=[slv x41,.func (.func 128) (List.toArray []) (List.toArray [])]) rfl ?_)
 rintro _ H44 ⟨r43,rfl,h⟩
 refine Zt u40 ?_
 exact Yj I3 r43 h
 refine Zk u40 (Zk u40 (Zk u40 (Zn u40 ?_)))
 exact Yj I3 false h
 intro b37 H45 h
 replace h:=hR39 b37 H45 h
 refine Za (GL.nil ?_)
 exact Y1 I3 ⟨b37,rfl,h⟩
def QeQ (C:Ctx) (p_l:Sl) (p_is:Value) (K:Bool→Heap→Prop) (H:Heap):Prop:=
 (Value.cells p_is = #[p_is])∧nw ([p_is]) (fun b1 H2=>
 QaH C p_l (.func (.func 130) (List.toArray []) (List.toArray [pv (some (b1,0))]):Value) (fun r4 H5=>
 K (!r4) H5) H2) H
theorem QiO (C p_l p_is K H) (h:QeQ C p_l p_is K H):Qaj C p_l p_is K H:=by
 refine Ye Tryz.func45 rfl Tryz.ntmps45 [(0,slv p_l),(1,p_is)] (Zo ?_)
 obtain ⟨u3,h⟩:=h
 refine GL.box (v:=p_is) (cs:=[p_is]) h trivial rfl rfl u3 ?_
 intro b1 H2 h
 refine Za (GL.nil (Zo (Zm (Zv (OV.makeFunc (vs:=[]) (us:=[pv (some (b1,0))]) rfl rfl) (Zc h Qb1 ?_)))))
 rintro _ H5 ⟨r4,rfl,h⟩
 refine Zv (OV.not rfl) (Za (GL.nil ?_))
 exact Y1 I3 ⟨(!r4),rfl,h⟩
def QjI (C:Ctx) (p_x:Qh) (K:Bool→Heap→Prop) (H:Heap):Prop:=
 nw (Qh.c p_x) (fun b1 H2=>
 ldS H2 ((b1,0).1,(b1,0).2+4) fun x3=>
 Qa0 C x3 (fun r5 H6=>
 jn (α:=Bool) (fun b7 H15=>
 K b7 H15)
 (fun J8=>ift r5
 (ldL H6 ((b1,0).1,(b1,0).2+5) fun x11=>
 QbA C x11 true (fun r13 H14=>
 J8 r13 H14) H6)
 (J8 false H6))) H2) H
theorem QmG (C p_x K H) (h:QjI C p_x K H):Qcw C p_x K H:=by
 refine Ye Tryz.func46 rfl Tryz.ntmps46 [(0,.agg (Qh.c p_x).toArray)] (Zo (GL.box (v:=.agg (Qh.c p_x).toArray) (cs:=Qh.c p_x) h trivial rfl rfl rfl ?_))
 intro b1 H2 h
 refine Za (GL.nil (Zo (Zf (Yl h fun x3 h=>?_))))
 refine Zc h Qbb ?_
 rintro _ H6 ⟨r5,rfl,h⟩
 refine Zm ?_
 obtain ⟨J8,h,hR9⟩:=h
 refine GL.cut (α:=Bool) 4 J8 (fun b7=>[(10,.bool b7)]) ?_ ?_
 rcases h.em with ⟨u10,h⟩ | ⟨u10,h⟩
 refine Zu u10 Yf ?_
 obtain ⟨x11,v12,h⟩:=h
 refine Zu u10 (Yo v12) (GL.call h (Yt u10) rfl Qko (vs:=[slv x11,.bool true]) rfl ?_)
 rintro _ H14 ⟨r13,rfl,h⟩
 refine Zt u10 ?_
 exact Yj I3 r13 h
 refine Zk u10 (Zk u10 (Zk u10 (Zn u10 ?_)))
 exact Yj I3 false h
 intro b7 H15 h
 replace h:=hR9 b7 H15 h
 refine Za (GL.nil ?_)
 exact Y1 I3 ⟨b7,rfl,h⟩
def QkC (C:Ctx) (p_l:Sl) (p_named:Bool) (K:Bool→Heap→Prop) (H:Heap):Prop:=
 nw ([.bool p_named]) (fun b1 H2=>
 jn (α:=Bool) (fun b3 H9=>
 K b3 H9)
 (fun J4=>ift (decide (((Sl.len p_l:Int):Int)≤8))
 (QY C p_l (.func (.func 132) (List.toArray []) (List.toArray [pv (some (b1,0))]):Value) (fun r7 H8=>
 J4 r7 H8) H2)
 (J4 false H2))) H
theorem QnP (C p_l p_named K H) (h:QkC C p_l p_named K H):QbA C p_l p_named K H:=by
 refine Ye Tryz.func47 rfl Tryz.ntmps47 [(0,slv p_l),(1,.bool p_named)] (Zo (GL.box (v:=.bool p_named) (cs:=[.bool p_named]) h trivial rfl rfl rfl ?_))
 intro b1 H2 h
 refine Za (GL.nil (Zo (Zm (Zq (Zi (.bool (decide (((Sl.len p_l:Int):Int)≤8))) (Zm ?_))))))
 obtain ⟨J4,h,hR5⟩:=h
 refine GL.cut (α:=Bool) 4 J4 (fun b3=>[(12,.bool b3)]) ?_ ?_
 rcases h.em with ⟨u6,h⟩ | ⟨u6,h⟩
 refine Zu u6 Ym (Zu u6 (OV.makeFunc (vs:=[]) (us:=[pv (some (b1,0))]) rfl rfl) (GL.call h (Yt u6) rfl QhE (vs:=[slv p_l,.func (.func 132) (List.toArray []) (List.toArray [pv (some (b1,0))])]) rfl ?_))
 rintro _ H8 ⟨r7,rfl,h⟩
 refine Zt u6 ?_
 exact Yj I3 r7 h
 refine Zk u6 (Zk u6 (Zk u6 (Zn u6 ?_)))
 exact Yj I3 false h
 intro b3 H9 h
 replace h:=hR5 b3 H9 h
 refine Za (GL.nil ?_)
 exact Y1 I3 ⟨b3,rfl,h⟩
def QfB (C:Ctx) (p_l:Sl) (p_is:Value) (K:Bool→Heap→Prop) (H:Heap):Prop:=
 (Value.cells p_is = #[p_is])∧nw ([p_is]) (fun b1 H2=>
 Qba C p_l (.func (.func 135) (List.toArray []) (List.toArray [pv (some (b1,0))]):Value) (fun r4 H5=>
 K (!r4) H5) H2) H
theorem Qj6 (C p_l p_is K H) (h:QfB C p_l p_is K H):Qak C p_l p_is K H:=by
 refine Ye Tryz.func48 rfl Tryz.ntmps48 [(0,slv p_l),(1,p_is)] (Zo ?_)
 obtain ⟨u3,h⟩:=h
 refine GL.box (v:=p_is) (cs:=[p_is]) h trivial rfl rfl u3 ?_
 intro b1 H2 h
 refine Za (GL.nil (Zo (Zm (Zv (OV.makeFunc (vs:=[]) (us:=[pv (some (b1,0))]) rfl rfl) (Zc h Qc0 ?_)))))
 rintro _ H5 ⟨r4,rfl,h⟩
 refine Zv (OV.not rfl) (Za (GL.nil ?_))
 exact Y1 I3 ⟨(!r4),rfl,h⟩
def Qmd (C:Ctx) (p_r:Qj) (K:Bool→Heap→Prop) (H:Heap):Prop:=
 nw (Qj.c p_r) (fun b1 H2=>
 ldS H2 ((b1,0).1,(b1,0).2+2) fun x3=>
 QeV C x3 (fun r5 H6=>
 jn (α:=Bool) (fun b7 H13=>
 jn (α:=Bool) (fun b14 H22=>
 jn (α:=Bool) (fun b23 H31=>
 jn (α:=Bool) (fun b32 H40=>
 jn (α:=Bool) (fun b41 H49=>
 K b41 H49)
 (fun J42=>ift b32
 (ldL H40 ((b1,0).1,(b1,0).2+4) fun x45=>
 QaB C x45 (.func (.func 139) (List.toArray []) (List.toArray []):Value) (fun r47 H48=>
 J42 r47 H48) H40)
 (J42 false H40)))
 (fun J33=>ift b23
 (ldL H31 ((b1,0).1,(b1,0).2+5) fun x36=>
 QI C x36 (.func (.func 53) (List.toArray []) (List.toArray []):Value) (fun r38 H39=>
 J33 r38 H39) H31)
 (J33 false H31)))
 (fun J24=>ift b14
 (ldL H22 ((b1,0).1,(b1,0).2+3) fun x27=>
 QH C x27 (.func (.func 138) (List.toArray []) (List.toArray []):Value) (fun r29 H30=>
 J24 r29 H30) H22)
 (J24 false H22)))
 (fun J15=>ift b7
 (ldL H13 ((b1,0).1,(b1,0).2+4) fun x18=>
 ldL H13 ((b1,0).1,(b1,0).2+3) fun x20=>
 J15 (((Sl.len x18:Int):Int) == (Sl.len x20:Int)) H13)
 (J15 false H13)))
 (fun J8=>ift r5
 (ldL H6 ((b1,0).1,(b1,0).2+3) fun x11=>
 J8 (decide (((Sl.len x11:Int):Int)≤8)) H6)
 (J8 false H6))) H2) H
theorem Qpn (C p_r K H) (h:Qmd C p_r K H):QeW C p_r K H:=by
 refine Ye Tryz.func49 rfl Tryz.ntmps49 [(0,.agg (Qj.c p_r).toArray)] (Zo (GL.box (v:=.agg (Qj.c p_r).toArray) (cs:=Qj.c p_r) h trivial rfl rfl rfl ?_))
 intro b1 H2 h
 refine Za (GL.nil (Zo (Zf (Yl h fun x3 h=>?_))))
 refine Zc h Qgt ?_
 rintro _ H6 ⟨r5,rfl,h⟩
 refine Zm ?_
 obtain ⟨J8,h,hR9⟩:=h
 refine GL.cut (α:=Bool) 5 J8 (fun b7=>[(11,.bool b7),(1,pv (some (b1,0)))]) ?_ ?_
 rcases h.em with ⟨u10,h⟩ | ⟨u10,h⟩
 refine Zu u10 Yf ?_
 obtain ⟨x11,v12,h⟩:=h
 refine Zu u10 (Yo v12) (Zu u10 (OV.lenSl rfl rfl) (Zu u10 (OV.ibin (v:=.bool (decide (((Sl.len x11:Int):Int)≤8))) rfl rfl rfl) (Zt u10 ?_)))
 exact Yj I3 (decide (((Sl.len x11:Int):Int)≤8)) h
 refine Zk u10 (Zk u10 (Zk u10 (Zk u10 (Zn u10 ?_))))
 exact Yj I3 false h
 intro b7 H13 h
 replace h:=hR9 b7 H13 h
 refine Zm ?_
 obtain ⟨J15,h,hR16⟩:=h
 refine GL.cut (α:=Bool) 8 J15 (fun b14=>[(20,.bool b14),(1,pv (some (b1,0)))]) ?_ ?_
 rcases h.em with ⟨u17,h⟩ | ⟨u17,h⟩
 refine Zu u17 Yf ?_
 obtain ⟨x18,v19,h⟩:=h
 refine Zu u17 (Yo v19) (Zu u17 (OV.lenSl rfl rfl) (Zu u17 Yf ?_))
 obtain ⟨x20,v21,h⟩:=h
 refine Zu u17 (Yo v21) (Zu u17 (OV.lenSl rfl rfl) (Zu u17 (OV.ibin (v:=.bool (((Sl.len x18:Int):Int) == (Sl.len x20:Int))) rfl rfl rfl) (Zt u17 ?_)))
 exact Yj I3 (((Sl.len x18:Int):Int) == (Sl.len x20:Int)) h
 refine Zk u17 (Zk u17 (Zk u17 (Zk u17 (Zk u17 (Zk u17 (Zk u17 (Zn u17 ?_)))))))
 exact Yj I3 false h
 intro b14 H22 h
 replace h:=hR16 b14 H22 h
 refine Zm ?_
 obtain ⟨J24,h,hR25⟩:=h
 refine GL.cut (α:=Bool) 4 J24 (fun b23=>[(25,.bool b23),(1,pv (some (b1,0)))]) ?_ ?_
 rcases h.em with ⟨u26,h⟩ | ⟨u26,h⟩
 refine Zu u26 Yf ?_
 obtain ⟨x27,v28,h⟩:=h
 refine Zu u26 (Yo v28) (GL.call h (Yt u26) rfl QdB (vs:=[slv x27,.func (.func 138) (List.toArray []) (List.toArray [])]) rfl ?_)
 rintro _ H30 ⟨r29,rfl,h⟩
 refine Zt u26 ?_
 exact Yj I3 r29 h
 refine Zk u26 (Zk u26 (Zk u26 (Zn u26 ?_)))
 exact Yj I3 false h
 intro b23 H31 h
 replace h:=hR25 b23 H31 h
 refine Zm ?_
 obtain ⟨J33,h,hR34⟩:=h
 refine GL.cut (α:=Bool) 4 J33 (fun b32=>[(30,.bool b32),(1,pv (some (b1,0)))]) ?_ ?_
 rcases h.em with ⟨u35,h⟩ | ⟨u35,h⟩
 refine Zu u35 Yf ?_
 obtain ⟨x36,v37,h⟩:=h
 refine Zu u35 (Yo v37) (GL.call h (Yt u35) rfl Qew (vs:=[slv x36,.func (.func 53) (List.toArray []) (List.toArray [])]) rfl ?_)
 rintro _ H39 ⟨r38,rfl,h⟩
 refine Zt u35 ?_
 exact Yj I3 r38 h
 refine Zk u35 (Zk u35 (Zk u35 (Zn u35 ?_)))
 exact Yj I3 false h
 intro b32 H40 h
 replace h:=hR34 b32 H40 h
 refine Zm ?_
 obtain ⟨J42,h,hR43⟩:=h
 refine GL.cut (α:=Bool) 4 J42 (fun b41=>[(35,.bool b41)]) ?_ ?_
 rcases h.em with ⟨u44,h⟩ | ⟨u44,h⟩
 refine Zu u44 Yf ?_
 obtain ⟨x45,v46,h⟩:=h
 refine Zu u44 (Yo v46) (GL.call h (Yt u44) rfl Qgs (vs:=[slv x45,.func (.func 139) (List.toArray []) (List.toArray [])]) rfl ?_)
 rintro _ H48 ⟨r47,rfl,h⟩
 refine Zt u44 ?_
 exact Yj I3 r47 h
 refine Zk u44 (Zk u44 (Zk u44 (Zn u44 ?_)))
 exact Yj I3 false h
 intro b41 H49 h
 replace h:=hR43 b41 H49 h
 refine Za (GL.nil ?_)
 exact Y1 I3 ⟨b41,rfl,h⟩
def Qfe (C:Ctx) (p_l:Sl) (p_is:Value) (K:Bool→Heap→Prop) (H:Heap):Prop:=
 (Value.cells p_is = #[p_is])∧nw ([p_is]) (fun b1 H2=>
 QaW C p_l (.func (.func 141) (List.toArray []) (List.toArray [pv (some (b1,0))]):Value) (fun r4 H5=>
 K (!r4) H5) H2) H
theorem Qjc (C p_l p_is K H) (h:Qfe C p_l p_is K H):Q8 C p_l p_is K H:=by
 refine Ye Tryz.func50 rfl Tryz.ntmps50 [(0,slv p_l),(1,p_is)] (Zo ?_)
 obtain ⟨u3,h⟩:=h
 refine GL.box (v:=p_is) (cs:=[p_is]) h trivial rfl rfl u3 ?_
 intro b1 H2 h
 refine Za (GL.nil (Zo (Zm (Zv (OV.makeFunc (vs:=[]) (us:=[pv (some (b1,0))]) rfl rfl) (Zc h Qcp ?_)))))
 rintro _ H5 ⟨r4,rfl,h⟩
 refine Zv (OV.not rfl) (Za (GL.nil ?_))
 exact Y1 I3 ⟨(!r4),rfl,h⟩
def QjJ (C:Ctx) (p_x:Qm) (K:Bool→Heap→Prop) (H:Heap):Prop:=
 nw (Qm.c p_x) (fun b1 H2=>
 ldS H2 ((b1,0).1,(b1,0).2+2) fun x3=>
 Qa0 C x3 (fun r5 H6=>
 jn (α:=Bool) (fun b7 H13=>
 jn (α:=Bool) (fun b14 H22=>
 K b14 H22)
 (fun J15=>ift b7
 (ldL H13 ((b1,0).1,(b1,0).2+3) fun x18=>
 QI C x18 (.func (.func 53) (List.toArray []) (List.toArray []):Value) (fun r20 H21=>
 J15 r20 H21) H13)
 (J15 false H13)))
 (fun J8=>ift r5
 (ldL H6 ((b1,0).1,(b1,0).2+3) fun x11=>
 J8 (decide (((Sl.len x11:Int):Int) > 0)) H6)
 (J8 false H6))) H2) H
theorem QmH (C p_x K H) (h:QjJ C p_x K H):Qcx C p_x K H:=by
 refine Ye Tryz.func51 rfl Tryz.ntmps51 [(0,.agg (Qm.c p_x).toArray)] (Zo (GL.box (v:=.agg (Qm.c p_x).toArray) (cs:=Qm.c p_x) h trivial rfl rfl rfl ?_))
 intro b1 H2 h
 refine Za (GL.nil (Zo (Zf (Yl h fun x3 h=>?_))))
 refine Zc h Qbb ?_
 rintro _ H6 ⟨r5,rfl,h⟩
 refine Zm ?_
 obtain ⟨J8,h,hR9⟩:=h
 refine GL.cut (α:=Bool) 5 J8 (fun b7=>[(11,.bool b7),(1,pv (some (b1,0)))]) ?_ ?_
 rcases h.em with ⟨u10,h⟩ | ⟨u10,h⟩
 refine Zu u10 Yf ?_
 obtain ⟨x11,v12,h⟩:=h
 refine Zu u10 (Yo v12) (Zu u10 (OV.lenSl rfl rfl) (Zu u10 (OV.ibin (v:=.bool (decide (((Sl.len x11:Int):Int) > 0))) rfl rfl rfl) (Zt u10 ?_)))
 exact Yj I3 (decide (((Sl.len x11:Int):Int) > 0)) h
 refine Zk u10 (Zk u10 (Zk u10 (Zk u10 (Zn u10 ?_))))
 exact Yj I3 false h
 intro b7 H13 h
 replace h:=hR9 b7 H13 h
 refine Zm ?_
 obtain ⟨J15,h,hR16⟩:=h
 refine GL.cut (α:=Bool) 4 J15 (fun b14=>[(16,.bool b14)]) ?_ ?_
 rcases h.em with ⟨u17,h⟩ | ⟨u17,h⟩
 refine Zu u17 Yf ?_
 obtain ⟨x18,v19,h⟩:=h
 refine Zu u17 (Yo v19) (GL.call h (Yt u17) rfl Qew (vs:=[slv x18,.func (.func 53) (List.toArray []) (List.toArray [])]) rfl ?_)
 rintro _ H21 ⟨r20,rfl,h⟩
 refine Zt u17 ?_
 exact Yj I3 r20 h
 refine Zk u17 (Zk u17 (Zk u17 (Zn u17 ?_)))
 exact Yj I3 false h
 intro b14 H22 h
 replace h:=hR16 b14 H22 h
 refine Za (GL.nil ?_)
 exact Y1 I3 ⟨b14,rfl,h⟩
def QeB (C:Ctx) (p_l:Sl) (p_is:Value) (K:Bool→Heap→Prop) (H:Heap):Prop:=
 (Value.cells p_is = #[p_is])∧nw ([p_is]) (fun b1 H2=>
 Qaz C p_l (.func (.func 143) (List.toArray []) (List.toArray [pv (some (b1,0))]):Value) (fun r4 H5=>
 K (!r4) H5) H2) H
theorem Qh4 (C p_l p_is K H) (h:QeB C p_l p_is K H):QI C p_l p_is K H:=by
 refine Ye Tryz.func52 rfl Tryz.ntmps52 [(0,slv p_l),(1,p_is)] (Zo ?_)
 obtain ⟨u3,h⟩:=h
 refine GL.box (v:=p_is) (cs:=[p_is]) h trivial rfl rfl u3 ?_
 intro b1 H2 h
 refine Za (GL.nil (Zo (Zm (Zv (OV.makeFunc (vs:=[]) (us:=[pv (some (b1,0))]) rfl rfl) (Zc h QbO ?_)))))
 rintro _ H5 ⟨r4,rfl,h⟩
 refine Zv (OV.not rfl) (Za (GL.nil ?_))
 exact Y1 I3 ⟨(!r4),rfl,h⟩
def QjO (C:Ctx) (p_x:Qk) (K:Bool→Heap→Prop) (H:Heap):Prop:=
 nw (Qk.c p_x) (fun b1 H2=>
 ldI H2 .u8 ((b1,0).1,(b1,0).2+0) fun x3=>
 jn (α:=Bool) (fun x6 H7=>
 ift x6
 (ldS H7 ((b1,0).1,(b1,0).2+3) fun x11=>
 QeV C x11 (fun r13 H14=>
 jn (α:=Bool) (fun b15 H21=>
 jn (α:=Bool) (fun b22 H30=>
 K b22 H30)
 (fun J23=>ift b15
 (ldL H21 ((b1,0).1,(b1,0).2+4) fun x26=>
 QH C x26 (.func (.func 144) (List.toArray []) (List.toArray []):Value) (fun r28 H29=>
 J23 r28 H29) H21)
 (J23 false H21)))
 (fun J16=>ift r13
 (ldL H14 ((b1,0).1,(b1,0).2+4) fun x19=>
 J16 (decide (((Sl.len x19:Int):Int)≤8)) H14)
 (J16 false H14))) H7)
 (ift ((x3:Int) == 3)
 (ldS H7 ((b1,0).1,(b1,0).2+3) fun x32=>
 jn (α:=Bool) (fun b34 H40=>
 jn (α:=Bool) (fun b41 H56=>
 K b41 H56)
 (fun J42=>ift b34
 (ldL H40 ((b1,0).1,(b1,0).2+4) fun x45=>
 ixa x45 0 fun p47=>
 ldT H40 Qb.c (p47.1,p47.2+(0:Int).toNat*9) fun x52=>
 Qcc C x52 (fun r54 H55=>
 J42 r54 H55) H40)
 (J42 false H40)))
 (fun J35=>ift (x32 == ([]:Str))
 (ldL H7 ((b1,0).1,(b1,0).2+4) fun x38=>
 J35 (((Sl.len x38:Int):Int) == 1) H7)
 (J35 false H7)))
 (ift ((x3:Int) == 4)
 (ldS H7 ((b1,0).1,(b1,0).2+3) fun x58=>
 Qep C x58 (fun r60 H61=>
 jn (α:=Bool) (fun b62 H68=>
 jn (α:=Bool) (fun b69 H84=>
 K b69 H84)
 (fun J70=>ift b62
 (ldL H68 ((b1,0).1,(b1,0).2+4) fun x73=>
 ixa x73 0 fun p75=>
 ldT H68 Qb.c (p75.1,p75.2+(0:Int).toNat*9) fun x80=>
 Qcc C x80 (fun r82 H83=>
 J70 r82 H83) H68)
 (J70 false H68)))
 (fun J63=>ift r60
 (ldL H61 ((b1,0).1,(b1,0).2+4) fun x66=>
 J63 (((Sl.len x66:Int):Int) == 1) H61)
 (J63 false H61))) H7)
 (K false H7))))
 (fun J5=>ift ((x3:Int) == 1)
 (J5 ((x3:Int) == 1) H2)
 (J5 ((x3:Int) == 2) H2))) H
theorem QmM (C p_x K H) (h:QjO C p_x K H):QcA C p_x K H:=by
 refine Ye Tryz.func53 rfl Tryz.ntmps53 [(0,.agg (Qk.c p_x).toArray)] (Zo (GL.box (v:=.agg (Qk.c p_x).toArray) (cs:=Qk.c p_x) h trivial rfl rfl rfl ?_))
 intro b1 H2 h
 refine Za (GL.nil (GC.seq (Zo (Zf (Yl h fun x3 h=>?_)))))
 refine GL.nil (GC.block ?_)
 obtain ⟨J5,h,hR8⟩:=h
 refine GC.join (α:=Bool) J5 (fun x6=>[(5,.bool x6),(1,pv (some (b1,0))),(4,.int .u8 x3)]) ?_ ?_
 refine Zo (Zi (.bool ((x3:Int) == 1)) (Za (GL.nil (Yd h (fun hc9 h=>?_) fun hc9 h=>?_))))
 exact Yk I3 ((x3:Int) == 1) h
 refine GC.region (Zi (.bool ((x3:Int) == 2)) (Za ?_))
 exact Yj I3 ((x3:Int) == 2) h
 intro x6 H7 h
 replace h:=hR8 x6 H7 h
 refine Yd h (fun hc10 h=>?_) fun hc10 h=>?_
 refine Zo (Zf (Yl h fun x11 h=>?_))
 refine Zc h Qgt ?_
 rintro _ H14 ⟨r13,rfl,h⟩
 refine Zm ?_
 obtain ⟨J16,h,hR17⟩:=h
 refine GL.cut (α:=Bool) 5 J16 (fun b15=>[(16,.bool b15),(1,pv (some (b1,0)))]) ?_ ?_
 rcases h.em with ⟨hc18,h⟩ | ⟨hc18,h⟩
 refine Zu hc18 Yf ?_
 obtain ⟨x19,v20,h⟩:=h
 refine Zu hc18 (Yo v20) (Zu hc18 (OV.lenSl rfl rfl) (Zu hc18 (OV.ibin (v:=.bool (decide (((Sl.len x19:Int):Int)≤8))) rfl rfl rfl) (Zt hc18 ?_)))
 exact Yj I3 (decide (((Sl.len x19:Int):Int)≤8)) h
 refine Zk hc18 (Zk hc18 (Zk hc18 (Zk hc18 (Zn hc18 ?_))))
 exact Yj I3 false h
 intro b15 H21 h
 replace h:=hR17 b15 H21 h
 refine Zm ?_
 obtain ⟨J23,h,hR24⟩:=h
 refine GL.cut (α:=Bool) 4 J23 (fun b22=>[(21,.bool b22)]) ?_ ?_
 rcases h.em with ⟨hc25,h⟩ | ⟨hc25,h⟩
 refine Zu hc25 Yf ?_
 obtain ⟨x26,v27,h⟩:=h
 refine Zu hc25 (Yo v27) (GL.call h (Yt hc25) rfl QdB (vs:=[slv x26,.func (.func 144) (List.toArray []) (List.toArray [])]) rfl ?_)
 rintro _ H29 ⟨r28,rfl,h⟩
 refine Zt hc25 ?_
 exact Yj I3 r28 h
 refine Zk hc25 (Zk hc25 (Zk hc25 (Zn hc25 ?_)))
 exact Yj I3 false h
 intro b22 H30 h
 replace h:=hR24 b22 H30 h
 refine Za (GL.nil ?_)
 exact Y1 I3 ⟨b22,rfl,h⟩
 refine Zo (Zi (.bool ((x3:Int) == 3)) (Za (GL.nil (Yd h (fun hc31 h=>?_) fun hc31 h=>?_))))
 refine Zo (Zf (Yl h fun x32 h=>?_))
 refine Zv (OV.sbin (a:=x32) (b:=([]:Str)) (v:=.bool (x32 == ([]:Str))) rfl rfl rfl) (Zm ?_)
 obtain ⟨J35,h,hR36⟩:=h
 refine GL.cut (α:=Bool) 5 J35 (fun b34=>[(32,.bool b34),(1,pv (some (b1,0)))]) ?_ ?_
 rcases h.em with ⟨hc37,h⟩ | ⟨hc37,h⟩
 refine Zu hc37 Yf ?_
 obtain ⟨x38,v39,h⟩:=h
 refine Zu hc37 (Yo v39) (Zu hc37 (OV.lenSl rfl rfl) (Zu hc37 (OV.ibin (v:=.bool (((Sl.len x38:Int):Int) == 1)) rfl rfl rfl) (Zt hc37 ?_)))
 exact Yj I3 (((Sl.len x38:Int):Int) == 1) h
 refine Zk hc37 (Zk hc37 (Zk hc37 (Zk hc37 (Zn hc37 ?_))))
 exact Yj I3 false h
 intro b34 H40 h
 replace h:=hR36 b34 H40 h
 refine Zm ?_
 obtain ⟨J42,h,hR43⟩:=h
 refine GL.cut (α:=Bool) 6 J42 (fun b41=>[(39,.bool b41)]) ?_ ?_
 rcases h.em with ⟨hc44,h⟩ | ⟨hc44,h⟩
 refine Zu hc44 Yf ?_
 obtain ⟨x45,v46,h⟩:=h
 refine Zu hc44 (Yo v46) ?_
 obtain ⟨p47,ha48,hb49,hc50,hd51,h⟩:=h
 refine Zu hc44 (OV.indexAddr rfl rfl rfl rfl ha48 hb49 hc50 hd51) ?_
 obtain ⟨x52,v53,h⟩:=h
 refine Zu hc44 (OV.loadT rfl rfl rfl v53) (GL.call h (Yt hc44) rfl Qjv (vs:=[.agg (Qb.c x52).toArray]) rfl ?_)
 rintro _ H55 ⟨r54,rfl,h⟩
 refine Zt hc44 ?_
 exact Yj I3 r54 h
 refine Zk hc44 (Zk hc44 (Zk hc44 (Zk hc44 (Zk hc44 (Zn hc44 ?_)))))
 exact Yj I3 false h
 intro b41 H56 h
 replace h:=hR43 b41 H56 h
 refine Za (GL.nil ?_)
 exact Y1 I3 ⟨b41,rfl,h⟩
 refine Zo (Zi (.bool ((x3:Int) == 4)) (Za (GL.nil (Yd h (fun hc57 h=>?_) fun hc57 h=>?_))))
 refine Zo (Zf (Yl h fun x58 h=>?_))
 refine Zc h Qiz ?_
 rintro _ H61 ⟨r60,rfl,h⟩
 refine Zm ?_
 obtain ⟨J63,h,hR64⟩:=h
 refine GL.cut (α:=Bool) 5 J63 (fun b62=>[(50,.bool b62),(1,pv (some (b1,0)))]) ?_ ?_
 rcases h.em with ⟨hc65,h⟩ | ⟨hc65,h⟩
 refine Zu hc65 Yf ?_
 obtain ⟨x66,v67,h⟩:=h
 refine Zu hc65 (Yo v67) (Zu hc65 (OV.lenSl rfl rfl) (Zu hc65 (OV.ibin (v:=.bool (((Sl.len x66:Int):Int) == 1)) rfl rfl rfl) (Zt hc65 ?_)))
 exact Yj I3 (((Sl.len x66:Int):Int) == 1) h
 refine Zk hc65 (Zk hc65 (Zk hc65 (Zk hc65 (Zn hc65 ?_))))
 exact Yj I3 false h
 intro b62 H68 h
 replace h:=hR64 b62 H68 h
 refine Zm ?_
 obtain ⟨J70,h,hR71⟩:=h
 refine GL.cut (α:=Bool) 6 J70 (fun b69=>[(57,.bool b69)]) ?_ ?_
 rcases h.em with ⟨hc72,h⟩ | ⟨hc72,h⟩
 refine Zu hc72 Yf ?_
 obtain ⟨x73,v74,h⟩:=h
 refine Zu hc72 (Yo v74) ?_
 obtain ⟨p75,ha76,hb77,hc78,hd79,h⟩:=h
 refine Zu hc72 (OV.indexAddr rfl rfl rfl rfl ha76 hb77 hc78 hd79) ?_
 obtain ⟨x80,v81,h⟩:=h
 refine Zu hc72 (OV.loadT rfl rfl rfl v81) (GL.call h (Yt hc72) rfl Qjv (vs:=[.agg (Qb.c x80).toArray]) rfl ?_)
 rintro _ H83 ⟨r82,rfl,h⟩
 refine Zt hc72 ?_
 exact Yj I3 r82 h
 refine Zk hc72 (Zk hc72 (Zk hc72 (Zk hc72 (Zk hc72 (Zn hc72 ?_)))))
 exact Yj I3 false h
 intro b69 H84 h
 replace h:=hR71 b69 H84 h
 refine Za (GL.nil ?_)
 exact Y1 I3 ⟨b69,rfl,h⟩
 refine GC.skip_to I3 (Zo (Za (GL.nil ?_)))
 exact Y1 I3 ⟨false,rfl,h⟩
def QjK (C:Ctx) (p_x:Qj) (K:Bool→Heap→Prop) (H:Heap):Prop:=
 nw (Qj.c p_x) (fun b1 H2=>
 ldL H2 ((b1,0).1,(b1,0).2+5) fun x3=>
 K (decide (((Sl.len x3:Int):Int)≤12)) H2) H
theorem QmI (C p_x K H) (h:QjK C p_x K H):Qcy C p_x K H:=by
 refine Ye Tryz.func54 rfl Tryz.ntmps54 [(0,.agg (Qj.c p_x).toArray)] (Zo (GL.box (v:=.agg (Qj.c p_x).toArray) (cs:=Qj.c p_x) h trivial rfl rfl rfl ?_))
 intro b1 H2 h
 refine Za (GL.nil (Zo (Zf (Yl h fun x3 h=>?_))))
 refine Zq (Zi (.bool (decide (((Sl.len x3:Int):Int)≤12))) (Za (GL.nil ?_)))
 exact Y1 I3 ⟨(decide (((Sl.len x3:Int):Int)≤12)),rfl,h⟩
def QjL (C:Ctx) (p_x:Qm) (K:Bool→Heap→Prop) (H:Heap):Prop:=
 nw (Qm.c p_x) (fun b1 H2=>
 ldL H2 ((b1,0).1,(b1,0).2+3) fun x3=>
 K (decide (((Sl.len x3:Int):Int)≤12)) H2) H
theorem QmJ (C p_x K H) (h:QjL C p_x K H):Qcz C p_x K H:=by
 refine Ye Tryz.func55 rfl Tryz.ntmps55 [(0,.agg (Qm.c p_x).toArray)] (Zo (GL.box (v:=.agg (Qm.c p_x).toArray) (cs:=Qm.c p_x) h trivial rfl rfl rfl ?_))
 intro b1 H2 h
 refine Za (GL.nil (Zo (Zf (Yl h fun x3 h=>?_))))
 refine Zq (Zi (.bool (decide (((Sl.len x3:Int):Int)≤12))) (Za (GL.nil ?_)))
 exact Y1 I3 ⟨(decide (((Sl.len x3:Int):Int)≤12)),rfl,h⟩
def QjF (C:Ctx) (E:Value→Heap→Prop) (p_m:Qa) (p_pos:Qo) (p_e:Int) (K:Heap→Prop) (H:Heap):Prop:=
 nw (Qa.c p_m) (fun b1 H2=>
 nw (Qo.c p_pos) (fun b3 H4=>
 ldS H4 ((b1,0).1,(b1,0).2+0) fun x5=>
 ldT H4 Qo.c (b3,0) fun x7=>
 E (.iface 89 (.agg (Qs.c (⟨(⟨x5,x7⟩:Qi),p_e⟩:Qs)).toArray:Value)) H4) H2) H
theorem QmD (C E p_m p_pos p_e K H) (h:QjF C E p_m p_pos p_e K H):QG C E p_m p_pos p_e K H:=by
 refine SpecP.enter Tryz.func56 rfl Tryz.ntmps56 rfl (GC.sub [(0,.agg (Qa.c p_m).toArray),(1,.agg (Qo.c p_pos).toArray),(2,.int .i64 p_e)] ⟨rfl,rfl,rfl,trivial⟩ (Zo (GL.box (v:=.agg (Qa.c p_m).toArray) (cs:=Qa.c p_m) h trivial rfl rfl rfl ?_)))
 intro b1 H2 h
 refine GL.box (v:=.agg (Qo.c p_pos).toArray) (cs:=Qo.c p_pos) h trivial rfl rfl rfl ?_
 intro b3 H4 h
 refine GL.nil (GC.region (Zf (Yl h fun x5 h=>?_)))
 obtain ⟨x7,v8,h⟩:=h
 refine Zv (OV.loadT rfl rfl rfl v8) (Zv (OV.build (vs:=[(0,sv x5),(1,.agg (Qo.c x7).toArray)]) (v:=.agg (Qi.c (⟨x5,x7⟩:Qi)).toArray) rfl (fun _=>by kernel_rfl)) (Zm (Zv (OV.build (vs:=[(0,.agg (Qi.c (⟨x5,x7⟩:Qi)).toArray),(1,.int .i64 p_e)]) (v:=.agg (Qs.c (⟨(⟨x5,x7⟩:Qi),p_e⟩:Qs)).toArray) rfl (fun _=>by kernel_rfl)) (Zv (OV.makeInterface (u:=.agg (Qs.c (⟨(⟨x5,x7⟩:Qi),p_e⟩:Qs)).toArray) rfl (by kernel_rfl)) ?_))))
 exact GL.panic (t:=89) (u:=(.agg (Qs.c (⟨(⟨x5,x7⟩:Qi),p_e⟩:Qs)).toArray:Value)) h (fun _ _ _ _ h=>h) trivial rfl
def QeL (C:Ctx) (p_p:Option (Nat×Nat)) (p_name:Str) (K:Int→Heap→Prop) (H:Heap):Prop:=
 nw ([sv p_name]) (fun b1 H2=>
 nck p_p fun p3=>
 ldL H2 (p3.1,p3.2+0) fun x5=>
 Qa4 C x5 (.func (.func 147) (List.toArray []) (List.toArray [pv (some (b1,0))]):Value) (fun r7 H8=>
 K r7 H8) H2) H
theorem QiI (C p_p p_name K H) (h:QeL C p_p p_name K H):Qaw C p_p p_name K H:=by
 refine Ye Tryz.func57 rfl Tryz.ntmps57 [(0,pv p_p),(1,sv p_name)] (Zo (GL.box (v:=sv p_name) (cs:=[sv p_name]) h trivial rfl rfl rfl ?_))
 intro b1 H2 h
 refine Za (GL.nil (Zo (Zm ?_)))
 obtain ⟨p3,hp4,h⟩:=h
 refine Zv (OV.nilCheck (q:=p_p) rfl hp4) (Zf (Yl h fun x5 h=>?_))
 refine Zv (OV.makeFunc (vs:=[]) (us:=[pv (some (b1,0))]) rfl rfl) (Zc h QcM ?_)
 rintro _ H8 ⟨r7,rfl,h⟩
 refine Za (GL.nil ?_)
 exact Y1 I3 ⟨r7,rfl,h⟩
def QF (C:Ctx) (p_s:Sl) (p_f:Value) (K:Bool→Heap→Prop) (H:Heap):Prop:=
 Qa3 C p_s p_f (fun r1 H2=>
 K (decide ((r1:Int) ≥ 0)) H2) H
theorem QW (C p_s p_f K H) (h:QF C p_s p_f K H):Qu C p_s p_f K H:=by
 refine Ye Tryz.func58 rfl Tryz.ntmps58 [(0,slv p_s),(1,p_f)] (Zo (Za (GL.nil (Zo (Zm (Zm (Zc h QcL ?_)))))))
 rintro _ H2 ⟨r1,rfl,h⟩
 refine Zi (.bool (decide ((r1:Int) ≥ 0))) (Za (GL.nil ?_))
 exact Y1 I3 ⟨(decide ((r1:Int) ≥ 0)),rfl,h⟩
def Qdb (C:Ctx) (p_y:Qp) (v0:Nat×Nat) (K:Bool→Heap→Prop) (H:Heap):Prop:=
 nw (Qp.c p_y) (fun b1 H2=>
 ldS H2 ((b1,0).1,(b1,0).2+2) fun x3=>
 ldS H2 (v0.1,v0.2+2) fun x5=>
 K (x3 == x5) H2) H
theorem QfP (C p_y v0 K H) (h:Qdb C p_y v0 K H):Qgh C p_y v0 K H:=by
 refine Ye Tryz.func59 rfl Tryz.ntmps59 [(0,.agg (Qp.c p_y).toArray),(1,pv (some v0))] (Zo (GL.box (v:=.agg (Qp.c p_y).toArray) (cs:=Qp.c p_y) h trivial rfl rfl rfl ?_))
 intro b1 H2 h
 refine Za (GL.nil (Zo (Zf (Yl h fun x3 h=>?_))))
 refine Zf (Yl h fun x5 h=>?_)
 refine Zv (OV.sbin (a:=x3) (b:=x5) (v:=.bool (x3 == x5)) rfl rfl rfl) (Za (GL.nil ?_))
 exact Y1 I3 ⟨(x3 == x5),rfl,h⟩
def QdM (C:Ctx) (p_p:Option (Nat×Nat)) (p_from:Int) (p_to:Int) (p_seen:Option Nat) (K:Bool→Heap→Prop) (H:Heap):Prop:=
 nw ([pv p_p]) (fun b1 H2=>
 nw ([.int .i64 p_to]) (fun b3 H4=>
 nw ([mv p_seen]) (fun b5 H6=>
 ldI H6 .i64 (b3,0) fun x7=>
 ift ((p_from:Int) == x7)
 (K true H6)
 (ldM H6 (b5,0) fun x10=>
 upS kI (fun x:Bool=>(.bool x:Value)) x10 p_from true (fun H12=>
 ldP H12 (b1,0) fun x13=>
 nck x13 fun p15=>
 ldL H12 (p15.1,p15.2+0) fun x17=>
 ixa x17 p_from fun p19=>
 ldL H12 ((p19.1,p19.2+(p_from:Int).toNat*6).1,(p19.1,p19.2+(p_from:Int).toNat*6).2+1) fun x24=>
 Qu C x24 (.func (.func 149) (List.toArray []) (List.toArray [pv (some (b1,0)),pv (some (b5,0)),pv (some (b3,0))]):Value) (fun r26 H27=>
 K r26 H27) H12) H6)) H4) H2) H
theorem QgI (C p_p p_from p_to p_seen K H) (h:QdM C p_p p_from p_to p_seen K H):Qax C p_p p_from p_to p_seen K H:=by
 refine Ye Tryz.func60 rfl Tryz.ntmps60 [(0,pv p_p),(1,.int .i64 p_from),(2,.int .i64 p_to),(3,mv p_seen)] (Zo (GL.box (v:=pv p_p) (cs:=[pv p_p]) h trivial rfl rfl rfl ?_))
 intro b1 H2 h
 refine GL.box (v:=.int .i64 p_to) (cs:=[.int .i64 p_to]) h trivial rfl rfl rfl ?_
 intro b3 H4 h
 refine GL.box (v:=mv p_seen) (cs:=[mv p_seen]) h trivial rfl rfl rfl ?_
 intro b5 H6 h
 refine Za (GL.nil (GC.seq (Zo (Zm (Yl h fun x7 h=>?_)))))
 refine Zi (.bool ((p_from:Int) == x7)) (GL.nil (Yd h (fun u9 h=>?_) fun u9 h=>?_))
 refine Zo (Za (GL.nil ?_))
 exact Y1 I3 ⟨true,rfl,h⟩
 refine GC.skip (Zo (Yl h fun x10 h=>?_))
 refine Zm (GL.mapUpdateS (ke:=kI) (enc:=(fun x:Bool=>(.bool x:Value))) (q:=x10) (k:=p_from) (x:=true) h trivial rfl rfl rfl rfl (kInt (by kernel_rfl)) ?_)
 intro H12 h
 refine GL.nil (Zo (Yl h fun x13 h=>?_))
 obtain ⟨p15,hp16,h⟩:=h
 refine Zv (OV.nilCheck (q:=x13) rfl hp16) (Zf (Yl h fun x17 h=>?_))
 refine Zm (Yx h fun p19 h=>?_)
 refine Zf (Yl h fun x24 h=>?_)
 refine Zv (OV.makeFunc (vs:=[]) (us:=[pv (some (b1,0)),pv (some (b5,0)),pv (some (b3,0))]) rfl rfl) (Zc h QE ?_)
 rintro _ H27 ⟨r26,rfl,h⟩
 refine Za (GL.nil ?_)
 exact Y1 I3 ⟨r26,rfl,h⟩
def QeN (C:Ctx) (p_p:Option (Nat×Nat)) (p_m:Qa) (p_own:Str) (p_kind:Int) (p_pub:Bool) (K:Bool→Heap→Prop) (H:Heap):Prop:=
 nw (Qa.c p_m) (fun b1 H2=>
 ldS H2 ((b1,0).1,(b1,0).2+0) fun x3=>
 nw (Qv.c Qv.zero) (fun b5 H6=>
 stT (b5,0) (Qv.c (⟨x3,p_own,p_kind⟩:Qv)) (fun H7=>
 nck p_p fun p8=>
 ldM H7 (p8.1,p8.2+1) fun x10=>
 ldT H7 Qv.c (b5,0) fun x12=>
 lkM kp3 (fun x:Bool=>(.bool x:Value)) false x10 (x12.mod_,x12.own_,x12.kind_) (fun x14 is15=>
 jn (α:=Unit) (fun x18 H19=>
 K (!is15) H19)
 (fun J17=>ift (!is15)
 (dr H7 fun Hs22=>
 nck p_p fun p24=>
 ldM Hs22 (p24.1,p24.2+1) fun x26=>
 ldT Hs22 Qv.c (b5,0) fun x28=>
 upS kp3 (fun x:Bool=>(.bool x:Value)) x26 (x28.mod_,x28.own_,x28.kind_) p_pub (fun H31=>
 Heap.le Hs22 H31∧
 J17 () H31) H7)
 (J17 () H7))) H7) H6) H2) H
theorem QiK (C p_p p_m p_own p_kind p_pub K H) (h:QeN C p_p p_m p_own p_kind p_pub K H):Qay C p_p p_m p_own p_kind p_pub K H:=by
 refine Ye Tryz.func61 rfl Tryz.ntmps61 [(0,pv p_p),(1,.agg (Qa.c p_m).toArray),(2,sv p_own),(3,.int .i64 p_kind),(4,.bool p_pub)] (Zo (GL.box (v:=.agg (Qa.c p_m).toArray) (cs:=Qa.c p_m) h trivial rfl rfl rfl ?_))
 intro b1 H2 h
 refine Za (GL.nil (Zo (Zf (Yl h fun x3 h=>?_))))
 refine Zm (Zm (Zv (OV.build (vs:=[(0,sv x3),(1,sv p_own),(2,.int .i64 p_kind)]) (v:=.agg (Qv.c (⟨x3,p_own,p_kind⟩:Qv)).toArray) rfl (fun _=>by kernel_rfl)) (GL.alloc (cs:=Qv.c Qv.zero) h trivial rfl rfl rfl ?_)))
 intro b5 H6 h
 refine GL.storeT (p:=(b5,0)) (vs:=Qv.c (⟨x3,p_own,p_kind⟩:Qv)) h trivial rfl rfl rfl rfl ?_
 intro H7 h
 refine GL.nil (GC.seq (GC.draw (by kernel_rfl) (by kernel_rfl) (GQ.val trivial rfl (OV.move (v:=pv p_p) rfl) ?_)))
 obtain ⟨p8,hp9,h⟩:=h
 refine GQ.val trivial rfl (OV.nilCheck (q:=p_p) rfl hp9) (GQ.val trivial rfl (OV.fieldAddr (p:=p8) rfl rfl) ?_)
 obtain ⟨x10,v11,h⟩:=h
 refine GQ.val trivial rfl (OV.load (p:=(p8.1,p8.2+1)) rfl rfl v11) ?_
 obtain ⟨x12,v13,h⟩:=h
 refine GQ.val trivial rfl (OV.loadT (p:=(b5,0)) (cs:=Qv.c x12) rfl rfl rfl v13) ?_
 obtain ⟨x14,is15,v16,h⟩:=h
 refine GQ.val trivial rfl (OV.lookup2 (v:=.tuple #[.bool x14,.bool is15]) (ke:=kp3) (enc:=(fun x:Bool=>(.bool x:Value))) (z:=false) (q:=x10) (k:=(x12.mod_,x12.own_,x12.kind_)) (x:=x14) (b:=is15) rfl v16 rfl rfl rfl kOk206 rfl) (GQ.val trivial rfl (OV.move (v:=.tuple #[.bool x14,.bool is15]) rfl) (GQ.val trivial rfl (OV.extract (v:=.bool x14) rfl rfl) (GQ.val trivial rfl (OV.extract (v:=.bool is15) rfl rfl) (GQ.val trivial rfl (OV.assign (v:=.bool x14) rfl) (GQ.val trivial rfl (OV.assign (v:=.bool is15) rfl) (GQ.nil (GL.nil ?_)))))))
 obtain ⟨J17,h,hR20⟩:=h
 refine GC.join (α:=Unit) J17 (fun _=>[(13,.bool is15)]) ?_ ?_
 refine Zo (Zm (Zv (OV.not rfl) (GL.nil (Yd h (fun u21 h=>?_) fun u21 h=>?_))))
 obtain ⟨Hs22,hle23,h⟩:=h
 refine GC.any (Hs:=Hs22) (by kernel_rfl) hle23 (Zp 0 rfl Ym ?_)
 obtain ⟨p24,hp25,h⟩:=h
 refine Zp 1 rfl (OV.nilCheck (q:=p_p) rfl hp25) (Zp 2 rfl Yf ?_)
 obtain ⟨x26,v27,h⟩:=h
 refine Zp 3 rfl (Yo v27) ?_
 obtain ⟨x28,v29,h⟩:=h
 refine Zp 4 rfl (OV.loadT rfl rfl rfl v29) (Zp 5 rfl Ym (GA.eff 6 rfl (by kernel_rfl) (GL.mapUpdateS (ke:=kp3) (enc:=(fun x:Bool=>(.bool x:Value))) (q:=x26) (k:=(x28.mod_,x28.own_,x28.kind_)) (x:=p_pub) h trivial rfl rfl rfl rfl kOk206 ?_)))
 intro H31 h
 obtain ⟨hle30,h⟩:=h
 refine GA.back hle30 (GA.done (by kernel_rfl) ?_)
 exact Yj I3 () h
 exact Yk I3 () h
 intro x18 H19 h
 replace h:=hR20 x18 H19 h
 refine Zo (Zm (Zv (OV.not rfl) (Za (GL.nil ?_))))
 exact Y1 I3 ⟨(!is15),rfl,h⟩
def QbL (C:Ctx) (p_s:Sl) (p_v:Str) (K:Bool→Heap→Prop) (H:Heap):Prop:=
 QcO C p_s p_v (fun r1 H2=>
 K (decide ((r1:Int) ≥ 0)) H2) H
theorem QeH (C p_s p_v K H) (h:QbL C p_s p_v K H):Qw C p_s p_v K H:=by
 refine Ye Tryz.func62 rfl Tryz.ntmps62 [(0,slv p_s),(1,sv p_v)] (Zo (Za (GL.nil (Zo (Zm (Zm (Zc h Qft ?_)))))))
 rintro _ H2 ⟨r1,rfl,h⟩
 refine Zi (.bool (decide ((r1:Int) ≥ 0))) (Za (GL.nil ?_))
 exact Y1 I3 ⟨(decide ((r1:Int) ≥ 0)),rfl,h⟩
def QT (C:Ctx) (p_s:Sl) (p_f:Value) (K:Bool→Heap→Prop) (H:Heap):Prop:=
 QaR C p_s p_f (fun r1 H2=>
 K (decide ((r1:Int) ≥ 0)) H2) H
theorem Qaq (C p_s p_f K H) (h:QT C p_s p_f K H):QD C p_s p_f K H:=by
 refine Ye Tryz.func63 rfl Tryz.ntmps63 [(0,slv p_s),(1,p_f)] (Zo (Za (GL.nil (Zo (Zm (Zm (Zc h Qci ?_)))))))
 rintro _ H2 ⟨r1,rfl,h⟩
 refine Zi (.bool (decide ((r1:Int) ≥ 0))) (Za (GL.nil ?_))
 exact Y1 I3 ⟨(decide ((r1:Int) ≥ 0)),rfl,h⟩
def QdL (C:Ctx) (p_c:Qg) (v0:Nat×Nat) (K:Bool→Heap→Prop) (H:Heap):Prop:=
 nw (Qg.c p_c) (fun b1 H2=>
 ldL H2 ((b1,0).1,(b1,0).2+1) fun x3=>
 ldL H2 (v0.1,v0.2+4) fun x5=>
 QfN C x3 x5 (fun r7 H8=>
 K r7 H8) H2) H
theorem QgH (C p_c v0 K H) (h:QdL C p_c v0 K H):Qhr C p_c v0 K H:=by
 refine Ye Tryz.func64 rfl Tryz.ntmps64 [(0,.agg (Qg.c p_c).toArray),(1,pv (some v0))] (Zo (GL.box (v:=.agg (Qg.c p_c).toArray) (cs:=Qg.c p_c) h trivial rfl rfl rfl ?_))
 intro b1 H2 h
 refine Za (GL.nil (Zo (Zf (Yl h fun x3 h=>?_))))
 refine Zf (Yl h fun x5 h=>?_)
 refine Zc h Qkn ?_
 rintro _ H8 ⟨r7,rfl,h⟩
 refine Za (GL.nil ?_)
 exact Y1 I3 ⟨r7,rfl,h⟩
def Qkw (C:Ctx) (p_l:Sl) (p_params:Sl) (K:Bool→Heap→Prop) (H:Heap):Prop:=
 nw ([slv p_params]) (fun b1 H2=>
 QB C p_l (.func (.func 153) (List.toArray []) (List.toArray [pv (some (b1,0))]):Value) (fun r3 H4=>
 K r3 H4) H2) H
theorem QnJ (C p_l p_params K H) (h:Qkw C p_l p_params K H):QfN C p_l p_params K H:=by
 refine Ye Tryz.func65 rfl Tryz.ntmps65 [(0,slv p_l),(1,slv p_params)] (Zo (GL.box (v:=slv p_params) (cs:=[slv p_params]) h trivial rfl rfl rfl ?_))
 intro b1 H2 h
 refine Za (GL.nil (Zo (Zm (Zv (OV.makeFunc (vs:=[]) (us:=[pv (some (b1,0))]) rfl rfl) (Zc h Qao ?_)))))
 rintro _ H4 ⟨r3,rfl,h⟩
 refine Za (GL.nil ?_)
 exact Y1 I3 ⟨r3,rfl,h⟩
def Qcs (C:Ctx) (p_s:Sl) (K:Sl→Heap→Prop) (H:Heap):Prop:=
 ift (Sl.isNil p_s)
 (K Sl.nil H)
 (nw ([]) (fun b2 H3=>
 apS ([sv []]) 16 (Sl.of (some (b2,0)) 0 0) p_s (fun r4 H5=>
 K r4 H5) H3) H)
theorem Qfm (C p_s K H) (h:Qcs C p_s K H):QS C p_s K H:=by
 refine Ye Tryz.func66 rfl Tryz.ntmps66 [(0,slv p_s)] (Zo (Za (GL.nil (GC.seq (Zo (Zm (Zv (OV.eqlSl (s:=p_s) rfl rfl rfl) (GL.nil (Yd h (fun u1 h=>?_) fun u1 h=>?_)))))))))
 refine Zo (Za (GL.nil ?_))
 exact Y1 I3 ⟨Sl.nil,rfl,h⟩
 refine GC.skip (Zo (GL.buildSlice (cs:=[]) h trivial rfl (vs:=[]) rfl ⟨9,fun _=>by kernel_rfl⟩ ?_))
 intro b2 H3 h
 refine Zm (GL.appendS (s:=(Sl.of (some (b2,0)) 0 0)) (s2:=p_s) (zc:=[sv []]) (bytes:=16) h trivial rfl rfl rfl ⟨⟨_,_,_,rfl,rfl,rfl,rfl,rfl,rfl⟩⟩ rfl ?_)
 intro r4 H5 h
 refine Za (GL.nil ?_)
 exact Y1 I3 ⟨r4,rfl,h⟩
def Qd0 (C:Ctx) (E:Value→Heap→Prop) (p_p:Option (Nat×Nat)) (p_m:Qa) (p_l:Sl) (p_pos:Qo) (K:Sl→Heap→Prop) (H:Heap):Prop:=
 nw (Qa.c p_m) (fun b1 H2=>
 nw (Qo.c p_pos) (fun b3 H4=>
 lp (α:=Sl×Int) (Sl.nil,0) H4 (fun x5 J6 H7=>
 ift (decide ((x5.2:Int) < (Sl.len p_l:Int)))
 (ixa p_l x5.2 fun p9=>
 ldT H7 Qf.c (p9.1,p9.2+(x5.2:Int).toNat*3) fun x14=>
 nw (Qf.c Qf.zero) (fun b16 H17=>
 stT (b16,0) (Qf.c x14) (fun H18=>
 dr H18 fun Hs19=>
 ldS Hs19 ((b16,0).1,(b16,0).2+0) fun x21=>
 ldT Hs19 Qa.c (b1,0) fun x23=>
 ldT Hs19 Qd.c ((b16,0).1,(b16,0).2+1) fun x25=>
 ldT Hs19 Qo.c (b3,0) fun x27=>
 QbQ C E p_p x23 x25 x27 (fun r30 H31=>
 Heap.le Hs19 H31∧
 nw ((Qf.c (⟨x21,r30⟩:Qf))++[]) (fun b33 H34=>
 Heap.le Hs19 H34∧
 apS (Qf.c Qf.zero) 56 x5.1 (Sl.of (some (b33,0)) 1 1) (fun r36 H37=>
 Heap.le Hs19 H37∧
 J6 (r36,(w .i64 (x5.2+1))) H37) H34) H31) H18) H17) H7)
 (K x5.1 H7))) H2) H
theorem Qha (C E p_p p_m p_l p_pos K H) (h:Qd0 C E p_p p_m p_l p_pos K H):QX C E p_p p_m p_l p_pos K H:=by
 refine SpecP.enter Tryz.func67 rfl Tryz.ntmps67 rfl (GC.sub [(0,pv p_p),(1,.agg (Qa.c p_m).toArray),(2,slv p_l),(3,.agg (Qo.c p_pos).toArray)] ⟨rfl,rfl,rfl,rfl,trivial⟩ (Zo (GL.box (v:=.agg (Qa.c p_m).toArray) (cs:=Qa.c p_m) h trivial rfl rfl rfl ?_)))
 intro b1 H2 h
 refine GL.box (v:=.agg (Qo.c p_pos).toArray) (cs:=Qo.c p_pos) h trivial rfl rfl rfl ?_
 intro b3 H4 h
 refine Za (GL.nil (Zo (Za (GL.nil (GC.seq (Zo (Zm (Zq (Zm (GL.nil (GC.block (Yp h (fun x5=>[(9,slv x5.1),(14,.int .i64 x5.2),(0,pv p_p),(5,pv (some (b1,0))),(7,pv (some (b3,0))),(12,slv p_l),(13,.int .i64 (Sl.len p_l:Int))]) ?_))))))))))))
 intro x5 H7 J6 h
 refine Zo (Zi (.bool (decide ((x5.2:Int) < (Sl.len p_l:Int)))) (GL.nil (GC.seq (Yd h (fun u8 h=>?_) fun u8 h=>?_))))
 refine GC.skip (GC.seq (GC.block (Zo (Yx h fun p9 h=>?_))))
 obtain ⟨x14,v15,h⟩:=h
 refine Zv (OV.loadT rfl rfl rfl v15) (GL.alloc (cs:=Qf.c Qf.zero) h trivial rfl rfl rfl ?_)
 intro b16 H17 h
 refine GL.storeT (p:=(b16,0)) (vs:=Qf.c x14) h trivial rfl rfl rfl rfl ?_
 intro H18 h
 refine GL.nil ?_
 obtain ⟨Hs19,hle20,h⟩:=h
 refine GC.any (Hs:=Hs19) (by kernel_rfl) hle20 (GA.takeP 0 rfl trivial (OV.move (v:=slv x5.1) rfl) (GA.takeP 1 rfl trivial (OV.fieldAddr (p:=(b16,0)) rfl rfl) ?_))
 obtain ⟨x21,v22,h⟩:=h
 refine GA.takeP 2 rfl trivial (OV.load (p:=((b16,0).1,(b16,0).2+0)) rfl rfl v22) (GA.takeP 3 rfl trivial (OV.move (v:=pv p_p) rfl) ?_)
 obtain ⟨x23,v24,h⟩:=h
 refine GA.takeP 4 rfl trivial (OV.loadT (p:=(b1,0)) (cs:=Qa.c x23) rfl rfl rfl v24) (GA.takeP 5 rfl trivial (OV.fieldAddr (p:=(b16,0)) rfl rfl) ?_)
 obtain ⟨x25,v26,h⟩:=h
 refine GA.takeP 6 rfl trivial (OV.loadT (p:=((b16,0).1,(b16,0).2+1)) (cs:=Qd.c x25) rfl rfl rfl v26) ?_
 obtain ⟨x27,v28,h⟩:=h
 refine GA.takeP 7 rfl trivial (OV.loadT (p:=(b3,0)) (cs:=Qo.c x27) rfl rfl rfl v28) (GA.eff 8 rfl (by kernel_rfl) (GL.callP h (fun _ _ _ _ h=>h) trivial rfl Qe8 (vs:=[pv p_p,.agg (Qa.c x23).toArray,.agg (Qd.c x25).toArray,.agg (Qo.c x27).toArray]) rfl ?_))
 rintro _ H31 ⟨r30,rfl,h⟩
 obtain ⟨hle29,h⟩:=h
 refine GA.back hle29 (GA.takeP 9 rfl trivial (OV.build (vs:=[(0,sv x21),(1,.agg (Qd.c r30).toArray)]) (v:=.agg (Qf.c (⟨x21,r30⟩:Qf)).toArray) rfl (fun _=>by kernel_rfl)) (GA.eff 10 rfl (by kernel_rfl) (GL.buildSlice (cs:=(Qf.c (⟨x21,r30⟩:Qf))++[]) h trivial rfl (vs:=[(0,.agg (Qf.c (⟨x21,r30⟩:Qf)).toArray)]) rfl ⟨31,fun _=>by kernel_rfl⟩ ?_)))
 intro b33 H34 h
 obtain ⟨hle32,h⟩:=h
 refine GA.back hle32 (GA.eff 11 rfl (by kernel_rfl) (GL.appendS (s:=x5.1) (s2:=(Sl.of (some (b33,0)) 1 1)) (zc:=Qf.c Qf.zero) (bytes:=56) h trivial rfl rfl rfl ⟨⟨_,_,_,rfl,rfl,rfl,rfl,rfl,rfl⟩⟩ rfl ?_))
 intro r36 H37 h
 obtain ⟨hle35,h⟩:=h
 refine GA.back hle35 (GA.takeP 12 rfl trivial (OV.assign (v:=slv r36) rfl) (GA.done (by kernel_rfl) (GL.nil_to I3 (GC.region (Zi (.int .i64 (w .i64 (x5.2+1))) (Zm ?_))))))
 exact Yj I3 (r36,(w .i64 (x5.2+1))) h
 refine GC.exit_to I3 (Zo (Zm (Za (GL.nil ?_))))
 exact GC.ret (fun _ _ hf hs=>postP (E:=E) hf (QjB rfl rfl hf hs ⟨x5.1,rfl,h⟩))
def QeM (C:Ctx) (E:Value→Heap→Prop) (p_p:Option (Nat×Nat)) (p_m:Qa) (p_s:Str) (p_kind:Int) (p_pos:Qo) (K:Str→Heap→Prop) (H:Heap):Prop:=
 nw (Qa.c p_m) (fun b1 H2=>
 nw (Qo.c p_pos) (fun b3 H4=>
 Qen C p_s [46] (fun r5 r6 r7 H8=>
 nw ([sv []]) (fun b9 H10=>
 st (b9,0) (sv r5) (fun H11=>
 jn (α:=Str) (fun x13 H14=>
 nck p_p fun p20=>
 ldM H14 (p20.1,p20.2+1) fun x22=>
 ldS H14 (b9,0) fun x24=>
 lkM kp3 (fun x:Bool=>(.bool x:Value)) false x22 ((⟨x24,x13,p_kind⟩:Qv).mod_,(⟨x24,x13,p_kind⟩:Qv).own_,(⟨x24,x13,p_kind⟩:Qv).kind_) (fun x26 is27=>
 ldS H14 (b9,0) fun x29=>
 ldS H14 ((b1,0).1,(b1,0).2+0) fun x31=>
 jn (α:=Bool) (fun b33 H46=>
 jn (α:=Unit) (fun x48 H49=>
 ldS H49 (b9,0) fun x58=>
 catOk x58 ([46]:Str)∧
 catOk (x58++([46]:Str)) x13∧
 K ((x58++([46]:Str))++x13) H49)
 (fun J47=>ift ((!is27) || (!b33))
 (ldT H46 Qa.c (b1,0) fun x53=>
 ldT H46 Qo.c (b3,0) fun x55=>
 QG C E x53 x55 63 (fun H57=>
 J47 () H57) H46)
 (J47 () H46)))
 (fun J34=>ift (x29 == x31)
 (J34 true H14)
 (jn (α:=Bool) (fun b37 H45=>
 J34 b37 H45)
 (fun J38=>ift x26
 (ldL H14 ((b1,0).1,(b1,0).2+1) fun x41=>
 Qu C x41 (.func (.func 157) (List.toArray []) (List.toArray [pv (some (b9,0))]):Value) (fun r43 H44=>
 J38 r43 H44) H14)
 (J38 false H14))))) H14)
 (fun J12=>ift (!r7)
 (ldS H11 ((b1,0).1,(b1,0).2+0) fun x17=>
 st (b9,0) (sv x17) (fun H19=>
 J12 p_s H19) H11)
 (J12 r6 H11))) H10) H8) H4) H2) H
theorem QiJ (C E p_p p_m p_s p_kind p_pos K H) (h:QeM C E p_p p_m p_s p_kind p_pos K H):Qah C E p_p p_m p_s p_kind p_pos K H:=by
 refine SpecP.enter Tryz.func68 rfl Tryz.ntmps68 rfl (GC.sub [(0,pv p_p),(1,.agg (Qa.c p_m).toArray),(2,sv p_s),(3,.int .i64 p_kind),(4,.agg (Qo.c p_pos).toArray)] ⟨rfl,rfl,rfl,rfl,rfl,trivial⟩ (Zo (GL.box (v:=.agg (Qa.c p_m).toArray) (cs:=Qa.c p_m) h trivial rfl rfl rfl ?_)))
 intro b1 H2 h
 refine GL.box (v:=.agg (Qo.c p_pos).toArray) (cs:=Qo.c p_pos) h trivial rfl rfl rfl ?_
 intro b3 H4 h
 refine Za (GL.nil (Zo (Zm (Zc h QgY ?_))))
 rintro _ H8 ⟨r5,r6,r7,rfl,h⟩
 refine Zm (Yv (sv r5) rfl rfl (Yv (sv r6) rfl rfl (Yv (.bool r7) rfl rfl (GL.alloc (cs:=[sv []]) h trivial rfl rfl rfl ?_))))
 intro b9 H10 h
 refine GL.store (p:=(b9,0)) (v:=sv r5) h trivial rfl rfl rfl rfl ?_
 intro H11 h
 refine Za (Za (GL.nil ?_))
 obtain ⟨J12,h,hR15⟩:=h
 refine GC.join (α:=Str) J12 (fun x13=>[(12,sv x13),(0,pv p_p),(3,.int .i64 p_kind),(6,pv (some (b1,0))),(9,pv (some (b3,0))),(11,pv (some (b9,0)))]) ?_ ?_
 refine Zo (Zm (Zv (OV.not rfl) (GL.nil (Yd h (fun u16 h=>?_) fun u16 h=>?_))))
 refine GC.region (Zf (Yl h fun x17 h=>?_))
 refine Zm (GL.store (p:=(b9,0)) (v:=sv x17) h trivial rfl rfl rfl rfl ?_)
 intro H19 h
 refine Za ?_
 exact Yj I3 p_s h
 exact Yk I3 r6 h
 intro x13 H14 h
 replace h:=hR15 x13 H14 h
 refine GC.seq (GC.draw (by kernel_rfl) (by kernel_rfl) (GQ.val trivial rfl (OV.move (v:=pv p_p) rfl) ?_))
 obtain ⟨p20,hp21,h⟩:=h
 refine GQ.val trivial rfl (OV.nilCheck (q:=p_p) rfl hp21) (GQ.val trivial rfl (OV.fieldAddr (p:=p20) rfl rfl) ?_)
 obtain ⟨x22,v23,h⟩:=h
 refine GQ.val trivial rfl (OV.load (p:=(p20.1,p20.2+1)) rfl rfl v23) ?_
 obtain ⟨x24,v25,h⟩:=h
 refine GQ.val trivial rfl (OV.load (p:=(b9,0)) rfl rfl v25) (GQ.val trivial rfl (OV.move (v:=sv x13) rfl) (GQ.val trivial rfl (OV.move (v:=.int .i64 p_kind) rfl) (GQ.val trivial rfl (OV.build (vs:=[(0,sv x24),(1,sv x13),(2,.int .i64 p_kind)]) (v:=.agg (Qv.c (⟨x24,x13,p_kind⟩:Qv)).toArray) rfl (fun _=>by kernel_rfl)) ?_)))
 obtain ⟨x26,is27,v28,h⟩:=h
 refine GQ.val trivial rfl (OV.lookup2 (v:=.tuple #[.bool x26,.bool is27]) (ke:=kp3) (enc:=(fun x:Bool=>(.bool x:Value))) (z:=false) (q:=x22) (k:=((⟨x24,x13,p_kind⟩:Qv).mod_,(⟨x24,x13,p_kind⟩:Qv).own_,(⟨x24,x13,p_kind⟩:Qv).kind_)) (x:=x26) (b:=is27) rfl v28 rfl rfl rfl kOk206 rfl) (GQ.val trivial rfl (OV.move (v:=.tuple #[.bool x26,.bool is27]) rfl) (GQ.val trivial rfl (OV.extract (v:=.bool x26) rfl rfl) (GQ.val trivial rfl (OV.extract (v:=.bool is27) rfl rfl) (GQ.val trivial rfl (OV.assign (v:=.bool x26) rfl) (GQ.val trivial rfl (OV.assign (v:=.bool is27) rfl) (GQ.nil (GL.nil (Zo (Yl h fun x29 h=>?_)))))))))
 refine Zf (Yl h fun x31 h=>?_)
 refine Zv (OV.sbin (a:=x29) (b:=x31) (v:=.bool (x29 == x31)) rfl rfl rfl) (Zm ?_)
 obtain ⟨J34,h,hR35⟩:=h
 refine GL.cut (α:=Bool) 8 J34 (fun b33=>[(52,.bool b33),(6,pv (some (b1,0))),(9,pv (some (b3,0))),(11,pv (some (b9,0))),(12,sv x13),(15,.bool is27)]) ?_ ?_
 rcases h.em with ⟨u36,h⟩ | ⟨u36,h⟩
 refine Zk u36 (Zk u36 (GL.skip ⟨_,rfl,.inr rfl⟩ rfl (GL.skip ⟨_,rfl,.inr rfl⟩ rfl (GL.skip ⟨_,rfl,.inr rfl⟩ rfl (GL.skip ⟨_,rfl,.inr rfl⟩ rfl (Zk u36 (Zt u36 ?_)))))))
 exact Yj I3 true h
 refine Zu u36 Ym (Zu u36 Ym ?_)
 obtain ⟨J38,h,hR39⟩:=h
 refine GL.cut (α:=Bool) 5 J38 (fun b37=>[(51,.bool b37),(6,pv (some (b1,0))),(9,pv (some (b3,0))),(11,pv (some (b9,0))),(12,sv x13),(15,.bool is27),(44,.bool (x29 == x31))]) ?_ ?_
 rcases h.em with ⟨u40,h⟩ | ⟨u40,h⟩
 refine Zu u40 Yf ?_
 obtain ⟨x41,v42,h⟩:=h
 refine Zu u40 (Yo v42) (Zu u40 (OV.makeFunc (vs:=[]) (us:=[pv (some (b9,0))]) rfl rfl) (GL.call h (Yt u40) rfl QE (vs:=[slv x41,.func (.func 157) (List.toArray []) (List.toArray [pv (some (b9,0))])]) rfl ?_))
 rintro _ H44 ⟨r43,rfl,h⟩
 refine Zu u36 (OV.pickT rfl u40 rfl) ?_
 exact Yj I3 r43 h
 refine Zk u40 (Zk u40 (Zk u40 (Zk u40 (Zu u36 (OV.pickF rfl u40 rfl) ?_))))
 exact Yj I3 false h
 intro b37 H45 h
 replace h:=hR39 b37 H45 h
 refine Zn u36 ?_
 exact Yj I3 b37 h
 intro b33 H46 h
 replace h:=hR35 b33 H46 h
 refine Za (GL.nil ?_)
 obtain ⟨J47,h,hR50⟩:=h
 refine GC.join (α:=Unit) J47 (fun _=>[(11,pv (some (b9,0))),(12,sv x13)]) ?_ ?_
 refine Zo (Zm (Zv (OV.not rfl) (Zm (GL.cut0 3 [(58,.bool ((!is27) || (!b33))),(6,pv (some (b1,0))),(9,pv (some (b3,0))),(11,pv (some (b9,0))),(12,sv x13)] ?_ ?_))))
 rcases Zb (!is27) with u51 | u51
 refine Zk u51 (Zk u51 (Zt u51 ?_))
 exact GL.jump0 I3 () rfl ⟨(by rw [u51]; rfl),rfl,rfl,rfl,rfl,trivial⟩
 refine Zu u51 Ym (Zu u51 (OV.not rfl) (Zn u51 ?_))
 exact GL.jump0 I3 () rfl ⟨(by rw [u51]; rfl),rfl,rfl,rfl,rfl,trivial⟩
 refine GL.nil (Yd h (fun u52 h=>?_) fun u52 h=>?_)
 refine GC.region ?_
 obtain ⟨x53,v54,h⟩:=h
 refine Zv (OV.loadT rfl rfl rfl v54) ?_
 obtain ⟨x55,v56,h⟩:=h
 refine Zv (OV.loadT rfl rfl rfl v56) (GL.callP h (fun _ _ _ _ h=>h) trivial rfl Q6 (vs:=[.agg (Qa.c x53).toArray,.agg (Qo.c x55).toArray,.int .i64 63]) rfl ?_)
 rintro _ H57 ⟨rfl,h⟩
 exact Yj I3 () h
 exact Yk I3 () h
 intro x48 H49 h
 replace h:=hR50 x48 H49 h
 refine Zo (Yl h fun x58 h=>?_)
 obtain ⟨hl60,h⟩:=h
 refine Zv (OV.cat (a:=x58) (b:=([46]:Str)) rfl rfl hl60) (Zm ?_)
 obtain ⟨hl61,h⟩:=h
 refine Zv (OV.cat (a:=(x58++([46]:Str))) (b:=x13) rfl rfl hl61) (Za (GL.nil ?_))
 exact GC.ret (fun _ _ hf hs=>postP (E:=E) hf (QjB rfl rfl hf hs ⟨((x58++([46]:Str))++x13),rfl,h⟩))
def QdC (C:Ctx) (p_s:Str) (p_prefix:Str) (K:Bool→Heap→Prop) (H:Heap):Prop:=
 Qag C p_s p_prefix (fun r1 H2=>
 K r1 H2) H
theorem Qfu (C p_s p_prefix K H) (h:QdC C p_s p_prefix K H):Qca C p_s p_prefix K H:=by
 refine Ye Tryz.func69 rfl Tryz.ntmps69 [(0,sv p_s),(1,sv p_prefix)] (Zo (Za (GL.nil (Zo (Zm (Zm (Zc h QbC ?_)))))))
 rintro _ H2 ⟨r1,rfl,h⟩
 refine Za (GL.nil ?_)
 exact Y1 I3 ⟨r1,rfl,h⟩
def Qex (C:Ctx) (E:Value→Heap→Prop) (p_p:Option (Nat×Nat)) (p_m:Qa) (p_l:Sl) (K:Sl→Heap→Prop) (H:Heap):Prop:=
 nw (Qa.c p_m) (fun b1 H2=>
 lp (α:=Sl×Int) (Sl.nil,0) H2 (fun x3 J4 H5=>
 ift (decide ((x3.2:Int) < (Sl.len p_l:Int)))
 (ixa p_l x3.2 fun p7=>
 ldT H5 Qb.c (p7.1,p7.2+(x3.2:Int).toNat*9) fun x12=>
 nw (Qb.c Qb.zero) (fun b14 H15=>
 stT (b14,0) (Qb.c x12) (fun H16=>
 jn (α:=Unit) (fun x18 H19=>
 ldT H19 Qa.c (b1,0) fun x33=>
 ldL H19 ((b14,0).1,(b14,0).2+8) fun x35=>
 Qap C E p_p x33 x35 (fun r37 H38=>
 st ((b14,0).1,(b14,0).2+8) (slv r37) (fun H39=>
 ldT H39 Qb.c (b14,0) fun x40=>
 apd (Qb.c Qb.zero) 120 x3.1 ((Qb.c x40)++[]) 1 (fun r42 H43=>
 J4 (r42,(w .i64 (x3.2+1))) H43) H39) H38) H19)
 (fun J17=>ldI H16 .u8 ((b14,0).1,(b14,0).2+0) fun x21=>
 ift ((x21:Int) == 5)
 (ldT H16 Qa.c (b1,0) fun x24=>
 ldS H16 ((b14,0).1,(b14,0).2+3) fun x26=>
 ldT H16 Qo.c ((b14,0).1,(b14,0).2+1) fun x28=>
 Qah C E p_p x24 x26 1 x28 (fun r30 H31=>
 st ((b14,0).1,(b14,0).2+3) (sv r30) (fun H32=>
 J17 () H32) H31) H16)
 (J17 () H16))) H15) H5)
 (K x3.1 H5))) H
theorem Qh0 (C E p_p p_m p_l K H) (h:Qex C E p_p p_m p_l K H):Qap C E p_p p_m p_l K H:=by
 refine SpecP.enter Tryz.func70 rfl Tryz.ntmps70 rfl (GC.sub [(0,pv p_p),(1,.agg (Qa.c p_m).toArray),(2,slv p_l)] ⟨rfl,rfl,rfl,trivial⟩ (Zo (GL.box (v:=.agg (Qa.c p_m).toArray) (cs:=Qa.c p_m) h trivial rfl rfl rfl ?_)))
 intro b1 H2 h
 refine Za (GL.nil (Zo (Za (GL.nil (GC.seq (Zo (Zm (Zq (Zm (GL.nil (GC.block (Yp h (fun x3=>[(7,slv x3.1),(12,.int .i64 x3.2),(0,pv p_p),(4,pv (some (b1,0))),(10,slv p_l),(11,.int .i64 (Sl.len p_l:Int))]) ?_))))))))))))
 intro x3 H5 J4 h
 refine Zo (Zi (.bool (decide ((x3.2:Int) < (Sl.len p_l:Int)))) (GL.nil (GC.seq (Yd h (fun u6 h=>?_) fun u6 h=>?_))))
 refine GC.skip (GC.seq (GC.block (Zo (Yx h fun p7 h=>?_))))
 obtain ⟨x12,v13,h⟩:=h
 refine Zv (OV.loadT rfl rfl rfl v13) (GL.alloc (cs:=Qb.c Qb.zero) h trivial rfl rfl rfl ?_)
 intro b14 H15 h
 refine GL.storeT (p:=(b14,0)) (vs:=Qb.c x12) h trivial rfl rfl rfl rfl ?_
 intro H16 h
 refine GL.nil ?_
 obtain ⟨J17,h,hR20⟩:=h
 refine GC.join (α:=Unit) J17 (fun _=>[(0,pv p_p),(4,pv (some (b1,0))),(7,slv x3.1),(9,pv (some (b14,0))),(10,slv p_l),(11,.int .i64 (Sl.len p_l:Int)),(12,.int .i64 x3.2)]) ?_ ?_
 refine Zo (Zf (Yl h fun x21 h=>?_))
 refine Zi (.bool ((x21:Int) == 5)) (GL.nil (Yd h (fun u23 h=>?_) fun u23 h=>?_))
 refine GC.region (Zm ?_)
 obtain ⟨x24,v25,h⟩:=h
 refine Zv (OV.loadT rfl rfl rfl v25) (Zf (Yl h fun x26 h=>?_))
 refine Zf ?_
 obtain ⟨x28,v29,h⟩:=h
 refine Zv (OV.loadT rfl rfl rfl v29) (GL.callP h (fun _ _ _ _ h=>h) trivial rfl Qbv (vs:=[pv p_p,.agg (Qa.c x24).toArray,sv x26,.int .i64 1,.agg (Qo.c x28).toArray]) rfl ?_)
 rintro _ H31 ⟨r30,rfl,h⟩
 refine Zf (GL.store (p:=((b14,0).1,(b14,0).2+3)) (v:=sv r30) h trivial rfl rfl rfl rfl ?_)
 intro H32 h
 exact Yj I3 () h
 exact Yk I3 () h
 intro x18 H19 h
 replace h:=hR20 x18 H19 h
 refine Zo (Zm ?_)
 obtain ⟨x33,v34,h⟩:=h
 refine Zv (OV.loadT rfl rfl rfl v34) (Zf (Yl h fun x35 h=>?_))
 refine GL.callP h (fun _ _ _ _ h=>h) trivial rfl Qch (vs:=[pv p_p,.agg (Qa.c x33).toArray,slv x35]) rfl ?_
 rintro _ H38 ⟨r37,rfl,h⟩
 refine Zf (GL.store (p:=((b14,0).1,(b14,0).2+8)) (v:=slv r37) h trivial rfl rfl rfl rfl ?_)
 intro H39 h
 refine GL.nil (GC.region (Zm ?_))
 obtain ⟨x40,v41,h⟩:=h
 refine Zv (OV.loadT rfl rfl rfl v41) (GL.appendLit (s:=x3.1) (ys:=(Qb.c x40)++[]) (zc:=Qb.c Qb.zero) (bytes:=120) h trivial rfl (fun _=>trivial) rfl (fun _=>rfl) (fun _=>rfl) (vs:=[(0,.agg (Qb.c x40).toArray)]) rfl ⟨40,fun _=>by kernel_rfl⟩ ⟨⟨_,_,_,rfl,rfl,rfl,rfl,rfl,rfl⟩⟩ rfl rfl ?_)
 intro _ r42 H43 h
 refine Za (GL.nil_to I3 (GC.region (Zi (.int .i64 (w .i64 (x3.2+1))) (Zm ?_))))
 exact Yj I3 (r42,(w .i64 (x3.2+1))) h
 refine GC.exit_to I3 (Zo (Zm (Za (GL.nil ?_))))
 exact GC.ret (fun _ _ hf hs=>postP (E:=E) hf (QjB rfl rfl hf hs ⟨x3.1,rfl,h⟩))
def QeK (C:Ctx) (E:Value→Heap→Prop) (p_p:Option (Nat×Nat)) (p_m:Qa) (p_l:Sl) (K:Sl→Heap→Prop) (H:Heap):Prop:=
 nw (Qa.c p_m) (fun b1 H2=>
 lp (α:=Sl×Int) (Sl.nil,0) H2 (fun x3 J4 H5=>
 ift (decide ((x3.2:Int) < (Sl.len p_l:Int)))
 (ixa p_l x3.2 fun p7=>
 ldT H5 Qk.c (p7.1,p7.2+(x3.2:Int).toNat*5) fun x12=>
 nw (Qk.c Qk.zero) (fun b14 H15=>
 stT (b14,0) (Qk.c x12) (fun H16=>
 jn (α:=Unit) (fun x18 H19=>
 ldT H19 Qa.c (b1,0) fun x40=>
 ldL H19 ((b14,0).1,(b14,0).2+4) fun x42=>
 Qap C E p_p x40 x42 (fun r44 H45=>
 st ((b14,0).1,(b14,0).2+4) (slv r44) (fun H46=>
 ldT H46 Qk.c (b14,0) fun x47=>
 apd (Qk.c Qk.zero) 64 x3.1 ((Qk.c x47)++[]) 1 (fun r49 H50=>
 J4 (r49,(w .i64 (x3.2+1))) H50) H46) H45) H19)
 (fun J17=>ldI H16 .u8 ((b14,0).1,(b14,0).2+0) fun x21=>
 jn (α:=Bool) (fun b23 H29=>
 ift b23
 (ldT H29 Qa.c (b1,0) fun x31=>
 ldS H29 ((b14,0).1,(b14,0).2+3) fun x33=>
 ldT H29 Qo.c ((b14,0).1,(b14,0).2+1) fun x35=>
 Qah C E p_p x31 x33 2 x35 (fun r37 H38=>
 st ((b14,0).1,(b14,0).2+3) (sv r37) (fun H39=>
 J17 () H39) H38) H29)
 (J17 () H29))
 (fun J24=>ift ((x21:Int) == 1)
 (J24 true H16)
 (ldI H16 .u8 ((b14,0).1,(b14,0).2+0) fun x27=>
 J24 ((x27:Int) == 2) H16)))) H15) H5)
 (K x3.1 H5))) H
theorem QiH (C E p_p p_m p_l K H) (h:QeK C E p_p p_m p_l K H):Qav C E p_p p_m p_l K H:=by
 refine SpecP.enter Tryz.func71 rfl Tryz.ntmps71 rfl (GC.sub [(0,pv p_p),(1,.agg (Qa.c p_m).toArray),(2,slv p_l)] ⟨rfl,rfl,rfl,trivial⟩ (Zo (GL.box (v:=.agg (Qa.c p_m).toArray) (cs:=Qa.c p_m) h trivial rfl rfl rfl ?_)))
 intro b1 H2 h
 refine Za (GL.nil (Zo (Za (GL.nil (GC.seq (Zo (Zm (Zq (Zm (GL.nil (GC.block (Yp h (fun x3=>[(7,slv x3.1),(12,.int .i64 x3.2),(0,pv p_p),(4,pv (some (b1,0))),(10,slv p_l),(11,.int .i64 (Sl.len p_l:Int))]) ?_))))))))))))
 intro x3 H5 J4 h
 refine Zo (Zi (.bool (decide ((x3.2:Int) < (Sl.len p_l:Int)))) (GL.nil (GC.seq (Yd h (fun u6 h=>?_) fun u6 h=>?_))))
 refine GC.skip (GC.seq (GC.block (Zo (Yx h fun p7 h=>?_))))
 obtain ⟨x12,v13,h⟩:=h
 refine Zv (OV.loadT rfl rfl rfl v13) (GL.alloc (cs:=Qk.c Qk.zero) h trivial rfl rfl rfl ?_)
 intro b14 H15 h
 refine GL.storeT (p:=(b14,0)) (vs:=Qk.c x12) h trivial rfl rfl rfl rfl ?_
 intro H16 h
 refine GL.nil ?_
 obtain ⟨J17,h,hR20⟩:=h
 refine GC.join (α:=Unit) J17 (fun _=>[(0,pv p_p),(4,pv (some (b1,0))),(7,slv x3.1),(9,pv (some (b14,0))),(10,slv p_l),(11,.int .i64 (Sl.len p_l:Int)),(12,.int .i64 x3.2)]) ?_ ?_
 refine Zo (Zf (Yl h fun x21 h=>?_))
 refine Zi (.bool ((x21:Int) == 1)) (Zm ?_)
 obtain ⟨J24,h,hR25⟩:=h
 refine GL.cut (α:=Bool) 4 J24 (fun b23=>[(23,.bool b23),(0,pv p_p),(4,pv (some (b1,0))),(7,slv x3.1),(9,pv (some (b14,0))),(10,slv p_l),(11,.int .i64 (Sl.len p_l:Int)),(12,.int .i64 x3.2)]) ?_ ?_
 rcases h.em with ⟨u26,h⟩ | ⟨u26,h⟩
 refine Zk u26 (Zk u26 (Zk u26 (Zt u26 ?_)))
 exact Yj I3 true h
 refine Zu u26 Yf ?_
 obtain ⟨x27,v28,h⟩:=h
 refine Zu u26 (Yo v28) (Zu u26 (OV.ibin (v:=.bool ((x27:Int) == 2)) rfl rfl rfl) (Zn u26 ?_))
 exact Yj I3 ((x27:Int) == 2) h
 intro b23 H29 h
 replace h:=hR25 b23 H29 h
 refine GL.nil (Yd h (fun u30 h=>?_) fun u30 h=>?_)
 refine GC.region (Zm ?_)
 obtain ⟨x31,v32,h⟩:=h
 refine Zv (OV.loadT rfl rfl rfl v32) (Zf (Yl h fun x33 h=>?_))
 refine Zf ?_
 obtain ⟨x35,v36,h⟩:=h
 refine Zv (OV.loadT rfl rfl rfl v36) (GL.callP h (fun _ _ _ _ h=>h) trivial rfl Qbv (vs:=[pv p_p,.agg (Qa.c x31).toArray,sv x33,.int .i64 2,.agg (Qo.c x35).toArray]) rfl ?_)
 rintro _ H38 ⟨r37,rfl,h⟩
 refine Zf (GL.store (p:=((b14,0).1,(b14,0).2+3)) (v:=sv r37) h trivial rfl rfl rfl rfl ?_)
 intro H39 h
 exact Yj I3 () h
 exact Yk I3 () h
 intro x18 H19 h
 replace h:=hR20 x18 H19 h
 refine Zo (Zm ?_)
 obtain ⟨x40,v41,h⟩:=h
 refine Zv (OV.loadT rfl rfl rfl v41) (Zf (Yl h fun x42 h=>?_))
 refine GL.callP h (fun _ _ _ _ h=>h) trivial rfl Qch (vs:=[pv p_p,.agg (Qa.c x40).toArray,slv x42]) rfl ?_
 rintro _ H45 ⟨r44,rfl,h⟩
 refine Zf (GL.store (p:=((b14,0).1,(b14,0).2+4)) (v:=slv r44) h trivial rfl rfl rfl rfl ?_)
 intro H46 h
 refine GL.nil (GC.region (Zm ?_))
 obtain ⟨x47,v48,h⟩:=h
 refine Zv (OV.loadT rfl rfl rfl v48) (GL.appendLit (s:=x3.1) (ys:=(Qk.c x47)++[]) (zc:=Qk.c Qk.zero) (bytes:=64) h trivial rfl (fun _=>trivial) rfl (fun _=>rfl) (fun _=>rfl) (vs:=[(0,.agg (Qk.c x47).toArray)]) rfl ⟨35,fun _=>by kernel_rfl⟩ ⟨⟨_,_,_,rfl,rfl,rfl,rfl,rfl,rfl⟩⟩ rfl rfl ?_)
 intro _ r49 H50 h
 refine Za (GL.nil_to I3 (GC.region (Zi (.int .i64 (w .i64 (x3.2+1))) (Zm ?_))))
 exact Yj I3 (r49,(w .i64 (x3.2+1))) h
 refine GC.exit_to I3 (Zo (Zm (Za (GL.nil ?_))))
 exact GC.ret (fun _ _ hf hs=>postP (E:=E) hf (QjB rfl rfl hf hs ⟨x3.1,rfl,h⟩))
def QfG (C:Ctx) (p_w:Option (Nat×Nat)) (p_l:Sl) (K:Heap→Prop) (H:Heap):Prop:=
 lp (α:=Int) 0 H (fun x1 J2 H3=>
 ift (decide ((x1:Int) < (Sl.len p_l:Int)))
 (ixa p_l x1 fun p5=>
 ldS H3 (p5.1,p5.2+(x1:Int).toNat*1) fun x10=>
 nck p_w fun p12=>
 Ql C (some (p12.1,p12.2+0)) x10 (fun r14 r15 H16=>
 J2 (w .i64 (x1+1)) H16) H3)
 (K H3))
theorem Qkb (C p_w p_l K H) (h:QfG C p_w p_l K H):QA C p_w p_l K H:=by
 refine Ye Tryz.func72 rfl Tryz.ntmps72 [(0,pv p_w),(1,slv p_l)] (Zo (Zm (Zq (Zm (GL.nil (GC.block (Yp h (fun x1=>[(8,.int .i64 x1),(0,pv p_w),(6,slv p_l),(7,.int .i64 (Sl.len p_l:Int))]) ?_)))))))
 intro x1 H3 J2 h
 refine Zo (Zi (.bool (decide ((x1:Int) < (Sl.len p_l:Int)))) (GL.nil (GC.seq (Yd h (fun u4 h=>?_) fun u4 h=>?_))))
 refine GC.skip (GC.seq (GC.block (Zo (Yx h fun p5 h=>?_))))
 refine Yl h fun x10 h=>?_
 refine Za (GL.nil (GC.region (Zm ?_)))
 obtain ⟨p12,hp13,h⟩:=h
 refine Zv (OV.nilCheck (q:=p_w) rfl hp13) (Zf (Zm (Zc h Qn ?_)))
 rintro _ H16 ⟨r14,r15,rfl,h⟩
 refine GL.nil_to I3 (GC.region (Zi (.int .i64 (w .i64 (x1+1))) (Zm ?_)))
 exact Yj I3 (w .i64 (x1+1)) h
 exact GC.exit_ends (fun _ _ hf hs=>Qt rfl hf hs ⟨rfl,h⟩)
def QeE (C:Ctx) (p_w:Option (Nat×Nat)) (p_l:Sl) (p_between:Str) (p_write:Value) (K:Heap→Prop) (H:Heap):Prop:=
 lp (α:=Int) 0 H (fun x1 J2 H3=>
 ift (decide ((x1:Int) < (Sl.len p_l:Int)))
 (ixa p_l x1 fun p5=>
 ldT H3 Qp.c (p5.1,p5.2+(x1:Int).toNat*3) fun x10=>
 nw (Qp.c Qp.zero) (fun b12 H13=>
 stT (b12,0) (Qp.c x10) (fun H14=>
 jn (α:=Unit) (fun x16 H17=>
 ldT H17 Qp.c (b12,0) fun x25=>
 callU Tryz.prog C p_write [.agg (Qp.c x25).toArray] H17 (fun v H27=>v=.tuple #[]∧
 J2 (w .i64 (x1+1)) H27))
 (fun J15=>ift (decide ((x1:Int) > 0))
 (nck p_w fun p20=>
 Ql C (some (p20.1,p20.2+0)) p_between (fun r22 r23 H24=>
 J15 () H24) H14)
 (J15 () H14))) H13) H3)
 (K H3))
theorem Qh8 (C p_w p_l p_between p_write K H) (h:QeE C p_w p_l p_between p_write K H):QcI C p_w p_l p_between p_write K H:=by
 refine Ye Tryz.func73 rfl Tryz.ntmps73 [(0,pv p_w),(1,slv p_l),(2,sv p_between),(3,p_write)] (Zo (Zm (Zq (Zm (GL.nil (GC.block (Yp h (fun x1=>[(12,.int .i64 x1),(0,pv p_w),(2,sv p_between),(3,p_write),(10,slv p_l),(11,.int .i64 (Sl.len p_l:Int))]) ?_)))))))
 intro x1 H3 J2 h
 refine Zo (Zi (.bool (decide ((x1:Int) < (Sl.len p_l:Int)))) (GL.nil (GC.seq (Yd h (fun u4 h=>?_) fun u4 h=>?_))))
 refine GC.skip (GC.seq (GC.block (Zo (Zm (Yx h fun p5 h=>?_)))))
 obtain ⟨x10,v11,h⟩:=h
 refine Zv (OV.loadT rfl rfl rfl v11) (GL.alloc (cs:=Qp.c Qp.zero) h trivial rfl rfl rfl ?_)
 intro b12 H13 h
 refine Za (GL.storeT (p:=(b12,0)) (vs:=Qp.c x10) h trivial rfl rfl rfl rfl ?_)
 intro H14 h
 refine GL.nil ?_
 obtain ⟨J15,h,hR18⟩:=h
 refine GC.join (α:=Unit) J15 (fun _=>[(0,pv p_w),(2,sv p_between),(3,p_write),(9,pv (some (b12,0))),(10,slv p_l),(11,.int .i64 (Sl.len p_l:Int)),(12,.int .i64 x1)]) ?_ ?_
 refine Zo (Zm (Zi (.bool (decide ((x1:Int) > 0))) (GL.nil (Yd h (fun u19 h=>?_) fun u19 h=>?_))))
 refine GC.region (Zm ?_)
 obtain ⟨p20,hp21,h⟩:=h
 refine Zv (OV.nilCheck (q:=p_w) rfl hp21) (Zf (Zm (Zc h Qn ?_)))
 rintro _ H24 ⟨r22,r23,rfl,h⟩
 exact Yj I3 () h
 exact Yk I3 () h
 intro x16 H17 h
 replace h:=hR18 x16 H17 h
 refine GC.region (Zm ?_)
 obtain ⟨x25,v26,h⟩:=h
 refine Zv (OV.loadT rfl rfl rfl v26) (GL.callU (xv:=p_write) (vs:=[.agg (Qp.c x25).toArray]) h trivial rfl rfl rfl ?_)
 rintro _ H27 ⟨rfl,h⟩
 refine GL.nil_to I3 (GC.region (Zi (.int .i64 (w .i64 (x1+1))) (Zm ?_)))
 exact Yj I3 (w .i64 (x1+1)) h
 exact GC.exit_ends (fun _ _ hf hs=>Qt rfl hf hs ⟨rfl,h⟩)
def QjM (C:Ctx) (p_x:Qp) (v0:Nat×Nat) (K:Heap→Prop) (H:Heap):Prop:=
 nw (Qp.c p_x) (fun b1 H2=>
 ldP H2 v0 fun x3=>
 ldS H2 ((b1,0).1,(b1,0).2+2) fun x5=>
 nw ([sv [105,109,112,111,114,116,32],sv x5,sv [10]]) (fun b7 H8=>
 QA C x3 (Sl.of (some (b7,0)) 3 3) (fun H9=>
 K H9) H8) H2) H
theorem QmK (C p_x v0 K H) (h:QjM C p_x v0 K H):Qkh C p_x v0 K H:=by
 refine Ye Tryz.func74 rfl Tryz.ntmps74 [(0,.agg (Qp.c p_x).toArray),(1,pv (some v0))] (Zo (GL.box (v:=.agg (Qp.c p_x).toArray) (cs:=Qp.c p_x) h trivial rfl rfl rfl ?_))
 intro b1 H2 h
 refine GL.nil (GC.region (Yl h fun x3 h=>?_))
 refine Zf (Yl h fun x5 h=>?_)
 refine GL.buildSlice (cs:=[sv [105,109,112,111,114,116,32],sv x5,sv [10]]) h trivial rfl (vs:=[(0,sv [105,109,112,111,114,116,32]),(1,sv x5),(2,sv [10])]) rfl ⟨9,fun _=>by kernel_rfl⟩ ?_
 intro b7 H8 h
 refine Zc h QL ?_
 rintro _ H9 ⟨rfl,h⟩
 exact GL.ends (fun _ _ hf hs=>Qt rfl hf hs ⟨rfl,h⟩)
def Qec (C:Ctx) (p_w:Option (Nat×Nat)) (p_l:Sl) (p_between:Str) (p_write:Value) (K:Heap→Prop) (H:Heap):Prop:=
 lp (α:=Int) 0 H (fun x1 J2 H3=>
 ift (decide ((x1:Int) < (Sl.len p_l:Int)))
 (ixa p_l x1 fun p5=>
 ldT H3 Qc.c (p5.1,p5.2+(x1:Int).toNat*6) fun x10=>
 nw (Qc.c Qc.zero) (fun b12 H13=>
 stT (b12,0) (Qc.c x10) (fun H14=>
 jn (α:=Unit) (fun x16 H17=>
 ldT H17 Qc.c (b12,0) fun x25=>
 callU Tryz.prog C p_write [.agg (Qc.c x25).toArray] H17 (fun v H27=>v=.tuple #[]∧
 J2 (w .i64 (x1+1)) H27))
 (fun J15=>ift (decide ((x1:Int) > 0))
 (nck p_w fun p20=>
 Ql C (some (p20.1,p20.2+0)) p_between (fun r22 r23 H24=>
 J15 () H24) H14)
 (J15 () H14))) H13) H3)
 (K H3))
theorem Qho (C p_w p_l p_between p_write K H) (h:Qec C p_w p_l p_between p_write K H):Qcf C p_w p_l p_between p_write K H:=by
 refine Ye Tryz.func75 rfl Tryz.ntmps75 [(0,pv p_w),(1,slv p_l),(2,sv p_between),(3,p_write)] (Zo (Zm (Zq (Zm (GL.nil (GC.block (Yp h (fun x1=>[(12,.int .i64 x1),(0,pv p_w),(2,sv p_between),(3,p_write),(10,slv p_l),(11,.int .i64 (Sl.len p_l:Int))]) ?_)))))))
 intro x1 H3 J2 h
 refine Zo (Zi (.bool (decide ((x1:Int) < (Sl.len p_l:Int)))) (GL.nil (GC.seq (Yd h (fun u4 h=>?_) fun u4 h=>?_))))
 refine GC.skip (GC.seq (GC.block (Zo (Zm (Yx h fun p5 h=>?_)))))
 obtain ⟨x10,v11,h⟩:=h
 refine Zv (OV.loadT rfl rfl rfl v11) (GL.alloc (cs:=Qc.c Qc.zero) h trivial rfl rfl rfl ?_)
 intro b12 H13 h
 refine Za (GL.storeT (p:=(b12,0)) (vs:=Qc.c x10) h trivial rfl rfl rfl rfl ?_)
 intro H14 h
 refine GL.nil ?_
 obtain ⟨J15,h,hR18⟩:=h
 refine GC.join (α:=Unit) J15 (fun _=>[(0,pv p_w),(2,sv p_between),(3,p_write),(9,pv (some (b12,0))),(10,slv p_l),(11,.int .i64 (Sl.len p_l:Int)),(12,.int .i64 x1)]) ?_ ?_
 refine Zo (Zm (Zi (.bool (decide ((x1:Int) > 0))) (GL.nil (Yd h (fun u19 h=>?_) fun u19 h=>?_))))
 refine GC.region (Zm ?_)
 obtain ⟨p20,hp21,h⟩:=h
 refine Zv (OV.nilCheck (q:=p_w) rfl hp21) (Zf (Zm (Zc h Qn ?_)))
 rintro _ H24 ⟨r22,r23,rfl,h⟩
 exact Yj I3 () h
 exact Yk I3 () h
 intro x16 H17 h
 replace h:=hR18 x16 H17 h
 refine GC.region (Zm ?_)
 obtain ⟨x25,v26,h⟩:=h
 refine Zv (OV.loadT rfl rfl rfl v26) (GL.callU (xv:=p_write) (vs:=[.agg (Qc.c x25).toArray]) h trivial rfl rfl rfl ?_)
 rintro _ H27 ⟨rfl,h⟩
 refine GL.nil_to I3 (GC.region (Zi (.int .i64 (w .i64 (x1+1))) (Zm ?_)))
 exact Yj I3 (w .i64 (x1+1)) h
 exact GC.exit_ends (fun _ _ hf hs=>Qt rfl hf hs ⟨rfl,h⟩)
def QeT (C:Ctx) (p_w:Option (Nat×Nat)) (p_t:Qc) (K:Heap→Prop) (H:Heap):Prop:=
 nw ([pv p_w]) (fun b1 H2=>
 nw (Qc.c p_t) (fun b3 H4=>
 ldP H4 (b1,0) fun x5=>
 ldB H4 ((b3,0).1,(b3,0).2+2) fun x7=>
 Qdn C x5 x7 (fun H9=>
 ldP H9 (b1,0) fun x10=>
 ldS H9 ((b3,0).1,(b3,0).2+3) fun x12=>
 nw ([sv [116,121,112,101,32],sv x12]) (fun b14 H15=>
 QA C x10 (Sl.of (some (b14,0)) 2 2) (fun H16=>
 jn (α:=Unit) (fun x18 H19=>
 ldP H19 (b1,0) fun x29=>
 nck x29 fun p31=>
 Ql C (some (p31.1,p31.2+0)) [32,61,32] (fun r33 r34 H35=>
 ldP H35 (b1,0) fun x36=>
 ldL H35 ((b3,0).1,(b3,0).2+5) fun x38=>
 Qce C x36 x38 [32,124,32] (.func (.func 163) (List.toArray []) (List.toArray [pv (some (b1,0))]):Value) (fun H40=>
 ldP H40 (b1,0) fun x41=>
 nck x41 fun p43=>
 Qq C (some (p43.1,p43.2+0)) 10 (fun r45 H46=>
 K H46) H40) H35) H19)
 (fun J17=>ldL H16 ((b3,0).1,(b3,0).2+4) fun x21=>
 ift (decide (((Sl.len x21:Int):Int) > 0))
 (ldP H16 (b1,0) fun x24=>
 ldL H16 ((b3,0).1,(b3,0).2+4) fun x26=>
 QcH C x24 x26 (.func (.func 161) (List.toArray []) (List.toArray [pv (some (b1,0))]):Value) (fun H28=>
 J17 () H28) H16)
 (J17 () H16))) H15) H9) H4) H2) H
theorem QiT (C p_w p_t K H) (h:QeT C p_w p_t K H):Qe6 C p_w p_t K H:=by
 refine Ye Tryz.func76 rfl Tryz.ntmps76 [(0,pv p_w),(1,.agg (Qc.c p_t).toArray)] (Zo (GL.box (v:=pv p_w) (cs:=[pv p_w]) h trivial rfl rfl rfl ?_))
 intro b1 H2 h
 refine GL.box (v:=.agg (Qc.c p_t).toArray) (cs:=Qc.c p_t) h trivial rfl rfl rfl ?_
 intro b3 H4 h
 refine GL.nil (Zo (Yl h fun x5 h=>?_))
 refine Zf (Yl h fun x7 h=>?_)
 refine Zc h Qgu ?_
 rintro _ H9 ⟨rfl,h⟩
 refine GL.nil (Zo (Yl h fun x10 h=>?_))
 refine Zf (Yl h fun x12 h=>?_)
 refine GL.buildSlice (cs:=[sv [116,121,112,101,32],sv x12]) h trivial rfl (vs:=[(0,sv [116,121,112,101,32]),(1,sv x12)]) rfl ⟨9,fun _=>by kernel_rfl⟩ ?_
 intro b14 H15 h
 refine Zc h QL ?_
 rintro _ H16 ⟨rfl,h⟩
 refine GL.nil ?_
 obtain ⟨J17,h,hR20⟩:=h
 refine GC.join (α:=Unit) J17 (fun _=>[(2,pv (some (b1,0))),(3,pv (some (b3,0)))]) ?_ ?_
 refine Zo (Zf (Yl h fun x21 h=>?_))
 refine Zq (Zi (.bool (decide (((Sl.len x21:Int):Int) > 0))) (GL.nil (Yd h (fun u23 h=>?_) fun u23 h=>?_)))
 refine GC.region (Yl h fun x24 h=>?_)
 refine Zf (Yl h fun x26 h=>?_)
 refine Zv (OV.makeFunc (vs:=[]) (us:=[pv (some (b1,0))]) rfl rfl) (Zc h Qir ?_)
 rintro _ H28 ⟨rfl,h⟩
 exact Yj I3 () h
 exact Yk I3 () h
 intro x18 H19 h
 replace h:=hR20 x18 H19 h
 refine Zo (Yl h fun x29 h=>?_)
 obtain ⟨p31,hp32,h⟩:=h
 refine Zv (OV.nilCheck (q:=x29) rfl hp32) (Zf (Zc h Qn ?_))
 rintro _ H35 ⟨r33,r34,rfl,h⟩
 refine GL.nil (Zo (Yl h fun x36 h=>?_))
 refine Zf (Yl h fun x38 h=>?_)
 refine Zv (OV.makeFunc (vs:=[]) (us:=[pv (some (b1,0))]) rfl rfl) (Zc h QhJ ?_)
 rintro _ H40 ⟨rfl,h⟩
 refine GL.nil (GC.region (Yl h fun x41 h=>?_))
 obtain ⟨p43,hp44,h⟩:=h
 refine Zv (OV.nilCheck (q:=x41) rfl hp44) (Zf (Zc h Qr ?_))
 rintro _ H46 ⟨r45,rfl,h⟩
 exact GL.ends (fun _ _ hf hs=>Qt rfl hf hs ⟨rfl,h⟩)
def QeF (C:Ctx) (p_w:Option (Nat×Nat)) (p_l:Sl) (p_between:Str) (p_write:Value) (K:Heap→Prop) (H:Heap):Prop:=
 lp (α:=Int) 0 H (fun x1 J2 H3=>
 ift (decide ((x1:Int) < (Sl.len p_l:Int)))
 (ixa p_l x1 fun p5=>
 ldT H3 Qh.c (p5.1,p5.2+(x1:Int).toNat*6) fun x10=>
 nw (Qh.c Qh.zero) (fun b12 H13=>
 stT (b12,0) (Qh.c x10) (fun H14=>
 jn (α:=Unit) (fun x16 H17=>
 ldT H17 Qh.c (b12,0) fun x25=>
 callU Tryz.prog C p_write [.agg (Qh.c x25).toArray] H17 (fun v H27=>v=.tuple #[]∧
 J2 (w .i64 (x1+1)) H27))
 (fun J15=>ift (decide ((x1:Int) > 0))
 (nck p_w fun p20=>
 Ql C (some (p20.1,p20.2+0)) p_between (fun r22 r23 H24=>
 J15 () H24) H14)
 (J15 () H14))) H13) H3)
 (K H3))
theorem Qh9 (C p_w p_l p_between p_write K H) (h:QeF C p_w p_l p_between p_write K H):QcJ C p_w p_l p_between p_write K H:=by
 refine Ye Tryz.func77 rfl Tryz.ntmps77 [(0,pv p_w),(1,slv p_l),(2,sv p_between),(3,p_write)] (Zo (Zm (Zq (Zm (GL.nil (GC.block (Yp h (fun x1=>[(12,.int .i64 x1),(0,pv p_w),(2,sv p_between),(3,p_write),(10,slv p_l),(11,.int .i64 (Sl.len p_l:Int))]) ?_)))))))
 intro x1 H3 J2 h
 refine Zo (Zi (.bool (decide ((x1:Int) < (Sl.len p_l:Int)))) (GL.nil (GC.seq (Yd h (fun u4 h=>?_) fun u4 h=>?_))))
 refine GC.skip (GC.seq (GC.block (Zo (Zm (Yx h fun p5 h=>?_)))))
 obtain ⟨x10,v11,h⟩:=h
 refine Zv (OV.loadT rfl rfl rfl v11) (GL.alloc (cs:=Qh.c Qh.zero) h trivial rfl rfl rfl ?_)
 intro b12 H13 h
 refine Za (GL.storeT (p:=(b12,0)) (vs:=Qh.c x10) h trivial rfl rfl rfl rfl ?_)
 intro H14 h
 refine GL.nil ?_
 obtain ⟨J15,h,hR18⟩:=h
 refine GC.join (α:=Unit) J15 (fun _=>[(0,pv p_w),(2,sv p_between),(3,p_write),(9,pv (some (b12,0))),(10,slv p_l),(11,.int .i64 (Sl.len p_l:Int)),(12,.int .i64 x1)]) ?_ ?_
 refine Zo (Zm (Zi (.bool (decide ((x1:Int) > 0))) (GL.nil (Yd h (fun u19 h=>?_) fun u19 h=>?_))))
 refine GC.region (Zm ?_)
 obtain ⟨p20,hp21,h⟩:=h
 refine Zv (OV.nilCheck (q:=p_w) rfl hp21) (Zf (Zm (Zc h Qn ?_)))
 rintro _ H24 ⟨r22,r23,rfl,h⟩
 exact Yj I3 () h
 exact Yk I3 () h
 intro x16 H17 h
 replace h:=hR18 x16 H17 h
 refine GC.region (Zm ?_)
 obtain ⟨x25,v26,h⟩:=h
 refine Zv (OV.loadT rfl rfl rfl v26) (GL.callU (xv:=p_write) (vs:=[.agg (Qh.c x25).toArray]) h trivial rfl rfl rfl ?_)
 rintro _ H27 ⟨rfl,h⟩
 refine GL.nil_to I3 (GC.region (Zi (.int .i64 (w .i64 (x1+1))) (Zm ?_)))
 exact Yj I3 (w .i64 (x1+1)) h
 exact GC.exit_ends (fun _ _ hf hs=>Qt rfl hf hs ⟨rfl,h⟩)
def Qfh (C:Ctx) (p_w:Option (Nat×Nat)) (p_x:Qh) (K:Heap→Prop) (H:Heap):Prop:=
 nw (Qh.c p_x) (fun b1 H2=>
 ldB H2 ((b1,0).1,(b1,0).2+2) fun x3=>
 Qdn C p_w x3 (fun H5=>
 jn (α:=Str) (fun x7 H8=>
 ldS H8 ((b1,0).1,(b1,0).2+4) fun x13=>
 nw ([sv x7,sv x13]) (fun b15 H16=>
 QA C p_w (Sl.of (some (b15,0)) 2 2) (fun H17=>
 ldL H17 ((b1,0).1,(b1,0).2+5) fun x18=>
 Qad C p_w x18 (.func (.func 165) (List.toArray [pv p_w]) (List.toArray []):Value) (fun H20=>
 nck p_w fun p21=>
 Qq C (some (p21.1,p21.2+0)) 10 (fun r23 H24=>
 K H24) H20) H17) H16) H8)
 (fun J6=>ldB H5 ((b1,0).1,(b1,0).2+3) fun x10=>
 ift x10
 (J6 [105,110,112,117,116,32] H5)
 (J6 [114,101,108,32] H5))) H2) H
theorem Qjf (C p_w p_x K H) (h:Qfh C p_w p_x K H):Qfv C p_w p_x K H:=by
 refine Ye Tryz.func78 rfl Tryz.ntmps78 [(0,pv p_w),(1,.agg (Qh.c p_x).toArray)] (Zo (GL.box (v:=.agg (Qh.c p_x).toArray) (cs:=Qh.c p_x) h trivial rfl rfl rfl ?_))
 intro b1 H2 h
 refine GL.nil (Zo (Zm (Zf (Yl h fun x3 h=>?_))))
 refine Zc h Qgu ?_
 rintro _ H5 ⟨rfl,h⟩
 refine GL.nil (Zo (Za (GL.nil ?_)))
 obtain ⟨J6,h,hR9⟩:=h
 refine GC.join (α:=Str) J6 (fun x7=>[(4,sv x7),(0,pv p_w),(3,pv (some (b1,0)))]) ?_ ?_
 refine Zo (Zf (Yl h fun x10 h=>?_))
 refine GL.nil (Yd h (fun u12 h=>?_) fun u12 h=>?_)
 refine GC.region (Za ?_)
 exact Yj I3 [105,110,112,117,116,32] h
 exact Yk I3 [114,101,108,32] h
 intro x7 H8 h
 replace h:=hR9 x7 H8 h
 refine Zo (Zm (Zm (Zf (Yl h fun x13 h=>?_))))
 refine GL.buildSlice (cs:=[sv x7,sv x13]) h trivial rfl (vs:=[(0,sv x7),(1,sv x13)]) rfl ⟨9,fun _=>by kernel_rfl⟩ ?_
 intro b15 H16 h
 refine Zc h QL ?_
 rintro _ H17 ⟨rfl,h⟩
 refine GL.nil (Zo (Zm (Zf (Yl h fun x18 h=>?_))))
 refine Zm (Zv (OV.makeFunc (vs:=[pv p_w]) (us:=[]) rfl rfl) (Zc h Qcq ?_))
 rintro _ H20 ⟨rfl,h⟩
 refine GL.nil (GC.region (Zm ?_))
 obtain ⟨p21,hp22,h⟩:=h
 refine Zv (OV.nilCheck (q:=p_w) rfl hp22) (Zf (Zc h Qr ?_))
 rintro _ H24 ⟨r23,rfl,h⟩
 exact GL.ends (fun _ _ hf hs=>Qt rfl hf hs ⟨rfl,h⟩)
def Qff (C:Ctx) (p_w:Option (Nat×Nat)) (p_l:Sl) (p_between:Str) (p_write:Value) (K:Heap→Prop) (H:Heap):Prop:=
 lp (α:=Int) 0 H (fun x1 J2 H3=>
 ift (decide ((x1:Int) < (Sl.len p_l:Int)))
 (ixa p_l x1 fun p5=>
 ldT H3 Qj.c (p5.1,p5.2+(x1:Int).toNat*6) fun x10=>
 nw (Qj.c Qj.zero) (fun b12 H13=>
 stT (b12,0) (Qj.c x10) (fun H14=>
 jn (α:=Unit) (fun x16 H17=>
 ldT H17 Qj.c (b12,0) fun x25=>
 callU Tryz.prog C p_write [.agg (Qj.c x25).toArray] H17 (fun v H27=>v=.tuple #[]∧
 J2 (w .i64 (x1+1)) H27))
 (fun J15=>ift (decide ((x1:Int) > 0))
 (nck p_w fun p20=>
 Ql C (some (p20.1,p20.2+0)) p_between (fun r22 r23 H24=>
 J15 () H24) H14)
 (J15 () H14))) H13) H3)
 (K H3))
theorem Qjd (C p_w p_l p_between p_write K H) (h:Qff C p_w p_l p_between p_write K H):Qdv C p_w p_l p_between p_write K H:=by
 refine Ye Tryz.func79 rfl Tryz.ntmps79 [(0,pv p_w),(1,slv p_l),(2,sv p_between),(3,p_write)] (Zo (Zm (Zq (Zm (GL.nil (GC.block (Yp h (fun x1=>[(12,.int .i64 x1),(0,pv p_w),(2,sv p_between),(3,p_write),(10,slv p_l),(11,.int .i64 (Sl.len p_l:Int))]) ?_)))))))
 intro x1 H3 J2 h
 refine Zo (Zi (.bool (decide ((x1:Int) < (Sl.len p_l:Int)))) (GL.nil (GC.seq (Yd h (fun u4 h=>?_) fun u4 h=>?_))))
 refine GC.skip (GC.seq (GC.block (Zo (Zm (Yx h fun p5 h=>?_)))))
 obtain ⟨x10,v11,h⟩:=h
 refine Zv (OV.loadT rfl rfl rfl v11) (GL.alloc (cs:=Qj.c Qj.zero) h trivial rfl rfl rfl ?_)
 intro b12 H13 h
 refine Za (GL.storeT (p:=(b12,0)) (vs:=Qj.c x10) h trivial rfl rfl rfl rfl ?_)
 intro H14 h
 refine GL.nil ?_
 obtain ⟨J15,h,hR18⟩:=h
 refine GC.join (α:=Unit) J15 (fun _=>[(0,pv p_w),(2,sv p_between),(3,p_write),(9,pv (some (b12,0))),(10,slv p_l),(11,.int .i64 (Sl.len p_l:Int)),(12,.int .i64 x1)]) ?_ ?_
 refine Zo (Zm (Zi (.bool (decide ((x1:Int) > 0))) (GL.nil (Yd h (fun u19 h=>?_) fun u19 h=>?_))))
 refine GC.region (Zm ?_)
 obtain ⟨p20,hp21,h⟩:=h
 refine Zv (OV.nilCheck (q:=p_w) rfl hp21) (Zf (Zm (Zc h Qn ?_)))
 rintro _ H24 ⟨r22,r23,rfl,h⟩
 exact Yj I3 () h
 exact Yk I3 () h
 intro x16 H17 h
 replace h:=hR18 x16 H17 h
 refine GC.region (Zm ?_)
 obtain ⟨x25,v26,h⟩:=h
 refine Zv (OV.loadT rfl rfl rfl v26) (GL.callU (xv:=p_write) (vs:=[.agg (Qj.c x25).toArray]) h trivial rfl rfl rfl ?_)
 rintro _ H27 ⟨rfl,h⟩
 refine GL.nil_to I3 (GC.region (Zi (.int .i64 (w .i64 (x1+1))) (Zm ?_)))
 exact Yj I3 (w .i64 (x1+1)) h
 exact GC.exit_ends (fun _ _ hf hs=>Qt rfl hf hs ⟨rfl,h⟩)
end
section
set_option maxRecDepth 100000
open Go Go.Proofs
def Qgd (C:Ctx) (p_w:Option (Nat×Nat)) (p_r:Qj) (K:Heap→Prop) (H:Heap):Prop:=
 nw ([pv p_w]) (fun b1 H2=>
 nw (Qj.c p_r) (fun b3 H4=>
 dr H4 fun Hs5=>
 ldP Hs5 (b1,0) fun x7=>
 nck x7 fun p9=>
 ldS Hs5 ((b3,0).1,(b3,0).2+2) fun x11=>
 Ql C (some (p9.1,p9.2+0)) x11 (fun r14 r15 H16=>
 Heap.le Hs5 H16∧
 nw ([.int .i64 0]) (fun b17 H18=>
 st (b17,0) (.int .i64 0) (fun H19=>
 ldP H19 (b1,0) fun x20=>
 ldL H19 ((b3,0).1,(b3,0).2+3) fun x22=>
 Qy C x20 x22 (.func (.func 168) (List.toArray []) (List.toArray [pv (some (b3,0)),pv (some (b17,0)),pv (some (b1,0))]):Value) (fun H24=>
 jn (α:=Unit) (fun x26 H27=>
 ldP H27 (b1,0) fun x46=>
 nck x46 fun p48=>
 Ql C (some (p48.1,p48.2+0)) [46,10] (fun r50 r51 H52=>
 K H52) H27)
 (fun J25=>ldL H24 ((b3,0).1,(b3,0).2+5) fun x29=>
 ift (decide (((Sl.len x29:Int):Int) > 0))
 (ldP H24 (b1,0) fun x32=>
 nck x32 fun p34=>
 Ql C (some (p34.1,p34.2+0)) [32,58,45,32] (fun r36 r37 H38=>
 ldP H38 (b1,0) fun x39=>
 ldL H38 ((b3,0).1,(b3,0).2+5) fun x41=>
 ldP H38 (b1,0) fun x43=>
 QaK C x39 x41 [44,32] (.func (.func 84) (List.toArray [pv x43]) (List.toArray []):Value) (fun H45=>
 J25 () H45) H38) H24)
 (J25 () H24))) H19) H18) H16) H4) H2) H
theorem QkN (C p_w p_r K H) (h:Qgd C p_w p_r K H):Qgr C p_w p_r K H:=by
 refine Ye Tryz.func80 rfl Tryz.ntmps80 [(0,pv p_w),(1,.agg (Qj.c p_r).toArray)] (Zo (GL.box (v:=pv p_w) (cs:=[pv p_w]) h trivial rfl rfl rfl ?_))
 intro b1 H2 h
 refine GL.box (v:=.agg (Qj.c p_r).toArray) (cs:=Qj.c p_r) h trivial rfl rfl rfl ?_
 intro b3 H4 h
 refine GL.nil (GC.seq ?_)
 obtain ⟨Hs5,hle6,h⟩:=h
 refine GC.any (Hs:=Hs5) (by kernel_rfl) hle6 ?_
 obtain ⟨x7,v8,h⟩:=h
 refine Zp 0 rfl (Yo v8) ?_
 obtain ⟨p9,hp10,h⟩:=h
 refine Zp 1 rfl (OV.nilCheck (q:=x7) rfl hp10) (Zp 2 rfl Yf (Zp 3 rfl Yf ?_))
 obtain ⟨x11,v12,h⟩:=h
 refine Zp 4 rfl (Yo v12) (GA.eff 5 rfl (by kernel_rfl) (Zc h Qn ?_))
 rintro _ H16 ⟨r14,r15,rfl,h⟩
 obtain ⟨hle13,h⟩:=h
 refine GA.back hle13 (GA.done (by kernel_rfl) (GL.nil (Zo (GL.alloc (cs:=[.int .i64 0]) h trivial rfl rfl rfl ?_))))
 intro b17 H18 h
 refine GL.store (p:=(b17,0)) (v:=.int .i64 0) h trivial rfl rfl rfl rfl ?_
 intro H19 h
 refine GL.nil (Zo (Yl h fun x20 h=>?_))
 refine Zf (Yl h fun x22 h=>?_)
 refine Zv (OV.makeFunc (vs:=[]) (us:=[pv (some (b3,0)),pv (some (b17,0)),pv (some (b1,0))]) rfl rfl) (Zc h QR ?_)
 rintro _ H24 ⟨rfl,h⟩
 refine GL.nil ?_
 obtain ⟨J25,h,hR28⟩:=h
 refine GC.join (α:=Unit) J25 (fun _=>[(2,pv (some (b1,0)))]) ?_ ?_
 refine Zo (Zf (Yl h fun x29 h=>?_))
 refine Zq (Zi (.bool (decide (((Sl.len x29:Int):Int) > 0))) (GL.nil (Yd h (fun u31 h=>?_) fun u31 h=>?_)))
 refine Zo (Yl h fun x32 h=>?_)
 obtain ⟨p34,hp35,h⟩:=h
 refine Zv (OV.nilCheck (q:=x32) rfl hp35) (Zf (Zc h Qn ?_))
 rintro _ H38 ⟨r36,r37,rfl,h⟩
 refine GL.nil (GC.region (Yl h fun x39 h=>?_))
 refine Zf (Yl h fun x41 h=>?_)
 refine Yl h fun x43 h=>?_
 refine Zv (OV.makeFunc (vs:=[pv x43]) (us:=[]) rfl rfl) (Zc h QdZ ?_)
 rintro _ H45 ⟨rfl,h⟩
 exact Yj I3 () h
 exact Yk I3 () h
 intro x26 H27 h
 replace h:=hR28 x26 H27 h
 refine GC.region (Yl h fun x46 h=>?_)
 obtain ⟨p48,hp49,h⟩:=h
 refine Zv (OV.nilCheck (q:=x46) rfl hp49) (Zf (Zc h Qn ?_))
 rintro _ H52 ⟨r50,r51,rfl,h⟩
 exact GL.ends (fun _ _ hf hs=>Qt rfl hf hs ⟨rfl,h⟩)
def QeR (C:Ctx) (p_w:Option (Nat×Nat)) (p_l:Sl) (p_between:Str) (p_write:Value) (K:Heap→Prop) (H:Heap):Prop:=
 lp (α:=Int) 0 H (fun x1 J2 H3=>
 ift (decide ((x1:Int) < (Sl.len p_l:Int)))
 (ixa p_l x1 fun p5=>
 ldT H3 Qm.c (p5.1,p5.2+(x1:Int).toNat*4) fun x10=>
 nw (Qm.c Qm.zero) (fun b12 H13=>
 stT (b12,0) (Qm.c x10) (fun H14=>
 jn (α:=Unit) (fun x16 H17=>
 ldT H17 Qm.c (b12,0) fun x25=>
 callU Tryz.prog C p_write [.agg (Qm.c x25).toArray] H17 (fun v H27=>v=.tuple #[]∧
 J2 (w .i64 (x1+1)) H27))
 (fun J15=>ift (decide ((x1:Int) > 0))
 (nck p_w fun p20=>
 Ql C (some (p20.1,p20.2+0)) p_between (fun r22 r23 H24=>
 J15 () H24) H14)
 (J15 () H14))) H13) H3)
 (K H3))
theorem QiR (C p_w p_l p_between p_write K H) (h:QeR C p_w p_l p_between p_write K H):Qc3 C p_w p_l p_between p_write K H:=by
 refine Ye Tryz.func81 rfl Tryz.ntmps81 [(0,pv p_w),(1,slv p_l),(2,sv p_between),(3,p_write)] (Zo (Zm (Zq (Zm (GL.nil (GC.block (Yp h (fun x1=>[(12,.int .i64 x1),(0,pv p_w),(2,sv p_between),(3,p_write),(10,slv p_l),(11,.int .i64 (Sl.len p_l:Int))]) ?_)))))))
 intro x1 H3 J2 h
 refine Zo (Zi (.bool (decide ((x1:Int) < (Sl.len p_l:Int)))) (GL.nil (GC.seq (Yd h (fun u4 h=>?_) fun u4 h=>?_))))
 refine GC.skip (GC.seq (GC.block (Zo (Zm (Yx h fun p5 h=>?_)))))
 obtain ⟨x10,v11,h⟩:=h
 refine Zv (OV.loadT rfl rfl rfl v11) (GL.alloc (cs:=Qm.c Qm.zero) h trivial rfl rfl rfl ?_)
 intro b12 H13 h
 refine Za (GL.storeT (p:=(b12,0)) (vs:=Qm.c x10) h trivial rfl rfl rfl rfl ?_)
 intro H14 h
 refine GL.nil ?_
 obtain ⟨J15,h,hR18⟩:=h
 refine GC.join (α:=Unit) J15 (fun _=>[(0,pv p_w),(2,sv p_between),(3,p_write),(9,pv (some (b12,0))),(10,slv p_l),(11,.int .i64 (Sl.len p_l:Int)),(12,.int .i64 x1)]) ?_ ?_
 refine Zo (Zm (Zi (.bool (decide ((x1:Int) > 0))) (GL.nil (Yd h (fun u19 h=>?_) fun u19 h=>?_))))
 refine GC.region (Zm ?_)
 obtain ⟨p20,hp21,h⟩:=h
 refine Zv (OV.nilCheck (q:=p_w) rfl hp21) (Zf (Zm (Zc h Qn ?_)))
 rintro _ H24 ⟨r22,r23,rfl,h⟩
 exact Yj I3 () h
 exact Yk I3 () h
 intro x16 H17 h
 replace h:=hR18 x16 H17 h
 refine GC.region (Zm ?_)
 obtain ⟨x25,v26,h⟩:=h
 refine Zv (OV.loadT rfl rfl rfl v26) (GL.callU (xv:=p_write) (vs:=[.agg (Qm.c x25).toArray]) h trivial rfl rfl rfl ?_)
 rintro _ H27 ⟨rfl,h⟩
 refine GL.nil_to I3 (GC.region (Zi (.int .i64 (w .i64 (x1+1))) (Zm ?_)))
 exact Yj I3 (w .i64 (x1+1)) h
 exact GC.exit_ends (fun _ _ hf hs=>Qt rfl hf hs ⟨rfl,h⟩)
def QjN (C:Ctx) (p_x:Qm) (v0:Nat×Nat) (K:Heap→Prop) (H:Heap):Prop:=
 nw (Qm.c p_x) (fun b1 H2=>
 ldP H2 v0 fun x3=>
 ldS H2 ((b1,0).1,(b1,0).2+2) fun x5=>
 nw ([sv [110,101,118,101,114,32],sv x5,sv [32,58,45,32]]) (fun b7 H8=>
 QA C x3 (Sl.of (some (b7,0)) 3 3) (fun H9=>
 ldP H9 v0 fun x10=>
 ldL H9 ((b1,0).1,(b1,0).2+3) fun x12=>
 ldP H9 v0 fun x14=>
 QaK C x10 x12 [44,32] (.func (.func 84) (List.toArray [pv x14]) (List.toArray []):Value) (fun H16=>
 ldP H16 v0 fun x17=>
 nck x17 fun p19=>
 Ql C (some (p19.1,p19.2+0)) [46,10] (fun r21 r22 H23=>
 K H23) H16) H9) H8) H2) H
theorem QmL (C p_x v0 K H) (h:QjN C p_x v0 K H):Qki C p_x v0 K H:=by
 refine Ye Tryz.func82 rfl Tryz.ntmps82 [(0,.agg (Qm.c p_x).toArray),(1,pv (some v0))] (Zo (GL.box (v:=.agg (Qm.c p_x).toArray) (cs:=Qm.c p_x) h trivial rfl rfl rfl ?_))
 intro b1 H2 h
 refine GL.nil (Zo (Yl h fun x3 h=>?_))
 refine Zf (Yl h fun x5 h=>?_)
 refine GL.buildSlice (cs:=[sv [110,101,118,101,114,32],sv x5,sv [32,58,45,32]]) h trivial rfl (vs:=[(0,sv [110,101,118,101,114,32]),(1,sv x5),(2,sv [32,58,45,32])]) rfl ⟨9,fun _=>by kernel_rfl⟩ ?_
 intro b7 H8 h
 refine Zc h QL ?_
 rintro _ H9 ⟨rfl,h⟩
 refine GL.nil (Zo (Yl h fun x10 h=>?_))
 refine Zf (Yl h fun x12 h=>?_)
 refine Yl h fun x14 h=>?_
 refine Zv (OV.makeFunc (vs:=[pv x14]) (us:=[]) rfl rfl) (Zc h QdZ ?_)
 rintro _ H16 ⟨rfl,h⟩
 refine GL.nil (GC.region (Yl h fun x17 h=>?_))
 obtain ⟨p19,hp20,h⟩:=h
 refine Zv (OV.nilCheck (q:=x17) rfl hp20) (Zf (Zc h Qn ?_))
 rintro _ H23 ⟨r21,r22,rfl,h⟩
 exact GL.ends (fun _ _ hf hs=>Qt rfl hf hs ⟨rfl,h⟩)
def Qeb (C:Ctx) (p_w:Option (Nat×Nat)) (p_l:Sl) (p_between:Str) (p_write:Value) (K:Heap→Prop) (H:Heap):Prop:=
 lp (α:=Int) 0 H (fun x1 J2 H3=>
 ift (decide ((x1:Int) < (Sl.len p_l:Int)))
 (ixa p_l x1 fun p5=>
 ldT H3 Qk.c (p5.1,p5.2+(x1:Int).toNat*5) fun x10=>
 nw (Qk.c Qk.zero) (fun b12 H13=>
 stT (b12,0) (Qk.c x10) (fun H14=>
 jn (α:=Unit) (fun x16 H17=>
 ldT H17 Qk.c (b12,0) fun x25=>
 callU Tryz.prog C p_write [.agg (Qk.c x25).toArray] H17 (fun v H27=>v=.tuple #[]∧
 J2 (w .i64 (x1+1)) H27))
 (fun J15=>ift (decide ((x1:Int) > 0))
 (nck p_w fun p20=>
 Ql C (some (p20.1,p20.2+0)) p_between (fun r22 r23 H24=>
 J15 () H24) H14)
 (J15 () H14))) H13) H3)
 (K H3))
theorem Qhn (C p_w p_l p_between p_write K H) (h:Qeb C p_w p_l p_between p_write K H):QaK C p_w p_l p_between p_write K H:=by
 refine Ye Tryz.func83 rfl Tryz.ntmps83 [(0,pv p_w),(1,slv p_l),(2,sv p_between),(3,p_write)] (Zo (Zm (Zq (Zm (GL.nil (GC.block (Yp h (fun x1=>[(12,.int .i64 x1),(0,pv p_w),(2,sv p_between),(3,p_write),(10,slv p_l),(11,.int .i64 (Sl.len p_l:Int))]) ?_)))))))
 intro x1 H3 J2 h
 refine Zo (Zi (.bool (decide ((x1:Int) < (Sl.len p_l:Int)))) (GL.nil (GC.seq (Yd h (fun u4 h=>?_) fun u4 h=>?_))))
 refine GC.skip (GC.seq (GC.block (Zo (Zm (Yx h fun p5 h=>?_)))))
 obtain ⟨x10,v11,h⟩:=h
 refine Zv (OV.loadT rfl rfl rfl v11) (GL.alloc (cs:=Qk.c Qk.zero) h trivial rfl rfl rfl ?_)
 intro b12 H13 h
 refine Za (GL.storeT (p:=(b12,0)) (vs:=Qk.c x10) h trivial rfl rfl rfl rfl ?_)
 intro H14 h
 refine GL.nil ?_
 obtain ⟨J15,h,hR18⟩:=h
 refine GC.join (α:=Unit) J15 (fun _=>[(0,pv p_w),(2,sv p_between),(3,p_write),(9,pv (some (b12,0))),(10,slv p_l),(11,.int .i64 (Sl.len p_l:Int)),(12,.int .i64 x1)]) ?_ ?_
 refine Zo (Zm (Zi (.bool (decide ((x1:Int) > 0))) (GL.nil (Yd h (fun u19 h=>?_) fun u19 h=>?_))))
 refine GC.region (Zm ?_)
 obtain ⟨p20,hp21,h⟩:=h
 refine Zv (OV.nilCheck (q:=p_w) rfl hp21) (Zf (Zm (Zc h Qn ?_)))
 rintro _ H24 ⟨r22,r23,rfl,h⟩
 exact Yj I3 () h
 exact Yk I3 () h
 intro x16 H17 h
 replace h:=hR18 x16 H17 h
 refine GC.region (Zm ?_)
 obtain ⟨x25,v26,h⟩:=h
 refine Zv (OV.loadT rfl rfl rfl v26) (GL.callU (xv:=p_write) (vs:=[.agg (Qk.c x25).toArray]) h trivial rfl rfl rfl ?_)
 rintro _ H27 ⟨rfl,h⟩
 refine GL.nil_to I3 (GC.region (Zi (.int .i64 (w .i64 (x1+1))) (Zm ?_)))
 exact Yj I3 (w .i64 (x1+1)) h
 exact GC.exit_ends (fun _ _ hf hs=>Qt rfl hf hs ⟨rfl,h⟩)
def QeS (C:Ctx) (p_w:Option (Nat×Nat)) (p_x:Qk) (K:Heap→Prop) (H:Heap):Prop:=
 nw (Qk.c p_x) (fun b1 H2=>
 ldI H2 .u8 ((b1,0).1,(b1,0).2+0) fun x3=>
 jn (α:=Unit) (fun x6 H7=>
 dr H7 fun Hs59=>
 nck p_w fun p61=>
 ldS Hs59 ((b1,0).1,(b1,0).2+3) fun x63=>
 Ql C (some (p61.1,p61.2+0)) x63 (fun r66 r67 H68=>
 Heap.le Hs59 H68∧
 ldL H68 ((b1,0).1,(b1,0).2+4) fun x69=>
 Qy C p_w x69 (.func (.func 169) (List.toArray [pv p_w]) (List.toArray []):Value) (fun H71=>
 K H71) H68) H7)
 (fun J5=>ift ((x3:Int) == 2)
 (nck p_w fun p10=>
 Ql C (some (p10.1,p10.2+0)) [110,111,116,32] (fun r12 r13 H14=>
 J5 () H14) H2)
 (ift ((x3:Int) == 1)
 (J5 () H2)
 (ift ((x3:Int) == 4)
 (ldS H2 ((b1,0).1,(b1,0).2+3) fun x17=>
 nw ([sv x17,sv [32,61,32]]) (fun b19 H20=>
 QA C p_w (Sl.of (some (b19,0)) 2 2) (fun H21=>
 ldL H21 ((b1,0).1,(b1,0).2+4) fun x22=>
 ixa x22 0 fun p24=>
 ldT H21 Qb.c (p24.1,p24.2+(0:Int).toNat*9) fun x29=>
 Qae C p_w x29 (fun H31=>
 K H31) H21) H20) H2)
 (jn (α:=Unit) (fun x33 H34=>
 K H34)
 (fun J32=>ldL H2 ((b1,0).1,(b1,0).2+4) fun x36=>
 ixa x36 0 fun p38=>
 ldI H2 .u8 ((p38.1,p38.2+(0:Int).toNat*9).1,(p38.1,p38.2+(0:Int).toNat*9).2+0) fun x43=>
 ift ((x43:Int) == 5)
 (ldL H2 ((b1,0).1,(b1,0).2+4) fun x46=>
 Qy C p_w x46 (.func (.func 169) (List.toArray [pv p_w]) (List.toArray []):Value) (fun H48=>
 J32 () H48) H2)
 (ldL H2 ((b1,0).1,(b1,0).2+4) fun x49=>
 ixa x49 0 fun p51=>
 ldT H2 Qb.c (p51.1,p51.2+(0:Int).toNat*9) fun x56=>
 Qae C p_w x56 (fun H58=>
 J32 () H58) H2))))))) H
theorem QiS (C p_w p_x K H) (h:QeS C p_w p_x K H):Qe5 C p_w p_x K H:=by
 refine Ye Tryz.func84 rfl Tryz.ntmps84 [(0,pv p_w),(1,.agg (Qk.c p_x).toArray)] (Zo (GL.box (v:=.agg (Qk.c p_x).toArray) (cs:=Qk.c p_x) h trivial rfl rfl rfl ?_))
 intro b1 H2 h
 refine GL.nil (Zo (Zf (Yl h fun x3 h=>?_)))
 refine GL.nil (GC.block (GC.seq (GC.block (GC.seq (GC.block ?_)))))
 obtain ⟨J5,h,hR8⟩:=h
 refine GC.join (α:=Unit) J5 (fun _=>[(0,pv p_w),(3,pv (some (b1,0)))]) ?_ ?_
 refine GC.block (GC.seq (GC.block (GC.seq (GC.seq (Zo (Zi (.bool ((x3:Int) == 2)) (Za (GL.nil (Yd h (fun u9 h=>?_) fun u9 h=>?_)))))))))
 refine GC.exit_to I3 (GC.region (Zm ?_))
 obtain ⟨p10,hp11,h⟩:=h
 refine Zv (OV.nilCheck (q:=p_w) rfl hp11) (Zf (Zc h Qn ?_))
 rintro _ H14 ⟨r12,r13,rfl,h⟩
 exact Yj I3 () h
 refine GC.skip (GC.seq (Zo (Zi (.bool ((x3:Int) == 1)) (Za (GL.nil (Yd h (fun u15 h=>?_) fun u15 h=>?_))))))
 exact GC.exit_jump I3 () h ⟨rfl,rfl,trivial⟩
 refine GC.skip (Zo (Zi (.bool ((x3:Int) == 4)) (Za (GL.nil (Yd h (fun u16 h=>?_) fun u16 h=>?_)))))
 refine GC.exit_to I3 (GC.seq (Zo (Zm (Zf ?_))))
 refine Yl h fun x17 h=>?_
 refine GL.buildSlice (cs:=[sv x17,sv [32,61,32]]) h trivial rfl (vs:=[(0,sv x17),(1,sv [32,61,32])]) rfl ⟨9,fun _=>by kernel_rfl⟩ ?_
 intro b19 H20 h
 refine Zc h QL ?_
 rintro _ H21 ⟨rfl,h⟩
 refine GL.nil (GC.region (Zm (Zf (Yl h fun x22 h=>?_))))
 refine Yx h fun p24 h=>?_
 obtain ⟨x29,v30,h⟩:=h
 refine Zv (OV.loadT rfl rfl rfl v30) (Zc h Q2 ?_)
 rintro _ H31 ⟨rfl,h⟩
 refine GL.nil ?_
 exact GC.exit_ends (fun _ _ hf hs=>Qt rfl hf hs ⟨rfl,h⟩)
 refine GC.skip (GC.exit_to I3 ?_)
 obtain ⟨J32,h,hR35⟩:=h
 refine GC.join (α:=Unit) J32 (fun _=>[]) ?_ ?_
 refine Zo (Zf (Yl h fun x36 h=>?_))
 refine Yx h fun p38 h=>?_
 refine Zf (Yl h fun x43 h=>?_)
 refine Zi (.bool ((x43:Int) == 5)) (GL.nil (Yd h (fun u45 h=>?_) fun u45 h=>?_))
 refine GC.region (Zm (Zf (Yl h fun x46 h=>?_)))
 refine Zm (Zv (OV.makeFunc (vs:=[pv p_w]) (us:=[]) rfl rfl) (Zc h QR ?_))
 rintro _ H48 ⟨rfl,h⟩
 exact GL.jump I3 () h trivial
 refine GC.region (Zm (Zf (Yl h fun x49 h=>?_)))
 refine Yx h fun p51 h=>?_
 obtain ⟨x56,v57,h⟩:=h
 refine Zv (OV.loadT rfl rfl rfl v57) (Zc h Q2 ?_)
 rintro _ H58 ⟨rfl,h⟩
 exact GL.jump I3 () h trivial
 intro x33 H34 h
 replace h:=hR35 x33 H34 h
 exact GC.exit_ends (fun _ _ hf hs=>Qt rfl hf hs ⟨rfl,h⟩)
 intro x6 H7 h
 replace h:=hR8 x6 H7 h
 refine GC.seq (GC.seq ?_)
 obtain ⟨Hs59,hle60,h⟩:=h
 refine GC.any (Hs:=Hs59) (by kernel_rfl) hle60 (Zp 0 rfl Ym ?_)
 obtain ⟨p61,hp62,h⟩:=h
 refine Zp 1 rfl (OV.nilCheck (q:=p_w) rfl hp62) (Zp 2 rfl Yf (Zp 3 rfl Yf ?_))
 obtain ⟨x63,v64,h⟩:=h
 refine Zp 4 rfl (Yo v64) (GA.eff 5 rfl (by kernel_rfl) (Zc h Qn ?_))
 rintro _ H68 ⟨r66,r67,rfl,h⟩
 obtain ⟨hle65,h⟩:=h
 refine GA.back hle65 (GA.done (by kernel_rfl) (GL.nil (GC.region (Zm (Zf (Yl h fun x69 h=>?_))))))
 refine Zm (Zv (OV.makeFunc (vs:=[pv p_w]) (us:=[]) rfl rfl) (Zc h QR ?_))
 rintro _ H71 ⟨rfl,h⟩
 refine GL.nil ?_
 exact GC.exit_ends (fun _ _ hf hs=>Qt rfl hf hs ⟨rfl,h⟩)
def Qb4 (C:Ctx) (p_b:Option (Nat×Nat)) (p_s:Str) (K:Int→Value→Heap→Prop) (H:Heap):Prop:=
 QaI C p_b (fun H1=>
 nck p_b fun p2=>
 ldL H1 (p2.1,p2.2+1) fun x4=>
 apdG 5 [.int .u8 0] 1 x4 (bytesV p_s) (List.length p_s) (fun r6 H7=>
 nck p_b fun p8=>
 sttG (p8.1,p8.2+1) (slv r6) (fun H10=>
 K (List.length p_s:Int) .nilIface H10) H7) H1) H
theorem Qe3 (C p_b p_s K H) (h:Qb4 C p_b p_s K H):Ql C p_b p_s K H:=by
 refine Ye Tryz.func85 rfl Tryz.ntmps85 [(0,pv p_b),(1,sv p_s)] (Zo (Za (Za (GL.nil (Zo (Zm (Zc h QcP ?_)))))))
 rintro _ H1 ⟨rfl,h⟩
 refine GL.nil (Zo (Zm (Zm ?_)))
 obtain ⟨p2,hp3,h⟩:=h
 refine Zv (OV.nilCheck (q:=p_b) rfl hp3) (Zf (Yl h fun x4 h=>?_))
 refine Zm (GL.appendGStr (e:=5) (s:=x4) (u:=p_s) (bytes:=1) h trivial rfl rfl rfl ⟨⟨_,_,rfl,rfl,rfl,rfl,rfl,rfl⟩⟩ rfl ?_)
 intro r6 H7 h
 obtain ⟨p8,hp9,h⟩:=h
 refine Zv (OV.nilCheck (q:=p_b) rfl hp9) (Zf (GL.storeG (p:=(p8.1,p8.2+1)) (v:=slv r6) h trivial rfl rfl rfl rfl ?_))
 intro H10 h
 refine GL.nil (Zo (Zm (Zr (Za (Za (GL.nil ?_))))))
 exact Y2 I3 ⟨(List.length p_s:Int),.nilIface,rfl,h⟩
def QdN (C:Ctx) (p_b:Option (Nat×Nat)) (K:Str→Heap→Prop) (H:Heap):Prop:=
 dr H fun Hs1=>
 nck p_b fun p3=>
 ldL Hs1 (p3.1,p3.2+1) fun x5=>
 ((Sl.p x5=none∨Sl.cap x5≠0)∧Sl.x x5=none)∧
 nck p_b fun p9=>
 ldL Hs1 (p9.1,p9.2+1) fun x11=>
 ust 5 (Sl.p x5) (Sl.len x11:Int) (fun r14 H15=>
 Heap.le Hs1 H15∧
 K r14 H15) H
theorem QgJ (C p_b K H) (h:QdN C p_b K H):QK C p_b K H:=by
 refine Ye Tryz.func86 rfl Tryz.ntmps86 [(0,pv p_b)] (Zo (Za (GL.nil (GC.seq ?_))))
 obtain ⟨Hs1,hle2,h⟩:=h
 refine GC.any (Hs:=Hs1) (by kernel_rfl) hle2 (Zp 0 rfl Ym ?_)
 obtain ⟨p3,hp4,h⟩:=h
 refine Zp 1 rfl (OV.nilCheck (q:=p_b) rfl hp4) (Zp 2 rfl Yf ?_)
 obtain ⟨x5,v6,h⟩:=h
 refine Zp 3 rfl (Yo v6) ?_
 obtain ⟨⟨h7,h8⟩,h⟩:=h
 refine Zp 4 rfl (OV.usd (s:=x5) h7 h8 rfl) (Zp 5 rfl Ym ?_)
 obtain ⟨p9,hp10,h⟩:=h
 refine Zp 6 rfl (OV.nilCheck (q:=p_b) rfl hp10) (Zp 7 rfl Yf ?_)
 obtain ⟨x11,v12,h⟩:=h
 refine Zp 8 rfl (Yo v12) (Zp 9 rfl (OV.lenSl rfl rfl) (GA.eff 10 rfl (by kernel_rfl) (GL.ust (e:=5) (p:=(Sl.p x5)) (m:=(Sl.len x11:Int)) h trivial rfl rfl rfl rfl (by kernel_rfl) ?_)))
 intro r14 H15 h
 obtain ⟨hle13,h⟩:=h
 refine GA.back hle13 (Zp 11 rfl Ya (GA.done (by kernel_rfl) (GL.nil ?_)))
 exact Y1 I3 ⟨r14,rfl,h⟩
def QhQ (C:Ctx) (p_a:Qb) (p_b:Qb) (K:Bool→Heap→Prop) (H:Heap):Prop:=
 nw (Qb.c p_a) (fun b1 H2=>
 nw (Qb.c p_b) (fun b3 H4=>
 ldI H4 .u8 ((b1,0).1,(b1,0).2+0) fun x5=>
 ldI H4 .u8 ((b3,0).1,(b3,0).2+0) fun x7=>
 jn (α:=Bool) (fun b9 H17=>
 jn (α:=Bool) (fun b18 H28=>
 jn (α:=Bool) (fun b29 H39=>
 K b29 H39)
 (fun J30=>ift b18
 (ldL H28 ((b1,0).1,(b1,0).2+8) fun x33=>
 ldL H28 ((b3,0).1,(b3,0).2+8) fun x35=>
 Q7 C x33 x35 (fun r37 H38=>
 J30 r37 H38) H28)
 (J30 false H28)))
 (fun J19=>ift b9
 (ldT H17 Qe.c ((b1,0).1,(b1,0).2+4) fun x22=>
 ldT H17 Qe.c ((b3,0).1,(b3,0).2+4) fun x24=>
 Qbm C x22 x24 (fun r26 H27=>
 J19 r26 H27) H17)
 (J19 false H17)))
 (fun J10=>ift ((x5:Int) == x7)
 (ldS H4 ((b1,0).1,(b1,0).2+3) fun x13=>
 ldS H4 ((b3,0).1,(b3,0).2+3) fun x15=>
 J10 (x13 == x15) H4)
 (J10 false H4))) H2) H
theorem QlJ (C p_a p_b K H) (h:QhQ C p_a p_b K H):QaO C p_a p_b K H:=by
 refine Ye Tryz.func103 rfl Tryz.ntmps103 [(0,.agg (Qb.c p_a).toArray),(1,.agg (Qb.c p_b).toArray)] (Zo (GL.box (v:=.agg (Qb.c p_a).toArray) (cs:=Qb.c p_a) h trivial rfl rfl rfl ?_))
 intro b1 H2 h
 refine GL.box (v:=.agg (Qb.c p_b).toArray) (cs:=Qb.c p_b) h trivial rfl rfl rfl ?_
 intro b3 H4 h
 refine Za (GL.nil (Zo (Zf (Yl h fun x5 h=>?_))))
 refine Zf (Yl h fun x7 h=>?_)
 refine Zi (.bool ((x5:Int) == x7)) (Zm ?_)
 obtain ⟨J10,h,hR11⟩:=h
 refine GL.cut (α:=Bool) 6 J10 (fun b9=>[(16,.bool b9),(2,pv (some (b1,0))),(3,pv (some (b3,0)))]) ?_ ?_
 rcases h.em with ⟨u12,h⟩ | ⟨u12,h⟩
 refine Zu u12 Yf ?_
 obtain ⟨x13,v14,h⟩:=h
 refine Zu u12 (Yo v14) (Zu u12 Yf ?_)
 obtain ⟨x15,v16,h⟩:=h
 refine Zu u12 (Yo v16) (Zu u12 (OV.sbin (a:=x13) (b:=x15) (v:=.bool (x13 == x15)) rfl rfl rfl) (Zt u12 ?_))
 exact Yj I3 (x13 == x15) h
 refine Zk u12 (Zk u12 (Zk u12 (Zk u12 (Zk u12 (Zn u12 ?_)))))
 exact Yj I3 false h
 intro b9 H17 h
 replace h:=hR11 b9 H17 h
 refine Zm ?_
 obtain ⟨J19,h,hR20⟩:=h
 refine GL.cut (α:=Bool) 6 J19 (fun b18=>[(23,.bool b18),(2,pv (some (b1,0))),(3,pv (some (b3,0)))]) ?_ ?_
 rcases h.em with ⟨u21,h⟩ | ⟨u21,h⟩
 refine Zu u21 Yf ?_
 obtain ⟨x22,v23,h⟩:=h
 refine Zu u21 (OV.loadT rfl rfl rfl v23) (Zu u21 Yf ?_)
 obtain ⟨x24,v25,h⟩:=h
 refine Zu u21 (OV.loadT rfl rfl rfl v25) (GL.call h (Yt u21) rfl Qlj (vs:=[.agg (Qe.c x22).toArray,.agg (Qe.c x24).toArray]) rfl ?_)
 rintro _ H27 ⟨r26,rfl,h⟩
 refine Zt u21 ?_
 exact Yj I3 r26 h
 refine Zk u21 (Zk u21 (Zk u21 (Zk u21 (Zk u21 (Zn u21 ?_)))))
 exact Yj I3 false h
 intro b18 H28 h
 replace h:=hR20 b18 H28 h
 refine Zm ?_
 obtain ⟨J30,h,hR31⟩:=h
 refine GL.cut (α:=Bool) 6 J30 (fun b29=>[(30,.bool b29)]) ?_ ?_
 rcases h.em with ⟨u32,h⟩ | ⟨u32,h⟩
 refine Zu u32 Yf ?_
 obtain ⟨x33,v34,h⟩:=h
 refine Zu u32 (Yo v34) (Zu u32 Yf ?_)
 obtain ⟨x35,v36,h⟩:=h
 refine Zu u32 (Yo v36) (GL.call h (Yt u32) rfl Qeu (vs:=[slv x33,slv x35]) rfl ?_)
 rintro _ H38 ⟨r37,rfl,h⟩
 refine Zt u32 ?_
 exact Yj I3 r37 h
 refine Zk u32 (Zk u32 (Zk u32 (Zk u32 (Zk u32 (Zn u32 ?_)))))
 exact Yj I3 false h
 intro b29 H39 h
 replace h:=hR31 b29 H39 h
 refine Za (GL.nil ?_)
 exact Y1 I3 ⟨b29,rfl,h⟩
def Qdf (C:Ctx) (p_l:Sl) (p_depth:Value) (K:Int→Heap→Prop) (H:Heap):Prop:=
 lp (α:=Int×Int) (0,0) H (fun x1 J2 H3=>
 ift (decide ((x1.2:Int) < (Sl.len p_l:Int)))
 (ixa p_l x1.2 fun p5=>
 ldT H3 Qc.c (p5.1,p5.2+(x1.2:Int).toNat*6) fun x10=>
 nw (Qc.c Qc.zero) (fun b12 H13=>
 stT (b12,0) (Qc.c x10) (fun H14=>
 ldT H14 Qc.c (b12,0) fun x15=>
 callU Tryz.prog C p_depth [.agg (Qc.c x15).toArray] H14 (fun v H18=>∃ (r17:Int),v=.int .i64 r17∧
 J2 ((if r17 > x1.1 then r17 else x1.1:Int),(w .i64 (x1.2+1))) H18)) H13) H3)
 (K x1.1 H3))
theorem QfT (C p_l p_depth K H) (h:Qdf C p_l p_depth K H):QN C p_l p_depth K H:=by
 refine Ye Tryz.func104 rfl Tryz.ntmps104 [(0,slv p_l),(1,p_depth)] (Zo (Za (GL.nil (Zo (Za (GL.nil (GC.seq (Zo (Zm (Zq (Zm (GL.nil (GC.block (Yp h (fun x1=>[(5,.int .i64 x1.1),(10,.int .i64 x1.2),(1,p_depth),(8,slv p_l),(9,.int .i64 (Sl.len p_l:Int))]) ?_))))))))))))))
 intro x1 H3 J2 h
 refine Zo (Zi (.bool (decide ((x1.2:Int) < (Sl.len p_l:Int)))) (GL.nil (GC.seq (Yd h (fun u4 h=>?_) fun u4 h=>?_))))
 refine GC.skip (GC.seq (GC.block (Zo (Yx h fun p5 h=>?_))))
 obtain ⟨x10,v11,h⟩:=h
 refine Zv (OV.loadT rfl rfl rfl v11) (GL.alloc (cs:=Qc.c Qc.zero) h trivial rfl rfl rfl ?_)
 intro b12 H13 h
 refine GL.storeT (p:=(b12,0)) (vs:=Qc.c x10) h trivial rfl rfl rfl rfl ?_
 intro H14 h
 refine GL.nil (GC.region (Zm (Zm ?_)))
 obtain ⟨x15,v16,h⟩:=h
 refine Zv (OV.loadT rfl rfl rfl v16) (GL.callU (xv:=p_depth) (vs:=[.agg (Qc.c x15).toArray]) h trivial rfl rfl rfl ?_)
 rintro _ H18 ⟨r17,rfl,h⟩
 refine Zv (OV.maxI rfl rfl) (Za (GL.nil_to I3 (GC.region (Zi (.int .i64 (w .i64 (x1.2+1))) (Zm ?_)))))
 exact Yj I3 ((if r17 > x1.1 then r17 else x1.1:Int),(w .i64 (x1.2+1))) h
 refine GC.exit_to I3 (Zo (Zm (Za (GL.nil ?_))))
 exact Y1 I3 ⟨x1.1,rfl,h⟩
def Qky (C:Ctx) (p_t:Qc) (K:Int→Heap→Prop) (H:Heap):Prop:=
 nw (Qc.c p_t) (fun b1 H2=>
 ldL H2 ((b1,0).1,(b1,0).2+5) fun x3=>
 QM C x3 (.func (.func 107) (List.toArray []) (List.toArray []):Value) (fun r5 H6=>
 K r5 H6) H2) H
theorem QnL (C p_t K H) (h:Qky C p_t K H):Qdi C p_t K H:=by
 refine Ye Tryz.func105 rfl Tryz.ntmps105 [(0,.agg (Qc.c p_t).toArray)] (Zo (GL.box (v:=.agg (Qc.c p_t).toArray) (cs:=Qc.c p_t) h trivial rfl rfl rfl ?_))
 intro b1 H2 h
 refine Za (GL.nil (Zo (Zf (Yl h fun x3 h=>?_))))
 refine Zc h Qf4 ?_
 rintro _ H6 ⟨r5,rfl,h⟩
 refine Za (GL.nil ?_)
 exact Y1 I3 ⟨r5,rfl,h⟩
def Qdd (C:Ctx) (p_l:Sl) (p_depth:Value) (K:Int→Heap→Prop) (H:Heap):Prop:=
 lp (α:=Int×Int) (0,0) H (fun x1 J2 H3=>
 ift (decide ((x1.2:Int) < (Sl.len p_l:Int)))
 (ixa p_l x1.2 fun p5=>
 ldT H3 Qg.c (p5.1,p5.2+(x1.2:Int).toNat*2) fun x10=>
 nw (Qg.c Qg.zero) (fun b12 H13=>
 stT (b12,0) (Qg.c x10) (fun H14=>
 ldT H14 Qg.c (b12,0) fun x15=>
 callU Tryz.prog C p_depth [.agg (Qg.c x15).toArray] H14 (fun v H18=>∃ (r17:Int),v=.int .i64 r17∧
 J2 ((if r17 > x1.1 then r17 else x1.1:Int),(w .i64 (x1.2+1))) H18)) H13) H3)
 (K x1.1 H3))
theorem QfR (C p_l p_depth K H) (h:Qdd C p_l p_depth K H):QM C p_l p_depth K H:=by
 refine Ye Tryz.func106 rfl Tryz.ntmps106 [(0,slv p_l),(1,p_depth)] (Zo (Za (GL.nil (Zo (Za (GL.nil (GC.seq (Zo (Zm (Zq (Zm (GL.nil (GC.block (Yp h (fun x1=>[(5,.int .i64 x1.1),(10,.int .i64 x1.2),(1,p_depth),(8,slv p_l),(9,.int .i64 (Sl.len p_l:Int))]) ?_))))))))))))))
 intro x1 H3 J2 h
 refine Zo (Zi (.bool (decide ((x1.2:Int) < (Sl.len p_l:Int)))) (GL.nil (GC.seq (Yd h (fun u4 h=>?_) fun u4 h=>?_))))
 refine GC.skip (GC.seq (GC.block (Zo (Yx h fun p5 h=>?_))))
 obtain ⟨x10,v11,h⟩:=h
 refine Zv (OV.loadT rfl rfl rfl v11) (GL.alloc (cs:=Qg.c Qg.zero) h trivial rfl rfl rfl ?_)
 intro b12 H13 h
 refine GL.storeT (p:=(b12,0)) (vs:=Qg.c x10) h trivial rfl rfl rfl rfl ?_
 intro H14 h
 refine GL.nil (GC.region (Zm (Zm ?_)))
 obtain ⟨x15,v16,h⟩:=h
 refine Zv (OV.loadT rfl rfl rfl v16) (GL.callU (xv:=p_depth) (vs:=[.agg (Qg.c x15).toArray]) h trivial rfl rfl rfl ?_)
 rintro _ H18 ⟨r17,rfl,h⟩
 refine Zv (OV.maxI rfl rfl) (Za (GL.nil_to I3 (GC.region (Zi (.int .i64 (w .i64 (x1.2+1))) (Zm ?_)))))
 exact Yj I3 ((if r17 > x1.1 then r17 else x1.1:Int),(w .i64 (x1.2+1))) h
 refine GC.exit_to I3 (Zo (Zm (Za (GL.nil ?_))))
 exact Y1 I3 ⟨x1.1,rfl,h⟩
def QiD (C:Ctx) (p_c:Qg) (K:Int→Heap→Prop) (H:Heap):Prop:=
 nw (Qg.c p_c) (fun b1 H2=>
 ldL H2 ((b1,0).1,(b1,0).2+1) fun x3=>
 Qx C x3 (.func (.func 109) (List.toArray []) (List.toArray []):Value) (fun r5 H6=>
 K r5 H6) H2) H
theorem Qmm (C p_c K H) (h:QiD C p_c K H):QbV C p_c K H:=by
 refine Ye Tryz.func107 rfl Tryz.ntmps107 [(0,.agg (Qg.c p_c).toArray)] (Zo (GL.box (v:=.agg (Qg.c p_c).toArray) (cs:=Qg.c p_c) h trivial rfl rfl rfl ?_))
 intro b1 H2 h
 refine Za (GL.nil (Zo (Zf (Yl h fun x3 h=>?_))))
 refine Zc h QcR ?_
 rintro _ H6 ⟨r5,rfl,h⟩
 refine Za (GL.nil ?_)
 exact Y1 I3 ⟨r5,rfl,h⟩
def QcV (C:Ctx) (p_l:Sl) (p_depth:Value) (K:Int→Heap→Prop) (H:Heap):Prop:=
 lp (α:=Int×Int) (0,0) H (fun x1 J2 H3=>
 ift (decide ((x1.2:Int) < (Sl.len p_l:Int)))
 (ixa p_l x1.2 fun p5=>
 ldT H3 Qf.c (p5.1,p5.2+(x1.2:Int).toNat*3) fun x10=>
 nw (Qf.c Qf.zero) (fun b12 H13=>
 stT (b12,0) (Qf.c x10) (fun H14=>
 ldT H14 Qf.c (b12,0) fun x15=>
 callU Tryz.prog C p_depth [.agg (Qf.c x15).toArray] H14 (fun v H18=>∃ (r17:Int),v=.int .i64 r17∧
 J2 ((if r17 > x1.1 then r17 else x1.1:Int),(w .i64 (x1.2+1))) H18)) H13) H3)
 (K x1.1 H3))
theorem QfK (C p_l p_depth K H) (h:QcV C p_l p_depth K H):Qx C p_l p_depth K H:=by
 refine Ye Tryz.func108 rfl Tryz.ntmps108 [(0,slv p_l),(1,p_depth)] (Zo (Za (GL.nil (Zo (Za (GL.nil (GC.seq (Zo (Zm (Zq (Zm (GL.nil (GC.block (Yp h (fun x1=>[(5,.int .i64 x1.1),(10,.int .i64 x1.2),(1,p_depth),(8,slv p_l),(9,.int .i64 (Sl.len p_l:Int))]) ?_))))))))))))))
 intro x1 H3 J2 h
 refine Zo (Zi (.bool (decide ((x1.2:Int) < (Sl.len p_l:Int)))) (GL.nil (GC.seq (Yd h (fun u4 h=>?_) fun u4 h=>?_))))
 refine GC.skip (GC.seq (GC.block (Zo (Yx h fun p5 h=>?_))))
 obtain ⟨x10,v11,h⟩:=h
 refine Zv (OV.loadT rfl rfl rfl v11) (GL.alloc (cs:=Qf.c Qf.zero) h trivial rfl rfl rfl ?_)
 intro b12 H13 h
 refine GL.storeT (p:=(b12,0)) (vs:=Qf.c x10) h trivial rfl rfl rfl rfl ?_
 intro H14 h
 refine GL.nil (GC.region (Zm (Zm ?_)))
 obtain ⟨x15,v16,h⟩:=h
 refine Zv (OV.loadT rfl rfl rfl v16) (GL.callU (xv:=p_depth) (vs:=[.agg (Qf.c x15).toArray]) h trivial rfl rfl rfl ?_)
 rintro _ H18 ⟨r17,rfl,h⟩
 refine Zv (OV.maxI rfl rfl) (Za (GL.nil_to I3 (GC.region (Zi (.int .i64 (w .i64 (x1.2+1))) (Zm ?_)))))
 exact Yj I3 ((if r17 > x1.1 then r17 else x1.1:Int),(w .i64 (x1.2+1))) h
 refine GC.exit_to I3 (Zo (Zm (Za (GL.nil ?_))))
 exact Y1 I3 ⟨x1.1,rfl,h⟩
def QgC (C:Ctx) (p_f:Qf) (K:Int→Heap→Prop) (H:Heap):Prop:=
 nw (Qf.c p_f) (fun b1 H2=>
 ldT H2 Qd.c ((b1,0).1,(b1,0).2+1) fun x3=>
 Qbf C x3 (fun r5 H6=>
 K r5 H6) H2) H
theorem Qk4 (C p_f K H) (h:QgC C p_f K H):Qbr C p_f K H:=by
 refine Ye Tryz.func109 rfl Tryz.ntmps109 [(0,.agg (Qf.c p_f).toArray)] (Zo (GL.box (v:=.agg (Qf.c p_f).toArray) (cs:=Qf.c p_f) h trivial rfl rfl rfl ?_))
 intro b1 H2 h
 refine Za (GL.nil (Zo (Zf ?_)))
 obtain ⟨x3,v4,h⟩:=h
 refine Zv (OV.loadT rfl rfl rfl v4) (Zc h QhL ?_)
 rintro _ H6 ⟨r5,rfl,h⟩
 refine Za (GL.nil ?_)
 exact Y1 I3 ⟨r5,rfl,h⟩
def Qdq (C:Ctx) (p_l:Sl) (p_depth:Value) (K:Int→Heap→Prop) (H:Heap):Prop:=
 lp (α:=Int×Int) (0,0) H (fun x1 J2 H3=>
 ift (decide ((x1.2:Int) < (Sl.len p_l:Int)))
 (ixa p_l x1.2 fun p5=>
 ldT H3 Qh.c (p5.1,p5.2+(x1.2:Int).toNat*6) fun x10=>
 nw (Qh.c Qh.zero) (fun b12 H13=>
 stT (b12,0) (Qh.c x10) (fun H14=>
 ldT H14 Qh.c (b12,0) fun x15=>
 callU Tryz.prog C p_depth [.agg (Qh.c x15).toArray] H14 (fun v H18=>∃ (r17:Int),v=.int .i64 r17∧
 J2 ((if r17 > x1.1 then r17 else x1.1:Int),(w .i64 (x1.2+1))) H18)) H13) H3)
 (K x1.1 H3))
theorem Qgf (C p_l p_depth K H) (h:Qdq C p_l p_depth K H):QQ C p_l p_depth K H:=by
 refine Ye Tryz.func110 rfl Tryz.ntmps110 [(0,slv p_l),(1,p_depth)] (Zo (Za (GL.nil (Zo (Za (GL.nil (GC.seq (Zo (Zm (Zq (Zm (GL.nil (GC.block (Yp h (fun x1=>[(5,.int .i64 x1.1),(10,.int .i64 x1.2),(1,p_depth),(8,slv p_l),(9,.int .i64 (Sl.len p_l:Int))]) ?_))))))))))))))
 intro x1 H3 J2 h
 refine Zo (Zi (.bool (decide ((x1.2:Int) < (Sl.len p_l:Int)))) (GL.nil (GC.seq (Yd h (fun u4 h=>?_) fun u4 h=>?_))))
 refine GC.skip (GC.seq (GC.block (Zo (Yx h fun p5 h=>?_))))
 obtain ⟨x10,v11,h⟩:=h
 refine Zv (OV.loadT rfl rfl rfl v11) (GL.alloc (cs:=Qh.c Qh.zero) h trivial rfl rfl rfl ?_)
 intro b12 H13 h
 refine GL.storeT (p:=(b12,0)) (vs:=Qh.c x10) h trivial rfl rfl rfl rfl ?_
 intro H14 h
 refine GL.nil (GC.region (Zm (Zm ?_)))
 obtain ⟨x15,v16,h⟩:=h
 refine Zv (OV.loadT rfl rfl rfl v16) (GL.callU (xv:=p_depth) (vs:=[.agg (Qh.c x15).toArray]) h trivial rfl rfl rfl ?_)
 rintro _ H18 ⟨r17,rfl,h⟩
 refine Zv (OV.maxI rfl rfl) (Za (GL.nil_to I3 (GC.region (Zi (.int .i64 (w .i64 (x1.2+1))) (Zm ?_)))))
 exact Yj I3 ((if r17 > x1.1 then r17 else x1.1:Int),(w .i64 (x1.2+1))) h
 refine GC.exit_to I3 (Zo (Zm (Za (GL.nil ?_))))
 exact Y1 I3 ⟨x1.1,rfl,h⟩
def Qkz (C:Ctx) (p_x:Qh) (K:Int→Heap→Prop) (H:Heap):Prop:=
 nw (Qh.c p_x) (fun b1 H2=>
 ldL H2 ((b1,0).1,(b1,0).2+5) fun x3=>
 Qx C x3 (.func (.func 109) (List.toArray []) (List.toArray []):Value) (fun r5 H6=>
 K r5 H6) H2) H
theorem QnM (C p_x K H) (h:Qkz C p_x K H):Qdj C p_x K H:=by
 refine Ye Tryz.func111 rfl Tryz.ntmps111 [(0,.agg (Qh.c p_x).toArray)] (Zo (GL.box (v:=.agg (Qh.c p_x).toArray) (cs:=Qh.c p_x) h trivial rfl rfl rfl ?_))
 intro b1 H2 h
 refine Za (GL.nil (Zo (Zf (Yl h fun x3 h=>?_))))
 refine Zc h QcR ?_
 rintro _ H6 ⟨r5,rfl,h⟩
 refine Za (GL.nil ?_)
 exact Y1 I3 ⟨r5,rfl,h⟩
def Qd8 (C:Ctx) (p_l:Sl) (p_depth:Value) (K:Int→Heap→Prop) (H:Heap):Prop:=
 lp (α:=Int×Int) (0,0) H (fun x1 J2 H3=>
 ift (decide ((x1.2:Int) < (Sl.len p_l:Int)))
 (ixa p_l x1.2 fun p5=>
 ldT H3 Qj.c (p5.1,p5.2+(x1.2:Int).toNat*6) fun x10=>
 nw (Qj.c Qj.zero) (fun b12 H13=>
 stT (b12,0) (Qj.c x10) (fun H14=>
 ldT H14 Qj.c (b12,0) fun x15=>
 callU Tryz.prog C p_depth [.agg (Qj.c x15).toArray] H14 (fun v H18=>∃ (r17:Int),v=.int .i64 r17∧
 J2 ((if r17 > x1.1 then r17 else x1.1:Int),(w .i64 (x1.2+1))) H18)) H13) H3)
 (K x1.1 H3))
theorem Qhk (C p_l p_depth K H) (h:Qd8 C p_l p_depth K H):Q0 C p_l p_depth K H:=by
 refine Ye Tryz.func112 rfl Tryz.ntmps112 [(0,slv p_l),(1,p_depth)] (Zo (Za (GL.nil (Zo (Za (GL.nil (GC.seq (Zo (Zm (Zq (Zm (GL.nil (GC.block (Yp h (fun x1=>[(5,.int .i64 x1.1),(10,.int .i64 x1.2),(1,p_depth),(8,slv p_l),(9,.int .i64 (Sl.len p_l:Int))]) ?_))))))))))))))
 intro x1 H3 J2 h
 refine Zo (Zi (.bool (decide ((x1.2:Int) < (Sl.len p_l:Int)))) (GL.nil (GC.seq (Yd h (fun u4 h=>?_) fun u4 h=>?_))))
 refine GC.skip (GC.seq (GC.block (Zo (Yx h fun p5 h=>?_))))
 obtain ⟨x10,v11,h⟩:=h
 refine Zv (OV.loadT rfl rfl rfl v11) (GL.alloc (cs:=Qj.c Qj.zero) h trivial rfl rfl rfl ?_)
 intro b12 H13 h
 refine GL.storeT (p:=(b12,0)) (vs:=Qj.c x10) h trivial rfl rfl rfl rfl ?_
 intro H14 h
 refine GL.nil (GC.region (Zm (Zm ?_)))
 obtain ⟨x15,v16,h⟩:=h
 refine Zv (OV.loadT rfl rfl rfl v16) (GL.callU (xv:=p_depth) (vs:=[.agg (Qj.c x15).toArray]) h trivial rfl rfl rfl ?_)
 rintro _ H18 ⟨r17,rfl,h⟩
 refine Zv (OV.maxI rfl rfl) (Za (GL.nil_to I3 (GC.region (Zi (.int .i64 (w .i64 (x1.2+1))) (Zm ?_)))))
 exact Yj I3 ((if r17 > x1.1 then r17 else x1.1:Int),(w .i64 (x1.2+1))) h
 refine GC.exit_to I3 (Zo (Zm (Za (GL.nil ?_))))
 exact Y1 I3 ⟨x1.1,rfl,h⟩
def QkA (C:Ctx) (p_x:Qj) (K:Int→Heap→Prop) (H:Heap):Prop:=
 nw (Qj.c p_x) (fun b1 H2=>
 dr H2 fun Hs3=>
 ldL Hs3 ((b1,0).1,(b1,0).2+3) fun x5=>
 ldL Hs3 ((b1,0).1,(b1,0).2+5) fun x7=>
 QC C x5 (.func (.func 115) (List.toArray []) (List.toArray []):Value) (fun r10 H11=>
 Heap.le Hs3 H11∧
 Qz C x7 (.func (.func 117) (List.toArray []) (List.toArray []):Value) (fun r13 H14=>
 Heap.le Hs3 H14∧
 K (if r13 > r10 then r13 else r10:Int) H14) H11) H2) H
theorem QnN (C p_x K H) (h:QkA C p_x K H):Qdk C p_x K H:=by
 refine Ye Tryz.func113 rfl Tryz.ntmps113 [(0,.agg (Qj.c p_x).toArray)] (Zo (GL.box (v:=.agg (Qj.c p_x).toArray) (cs:=Qj.c p_x) h trivial rfl rfl rfl ?_))
 intro b1 H2 h
 refine Za (GL.nil (GC.seq ?_))
 obtain ⟨Hs3,hle4,h⟩:=h
 refine GC.any (Hs:=Hs3) (by kernel_rfl) hle4 (Zp 0 rfl Yf ?_)
 obtain ⟨x5,v6,h⟩:=h
 refine Zp 1 rfl (Yo v6) (Zp 3 rfl Yf ?_)
 obtain ⟨x7,v8,h⟩:=h
 refine Zp 4 rfl (Yo v8) (GA.eff 2 rfl (by kernel_rfl) (Zc h QbZ ?_))
 rintro _ H11 ⟨r10,rfl,h⟩
 obtain ⟨hle9,h⟩:=h
 refine GA.back hle9 (GA.eff 5 rfl (by kernel_rfl) (Zc h Qc9 ?_))
 rintro _ H14 ⟨r13,rfl,h⟩
 obtain ⟨hle12,h⟩:=h
 refine GA.back hle12 (Zp 6 rfl (OV.maxI rfl rfl) (Zp 7 rfl Ya (GA.done (by kernel_rfl) (GL.nil ?_))))
 exact Y1 I3 ⟨(if r13 > r10 then r13 else r10:Int),rfl,h⟩
def Qd7 (C:Ctx) (p_l:Sl) (p_depth:Value) (K:Int→Heap→Prop) (H:Heap):Prop:=
 lp (α:=Int×Int) (0,0) H (fun x1 J2 H3=>
 ift (decide ((x1.2:Int) < (Sl.len p_l:Int)))
 (ixa p_l x1.2 fun p5=>
 ldT H3 Qb.c (p5.1,p5.2+(x1.2:Int).toNat*9) fun x10=>
 nw (Qb.c Qb.zero) (fun b12 H13=>
 stT (b12,0) (Qb.c x10) (fun H14=>
 ldT H14 Qb.c (b12,0) fun x15=>
 callU Tryz.prog C p_depth [.agg (Qb.c x15).toArray] H14 (fun v H18=>∃ (r17:Int),v=.int .i64 r17∧
 J2 ((if r17 > x1.1 then r17 else x1.1:Int),(w .i64 (x1.2+1))) H18)) H13) H3)
 (K x1.1 H3))
theorem Qhj (C p_l p_depth K H) (h:Qd7 C p_l p_depth K H):QC C p_l p_depth K H:=by
 refine Ye Tryz.func114 rfl Tryz.ntmps114 [(0,slv p_l),(1,p_depth)] (Zo (Za (GL.nil (Zo (Za (GL.nil (GC.seq (Zo (Zm (Zq (Zm (GL.nil (GC.block (Yp h (fun x1=>[(5,.int .i64 x1.1),(10,.int .i64 x1.2),(1,p_depth),(8,slv p_l),(9,.int .i64 (Sl.len p_l:Int))]) ?_))))))))))))))
 intro x1 H3 J2 h
 refine Zo (Zi (.bool (decide ((x1.2:Int) < (Sl.len p_l:Int)))) (GL.nil (GC.seq (Yd h (fun u4 h=>?_) fun u4 h=>?_))))
 refine GC.skip (GC.seq (GC.block (Zo (Yx h fun p5 h=>?_))))
 obtain ⟨x10,v11,h⟩:=h
 refine Zv (OV.loadT rfl rfl rfl v11) (GL.alloc (cs:=Qb.c Qb.zero) h trivial rfl rfl rfl ?_)
 intro b12 H13 h
 refine GL.storeT (p:=(b12,0)) (vs:=Qb.c x10) h trivial rfl rfl rfl rfl ?_
 intro H14 h
 refine GL.nil (GC.region (Zm (Zm ?_)))
 obtain ⟨x15,v16,h⟩:=h
 refine Zv (OV.loadT rfl rfl rfl v16) (GL.callU (xv:=p_depth) (vs:=[.agg (Qb.c x15).toArray]) h trivial rfl rfl rfl ?_)
 rintro _ H18 ⟨r17,rfl,h⟩
 refine Zv (OV.maxI rfl rfl) (Za (GL.nil_to I3 (GC.region (Zi (.int .i64 (w .i64 (x1.2+1))) (Zm ?_)))))
 exact Yj I3 ((if r17 > x1.1 then r17 else x1.1:Int),(w .i64 (x1.2+1))) h
 refine GC.exit_to I3 (Zo (Zm (Za (GL.nil ?_))))
 exact Y1 I3 ⟨x1.1,rfl,h⟩
def Qlw (C:Ctx) (p_e:Qb) (K:Int→Heap→Prop) (H:Heap):Prop:=
 nw (Qb.c p_e) (fun b1 H2=>
 ldL H2 ((b1,0).1,(b1,0).2+8) fun x3=>
 QC C x3 (.func (.func 115) (List.toArray []) (List.toArray []):Value) (fun r5 H6=>
 K (w .i64 (1+r5)) H6) H2) H
theorem Qoy (C p_e K H) (h:Qlw C p_e K H):QdW C p_e K H:=by
 refine Ye Tryz.func115 rfl Tryz.ntmps115 [(0,.agg (Qb.c p_e).toArray)] (Zo (GL.box (v:=.agg (Qb.c p_e).toArray) (cs:=Qb.c p_e) h trivial rfl rfl rfl ?_))
 intro b1 H2 h
 refine Za (GL.nil (Zo (Zf (Yl h fun x3 h=>?_))))
 refine Zc h QbZ ?_
 rintro _ H6 ⟨r5,rfl,h⟩
 refine Zi (.int .i64 (w .i64 (1+r5))) (Za (GL.nil ?_))
 exact Y1 I3 ⟨(w .i64 (1+r5)),rfl,h⟩
def Qde (C:Ctx) (p_l:Sl) (p_depth:Value) (K:Int→Heap→Prop) (H:Heap):Prop:=
 lp (α:=Int×Int) (0,0) H (fun x1 J2 H3=>
 ift (decide ((x1.2:Int) < (Sl.len p_l:Int)))
 (ixa p_l x1.2 fun p5=>
 ldT H3 Qk.c (p5.1,p5.2+(x1.2:Int).toNat*5) fun x10=>
 nw (Qk.c Qk.zero) (fun b12 H13=>
 stT (b12,0) (Qk.c x10) (fun H14=>
 ldT H14 Qk.c (b12,0) fun x15=>
 callU Tryz.prog C p_depth [.agg (Qk.c x15).toArray] H14 (fun v H18=>∃ (r17:Int),v=.int .i64 r17∧
 J2 ((if r17 > x1.1 then r17 else x1.1:Int),(w .i64 (x1.2+1))) H18)) H13) H3)
 (K x1.1 H3))
theorem QfS (C p_l p_depth K H) (h:Qde C p_l p_depth K H):Qz C p_l p_depth K H:=by
 refine Ye Tryz.func116 rfl Tryz.ntmps116 [(0,slv p_l),(1,p_depth)] (Zo (Za (GL.nil (Zo (Za (GL.nil (GC.seq (Zo (Zm (Zq (Zm (GL.nil (GC.block (Yp h (fun x1=>[(5,.int .i64 x1.1),(10,.int .i64 x1.2),(1,p_depth),(8,slv p_l),(9,.int .i64 (Sl.len p_l:Int))]) ?_))))))))))))))
 intro x1 H3 J2 h
 refine Zo (Zi (.bool (decide ((x1.2:Int) < (Sl.len p_l:Int)))) (GL.nil (GC.seq (Yd h (fun u4 h=>?_) fun u4 h=>?_))))
 refine GC.skip (GC.seq (GC.block (Zo (Yx h fun p5 h=>?_))))
 obtain ⟨x10,v11,h⟩:=h
 refine Zv (OV.loadT rfl rfl rfl v11) (GL.alloc (cs:=Qk.c Qk.zero) h trivial rfl rfl rfl ?_)
 intro b12 H13 h
 refine GL.storeT (p:=(b12,0)) (vs:=Qk.c x10) h trivial rfl rfl rfl rfl ?_
 intro H14 h
 refine GL.nil (GC.region (Zm (Zm ?_)))
 obtain ⟨x15,v16,h⟩:=h
 refine Zv (OV.loadT rfl rfl rfl v16) (GL.callU (xv:=p_depth) (vs:=[.agg (Qk.c x15).toArray]) h trivial rfl rfl rfl ?_)
 rintro _ H18 ⟨r17,rfl,h⟩
 refine Zv (OV.maxI rfl rfl) (Za (GL.nil_to I3 (GC.region (Zi (.int .i64 (w .i64 (x1.2+1))) (Zm ?_)))))
 exact Yj I3 ((if r17 > x1.1 then r17 else x1.1:Int),(w .i64 (x1.2+1))) h
 refine GC.exit_to I3 (Zo (Zm (Za (GL.nil ?_))))
 exact Y1 I3 ⟨x1.1,rfl,h⟩
def QfE (C:Ctx) (p_x:Qk) (K:Int→Heap→Prop) (H:Heap):Prop:=
 nw (Qk.c p_x) (fun b1 H2=>
 ldL H2 ((b1,0).1,(b1,0).2+4) fun x3=>
 QC C x3 (.func (.func 115) (List.toArray []) (List.toArray []):Value) (fun r5 H6=>
 K r5 H6) H2) H
theorem Qj9 (C p_x K H) (h:QfE C p_x K H):QaZ C p_x K H:=by
 refine Ye Tryz.func117 rfl Tryz.ntmps117 [(0,.agg (Qk.c p_x).toArray)] (Zo (GL.box (v:=.agg (Qk.c p_x).toArray) (cs:=Qk.c p_x) h trivial rfl rfl rfl ?_))
 intro b1 H2 h
 refine Za (GL.nil (Zo (Zf (Yl h fun x3 h=>?_))))
 refine Zc h QbZ ?_
 rintro _ H6 ⟨r5,rfl,h⟩
 refine Za (GL.nil ?_)
 exact Y1 I3 ⟨r5,rfl,h⟩
def QdQ (C:Ctx) (p_l:Sl) (p_depth:Value) (K:Int→Heap→Prop) (H:Heap):Prop:=
 lp (α:=Int×Int) (0,0) H (fun x1 J2 H3=>
 ift (decide ((x1.2:Int) < (Sl.len p_l:Int)))
 (ixa p_l x1.2 fun p5=>
 ldT H3 Qm.c (p5.1,p5.2+(x1.2:Int).toNat*4) fun x10=>
 nw (Qm.c Qm.zero) (fun b12 H13=>
 stT (b12,0) (Qm.c x10) (fun H14=>
 ldT H14 Qm.c (b12,0) fun x15=>
 callU Tryz.prog C p_depth [.agg (Qm.c x15).toArray] H14 (fun v H18=>∃ (r17:Int),v=.int .i64 r17∧
 J2 ((if r17 > x1.1 then r17 else x1.1:Int),(w .i64 (x1.2+1))) H18)) H13) H3)
 (K x1.1 H3))
theorem QgP (C p_l p_depth K H) (h:QdQ C p_l p_depth K H):QU C p_l p_depth K H:=by
 refine Ye Tryz.func118 rfl Tryz.ntmps118 [(0,slv p_l),(1,p_depth)] (Zo (Za (GL.nil (Zo (Za (GL.nil (GC.seq (Zo (Zm (Zq (Zm (GL.nil (GC.block (Yp h (fun x1=>[(5,.int .i64 x1.1),(10,.int .i64 x1.2),(1,p_depth),(8,slv p_l),(9,.int .i64 (Sl.len p_l:Int))]) ?_))))))))))))))
 intro x1 H3 J2 h
 refine Zo (Zi (.bool (decide ((x1.2:Int) < (Sl.len p_l:Int)))) (GL.nil (GC.seq (Yd h (fun u4 h=>?_) fun u4 h=>?_))))
 refine GC.skip (GC.seq (GC.block (Zo (Yx h fun p5 h=>?_))))
 obtain ⟨x10,v11,h⟩:=h
 refine Zv (OV.loadT rfl rfl rfl v11) (GL.alloc (cs:=Qm.c Qm.zero) h trivial rfl rfl rfl ?_)
 intro b12 H13 h
 refine GL.storeT (p:=(b12,0)) (vs:=Qm.c x10) h trivial rfl rfl rfl rfl ?_
 intro H14 h
 refine GL.nil (GC.region (Zm (Zm ?_)))
 obtain ⟨x15,v16,h⟩:=h
 refine Zv (OV.loadT rfl rfl rfl v16) (GL.callU (xv:=p_depth) (vs:=[.agg (Qm.c x15).toArray]) h trivial rfl rfl rfl ?_)
 rintro _ H18 ⟨r17,rfl,h⟩
 refine Zv (OV.maxI rfl rfl) (Za (GL.nil_to I3 (GC.region (Zi (.int .i64 (w .i64 (x1.2+1))) (Zm ?_)))))
 exact Yj I3 ((if r17 > x1.1 then r17 else x1.1:Int),(w .i64 (x1.2+1))) h
 refine GC.exit_to I3 (Zo (Zm (Za (GL.nil ?_))))
 exact Y1 I3 ⟨x1.1,rfl,h⟩
def QkB (C:Ctx) (p_x:Qm) (K:Int→Heap→Prop) (H:Heap):Prop:=
 nw (Qm.c p_x) (fun b1 H2=>
 ldL H2 ((b1,0).1,(b1,0).2+3) fun x3=>
 Qz C x3 (.func (.func 117) (List.toArray []) (List.toArray []):Value) (fun r5 H6=>
 K r5 H6) H2) H
theorem QnO (C p_x K H) (h:QkB C p_x K H):Qdl C p_x K H:=by
 refine Ye Tryz.func119 rfl Tryz.ntmps119 [(0,.agg (Qm.c p_x).toArray)] (Zo (GL.box (v:=.agg (Qm.c p_x).toArray) (cs:=Qm.c p_x) h trivial rfl rfl rfl ?_))
 intro b1 H2 h
 refine Za (GL.nil (Zo (Zf (Yl h fun x3 h=>?_))))
 refine Zc h Qc9 ?_
 rintro _ H6 ⟨r5,rfl,h⟩
 refine Za (GL.nil ?_)
 exact Y1 I3 ⟨r5,rfl,h⟩
def Qmc (C:Ctx) (p_s:Str) (K:Bool→Heap→Prop) (H:Heap):Prop:=
 lp (α:=Int) 0 H (fun x1 J2 H3=>
 ift (decide ((x1:Int) < (List.length p_s:Int)))
 (ixs p_s x1 fun c5=>
 ift (!(((((decide (((c5.toNat:Int):Int) ≥ 97)) && (decide (((c5.toNat:Int):Int)≤122))) || ((decide (((c5.toNat:Int):Int) ≥ 65)) && (decide (((c5.toNat:Int):Int)≤90)))) || ((decide (((c5.toNat:Int):Int) ≥ 48)) && (decide (((c5.toNat:Int):Int)≤57)))) || (((c5.toNat:Int):Int) == 95)))
 (K false H3)
 (J2 (w .i64 (x1+1)) H3))
 (K (decide (((List.length p_s:Int):Int)≤32)) H3))
theorem Qpm (C p_s K H) (h:Qmc C p_s K H):Qii C p_s K H:=by
 refine Ye Tryz.func120 rfl Tryz.ntmps120 [(0,sv p_s)] (Zo (Za (GL.nil (GC.seq (Zo (Zm (Zr (Zm (GL.nil (GC.block (Yp h (fun x1=>[(7,.int .i64 x1),(0,sv p_s),(6,.int .i64 (List.length p_s:Int))]) ?_)))))))))))
 intro x1 H3 J2 h
 refine Zo (Zi (.bool (decide ((x1:Int) < (List.length p_s:Int)))) (GL.nil (GC.seq (Yd h (fun hc4 h=>?_) fun hc4 h=>?_))))
 refine GC.skip (GC.seq (GC.block (Zo (Zm (Za (GL.nil (Zo (Zm (Zm (Ys h fun c5 h=>?_))))))))))
 refine Za (GL.nil (Zo (Zm (Zi (.bool (decide (((c5.toNat:Int):Int) ≥ 97))) (Zm (GL.cut0 3 [(18,.bool ((decide (((c5.toNat:Int):Int) ≥ 97)) && (decide (((c5.toNat:Int):Int)≤122)))),(0,sv p_s),(4,.int .u8 (c5.toNat:Int)),(6,.int .i64 (List.length p_s:Int)),(7,.int .i64 x1)] ?_ ?_))))))
 rcases Zb (decide (((c5.toNat:Int):Int) ≥ 97)) with hc8 | hc8
 refine Zu hc8 Ym (Zu hc8 (OV.ibin (v:=.bool (decide (((c5.toNat:Int):Int)≤122))) rfl rfl rfl) (Zt hc8 ?_))
 exact GL.jump0 I3 () rfl ⟨(by rw [hc8]; rfl),rfl,rfl,rfl,rfl,trivial⟩
 refine Zk hc8 (Zk hc8 (Zn hc8 ?_))
 exact GL.jump0 I3 () rfl ⟨(by rw [hc8]; rfl),rfl,rfl,rfl,rfl,trivial⟩
 refine Zm (GL.cut0 7 [(26,.bool (((decide (((c5.toNat:Int):Int) ≥ 97)) && (decide (((c5.toNat:Int):Int)≤122))) || ((decide (((c5.toNat:Int):Int) ≥ 65)) && (decide (((c5.toNat:Int):Int)≤90))))),(0,sv p_s),(4,.int .u8 (c5.toNat:Int)),(6,.int .i64 (List.length p_s:Int)),(7,.int .i64 x1)] ?_ ?_)
 rcases Zb ((decide (((c5.toNat:Int):Int) ≥ 97)) && (decide (((c5.toNat:Int):Int)≤122))) with hc9 | hc9
 refine Zk hc9 (Zk hc9 (Zk hc9 (GL.skip ⟨_,rfl,.inr rfl⟩ rfl (GL.skip ⟨_,rfl,.inr rfl⟩ rfl (Zk hc9 (Zt hc9 ?_))))))
 exact GL.jump0 I3 () rfl ⟨(by rw [hc9]; rfl),rfl,rfl,rfl,rfl,trivial⟩
 refine Zu hc9 Ym (Zu hc9 (OV.ibin (v:=.bool (decide (((c5.toNat:Int):Int) ≥ 65))) rfl rfl rfl) (Zu hc9 Ym (GL.cut0 3 [(25,.bool ((decide (((c5.toNat:Int):Int) ≥ 65)) && (decide (((c5.toNat:Int):Int)≤90)))),(0,sv p_s),(4,.int .u8 (c5.toNat:Int)),(6,.int .i64 (List.length p_s:Int)),(7,.int .i64 x1),(19,.bool ((decide (((c5.toNat:Int):Int) ≥ 97)) && (decide (((c5.toNat:Int):Int)≤122))))] ?_ ?_)))
 rcases Zb (decide (((c5.toNat:Int):Int) ≥ 65)) with hc10 | hc10
 refine Zu hc10 Ym (Zu hc10 (OV.ibin (v:=.bool (decide (((c5.toNat:Int):Int)≤90))) rfl rfl rfl) (Zu hc9 (OV.pickT rfl hc10 rfl) ?_))
 exact GL.jump0 I3 () rfl ⟨(by rw [hc10]; rfl),rfl,rfl,rfl,rfl,rfl,trivial⟩
 refine Zk hc10 (Zk hc10 (Zu hc9 (OV.pickF rfl hc10 rfl) ?_))
 exact GL.jump0 I3 () rfl ⟨(by rw [hc10]; rfl),rfl,rfl,rfl,rfl,rfl,trivial⟩
 refine Zn hc9 ?_
 exact GL.jump0 I3 () rfl ⟨(by rw [hc9]; rfl),rfl,rfl,rfl,rfl,trivial⟩
 refine Zm (GL.cut0 7 [(34,.bool ((((decide (((c5.toNat:Int):Int) ≥ 97)) && (decide (((c5.toNat:Int):Int)≤122))) || ((decide (((c5.toNat:Int):Int) ≥ 65)) && (decide (((c5.toNat:Int):Int)≤90)))) || ((decide (((c5.toNat:Int):Int) ≥ 48)) && (decide (((c5.toNat:Int):Int)≤57))))),(0,sv p_s),(4,.int .u8 (c5.toNat:Int)),(6,.int .i64 (List.length p_s:Int)),(7,.int .i64 x1)] ?_ ?_)
 rcases Zb (((decide (((c5.toNat:Int):Int) ≥ 97)) && (decide (((c5.toNat:Int):Int)≤122))) || ((decide (((c5.toNat:Int):Int) ≥ 65)) && (decide (((c5.toNat:Int):Int)≤90)))) with hc11 | hc11
 refine Zk hc11 (Zk hc11 (Zk hc11 (GL.skip ⟨_,rfl,.inr rfl⟩ rfl (GL.skip ⟨_,rfl,.inr rfl⟩ rfl (Zk hc11 (Zt hc11 ?_))))))
 exact GL.jump0 I3 () rfl ⟨(by rw [hc11]; rfl),rfl,rfl,rfl,rfl,trivial⟩
 refine Zu hc11 Ym (Zu hc11 (OV.ibin (v:=.bool (decide (((c5.toNat:Int):Int) ≥ 48))) rfl rfl rfl) (Zu hc11 Ym (GL.cut0 3 [(33,.bool ((decide (((c5.toNat:Int):Int) ≥ 48)) && (decide (((c5.toNat:Int):Int)≤57)))),(0,sv p_s),(4,.int .u8 (c5.toNat:Int)),(6,.int .i64 (List.length p_s:Int)),(7,.int .i64 x1),(27,.bool (((decide (((c5.toNat:Int):Int) ≥ 97)) && (decide (((c5.toNat:Int):Int)≤122))) || ((decide (((c5.toNat:Int):Int) ≥ 65)) && (decide (((c5.toNat:Int):Int)≤90)))))] ?_ ?_)))
 rcases Zb (decide (((c5.toNat:Int):Int) ≥ 48)) with hc12 | hc12
 refine Zu hc12 Ym (Zu hc12 (OV.ibin (v:=.bool (decide (((c5.toNat:Int):Int)≤57))) rfl rfl rfl) (Zu hc11 (OV.pickT rfl hc12 rfl) ?_))
 exact GL.jump0 I3 () rfl ⟨(by rw [hc12]; rfl),rfl,rfl,rfl,rfl,rfl,trivial⟩
 refine Zk hc12 (Zk hc12 (Zu hc11 (OV.pickF rfl hc12 rfl) ?_))
 exact GL.jump0 I3 () rfl ⟨(by rw [hc12]; rfl),rfl,rfl,rfl,rfl,rfl,trivial⟩
 refine Zn hc11 ?_
 exact GL.jump0 I3 () rfl ⟨(by rw [hc11]; rfl),rfl,rfl,rfl,rfl,trivial⟩
 refine Zm (GL.cut0 3 [(38,.bool (((((decide (((c5.toNat:Int):Int) ≥ 97)) && (decide (((c5.toNat:Int):Int)≤122))) || ((decide (((c5.toNat:Int):Int) ≥ 65)) && (decide (((c5.toNat:Int):Int)≤90)))) || ((decide (((c5.toNat:Int):Int) ≥ 48)) && (decide (((c5.toNat:Int):Int)≤57)))) || (((c5.toNat:Int):Int) == 95))),(0,sv p_s),(6,.int .i64 (List.length p_s:Int)),(7,.int .i64 x1)] ?_ ?_)
 rcases Zb ((((decide (((c5.toNat:Int):Int) ≥ 97)) && (decide (((c5.toNat:Int):Int)≤122))) || ((decide (((c5.toNat:Int):Int) ≥ 65)) && (decide (((c5.toNat:Int):Int)≤90)))) || ((decide (((c5.toNat:Int):Int) ≥ 48)) && (decide (((c5.toNat:Int):Int)≤57)))) with hc13 | hc13
 refine Zk hc13 (Zk hc13 (Zt hc13 ?_))
 exact GL.jump0 I3 () rfl ⟨(by rw [hc13]; rfl),rfl,rfl,rfl,trivial⟩
 refine Zu hc13 Ym (Zu hc13 (OV.ibin (v:=.bool (((c5.toNat:Int):Int) == 95)) rfl rfl rfl) (Zn hc13 ?_))
 exact GL.jump0 I3 () rfl ⟨(by rw [hc13]; rfl),rfl,rfl,rfl,trivial⟩
 refine Zv (OV.not rfl) (GL.nil (Yd h (fun hc14 h=>?_) fun hc14 h=>?_))
 refine Zo (Za (GL.nil ?_))
 exact Y1 I3 ⟨false,rfl,h⟩
 refine GC.skip_to I3 (GC.region (Zi (.int .i64 (w .i64 (x1+1))) (Zm ?_)))
 exact Yj I3 (w .i64 (x1+1)) h
 refine GC.exit_to I3 (Zo (Zm (Zr (Zi (.bool (decide (((List.length p_s:Int):Int)≤32))) (Za (GL.nil ?_))))))
 exact Y1 I3 ⟨(decide (((List.length p_s:Int):Int)≤32)),rfl,h⟩
def QhT (C:Ctx) (p_x:Qp) (v0:Nat×Nat) (K:Bool→Heap→Prop) (H:Heap):Prop:=
 nw (Qp.c p_x) (fun b1 H2=>
 ldV H2 v0 fun x3=>
 ldT H2 Qp.c (b1,0) fun x5=>
 callU Tryz.prog C x3 [.agg (Qp.c x5).toArray] H2 (fun v H8=>∃ (r7:Bool),v=.bool r7∧
 K (!r7) H8)) H
theorem Qhh (C p_x v0 K H) (h:QhT C p_x v0 K H):Qig C p_x v0 K H:=by
 refine Ye Tryz.func122 rfl Tryz.ntmps122 [(0,.agg (Qp.c p_x).toArray),(1,pv (some v0))] (Zo (GL.box (v:=.agg (Qp.c p_x).toArray) (cs:=Qp.c p_x) h trivial rfl rfl rfl ?_))
 intro b1 H2 h
 refine Za (GL.nil (Zo (Yl h fun x3 h=>?_)))
 obtain ⟨x5,hr6,h⟩:=h
 refine Zv (OV.loadT rfl rfl rfl hr6) (GL.callU (xv:=x3) (vs:=[.agg (Qp.c x5).toArray]) h trivial rfl rfl rfl ?_)
 rintro _ H8 ⟨r7,rfl,h⟩
 refine Zv (OV.not rfl) (Za (GL.nil ?_))
 exact Y1 I3 ⟨(!r7),rfl,h⟩
def Qat (C:Ctx) (p_s:Sl) (p_f:Value) (K:Bool→Heap→Prop) (H:Heap):Prop:=
 QaT C p_s p_f (fun r1 H2=>
 K (decide ((r1:Int) ≥ 0)) H2) H
theorem QbN (C p_s p_f K H) (h:Qat C p_s p_f K H):QaA C p_s p_f K H:=by
 refine Ye Tryz.func123 rfl Tryz.ntmps123 [(0,slv p_s),(1,p_f)] (Zo (Za (GL.nil (Zo (Zm (Zm (Zc h Qck ?_)))))))
 rintro _ H2 ⟨r1,rfl,h⟩
 refine Zi (.bool (decide ((r1:Int) ≥ 0))) (Za (GL.nil ?_))
 exact Y1 I3 ⟨(decide ((r1:Int) ≥ 0)),rfl,h⟩
def Qg9 (C:Ctx) (p_x:Qc) (v0:Nat×Nat) (K:Bool→Heap→Prop) (H:Heap):Prop:=
 nw (Qc.c p_x) (fun b1 H2=>
 ldV H2 v0 fun x3=>
 ldT H2 Qc.c (b1,0) fun x5=>
 callU Tryz.prog C x3 [.agg (Qc.c x5).toArray] H2 (fun v H8=>∃ (r7:Bool),v=.bool r7∧
 K (!r7) H8)) H
theorem QgN (C p_x v0 K H) (h:Qg9 C p_x v0 K H):Qhu C p_x v0 K H:=by
 refine Ye Tryz.func124 rfl Tryz.ntmps124 [(0,.agg (Qc.c p_x).toArray),(1,pv (some v0))] (Zo (GL.box (v:=.agg (Qc.c p_x).toArray) (cs:=Qc.c p_x) h trivial rfl rfl rfl ?_))
 intro b1 H2 h
 refine Za (GL.nil (Zo (Yl h fun x3 h=>?_)))
 obtain ⟨x5,hr6,h⟩:=h
 refine Zv (OV.loadT rfl rfl rfl hr6) (GL.callU (xv:=x3) (vs:=[.agg (Qc.c x5).toArray]) h trivial rfl rfl rfl ?_)
 rintro _ H8 ⟨r7,rfl,h⟩
 refine Zv (OV.not rfl) (Za (GL.nil ?_))
 exact Y1 I3 ⟨(!r7),rfl,h⟩
def QgB (C:Ctx) (p_l:Sl) (p_is:Value) (K:Bool→Heap→Prop) (H:Heap):Prop:=
 (Value.cells p_is = #[p_is])∧nw ([p_is]) (fun b1 H2=>
 Qbt C p_l (.func (.func 190) (List.toArray []) (List.toArray [pv (some (b1,0))]):Value) (fun r4 H5=>
 K (!r4) H5) H2) H
theorem Qk3 (C p_l p_is K H) (h:QgB C p_l p_is K H):QaB C p_l p_is K H:=by
 refine Ye Tryz.func125 rfl Tryz.ntmps125 [(0,slv p_l),(1,p_is)] (Zo ?_)
 obtain ⟨u3,h⟩:=h
 refine GL.box (v:=p_is) (cs:=[p_is]) h trivial rfl rfl u3 ?_
 intro b1 H2 h
 refine Za (GL.nil (Zo (Zm (Zv (OV.makeFunc (vs:=[]) (us:=[pv (some (b1,0))]) rfl rfl) (Zc h QdI ?_)))))
 rintro _ H5 ⟨r4,rfl,h⟩
 refine Zv (OV.not rfl) (Za (GL.nil ?_))
 exact Y1 I3 ⟨(!r4),rfl,h⟩
def Qlx (C:Ctx) (p_s:Str) (K:Bool→Heap→Prop) (H:Heap):Prop:=
 Qca C p_s [39] (fun r1 H2=>
 jn (α:=Bool) (fun b3 H15=>
 K b3 H15)
 (fun J4=>ift r1
 (slS p_s 1 (List.length p_s:Int) fun t7=>
 Qa0 C t7 (fun r13 H14=>
 J4 r13 H14) H2)
 (J4 false H2))) H
theorem Qoz (C p_s K H) (h:Qlx C p_s K H):Qjm C p_s K H:=by
 refine Ye Tryz.func126 rfl Tryz.ntmps126 [(0,sv p_s)] (Zo (Za (GL.nil (Zo (Zm (Zc h Qfw ?_))))))
 rintro _ H2 ⟨r1,rfl,h⟩
 refine Zm ?_
 obtain ⟨J4,h,hR5⟩:=h
 refine GL.cut (α:=Bool) 4 J4 (fun b3=>[(9,.bool b3)]) ?_ ?_
 rcases h.em with ⟨u6,h⟩ | ⟨u6,h⟩
 refine Zu u6 Ym ?_
 obtain ⟨h8,h9,h10,t7,h11,h⟩:=h
 refine Zu u6 (OV.sliceStr (s:=p_s) h8 h9 h10 h11 rfl rfl rfl rfl rfl rfl) (GL.call h (Yt u6) rfl Qbb (vs:=[sv t7]) rfl ?_)
 rintro _ H14 ⟨r13,rfl,h⟩
 refine Zt u6 ?_
 exact Yj I3 r13 h
 refine Zk u6 (Zk u6 (Zk u6 (Zn u6 ?_)))
 exact Yj I3 false h
 intro b3 H15 h
 replace h:=hR5 b3 H15 h
 refine Za (GL.nil ?_)
 exact Y1 I3 ⟨b3,rfl,h⟩
def QeA (C:Ctx) (p_l:Sl) (p_is:Value) (K:Bool→Heap→Prop) (H:Heap):Prop:=
 (Value.cells p_is = #[p_is])∧nw ([p_is]) (fun b1 H2=>
 QD C p_l (.func (.func 191) (List.toArray []) (List.toArray [pv (some (b1,0))]):Value) (fun r4 H5=>
 K (!r4) H5) H2) H
theorem Qh3 (C p_l p_is K H) (h:QeA C p_l p_is K H):Qab C p_l p_is K H:=by
 refine Ye Tryz.func127 rfl Tryz.ntmps127 [(0,slv p_l),(1,p_is)] (Zo ?_)
 obtain ⟨u3,h⟩:=h
 refine GL.box (v:=p_is) (cs:=[p_is]) h trivial rfl rfl u3 ?_
 intro b1 H2 h
 refine Za (GL.nil (Zo (Zm (Zv (OV.makeFunc (vs:=[]) (us:=[pv (some (b1,0))]) rfl rfl) (Zc h Qar ?_)))))
 rintro _ H5 ⟨r4,rfl,h⟩
 refine Zv (OV.not rfl) (Za (GL.nil ?_))
 exact Y1 I3 ⟨(!r4),rfl,h⟩
def QhV (C:Ctx) (p_c:Qg) (K:Bool→Heap→Prop) (H:Heap):Prop:=
 nw (Qg.c p_c) (fun b1 H2=>
 ldS H2 ((b1,0).1,(b1,0).2+0) fun x3=>
 Qa0 C x3 (fun r5 H6=>
 jn (α:=Bool) (fun b7 H15=>
 K b7 H15)
 (fun J8=>ift r5
 (ldL H6 ((b1,0).1,(b1,0).2+1) fun x11=>
 QbA C x11 false (fun r13 H14=>
 J8 r13 H14) H6)
 (J8 false H6))) H2) H
theorem QlM (C p_c K H) (h:QhV C p_c K H):Qby C p_c K H:=by
 refine Ye Tryz.func128 rfl Tryz.ntmps128 [(0,.agg (Qg.c p_c).toArray)] (Zo (GL.box (v:=.agg (Qg.c p_c).toArray) (cs:=Qg.c p_c) h trivial rfl rfl rfl ?_))
 intro b1 H2 h
 refine Za (GL.nil (Zo (Zf (Yl h fun x3 h=>?_))))
 refine Zc h Qbb ?_
 rintro _ H6 ⟨r5,rfl,h⟩
 refine Zm ?_
 obtain ⟨J8,h,hR9⟩:=h
 refine GL.cut (α:=Bool) 4 J8 (fun b7=>[(10,.bool b7)]) ?_ ?_
 rcases h.em with ⟨u10,h⟩ | ⟨u10,h⟩
 refine Zu u10 Yf ?_
 obtain ⟨x11,v12,h⟩:=h
 refine Zu u10 (Yo v12) (GL.call h (Yt u10) rfl Qko (vs:=[slv x11,.bool false]) rfl ?_)
 rintro _ H14 ⟨r13,rfl,h⟩
 refine Zt u10 ?_
 exact Yj I3 r13 h
 refine Zk u10 (Zk u10 (Zk u10 (Zn u10 ?_)))
 exact Yj I3 false h
 intro b7 H15 h
 replace h:=hR9 b7 H15 h
 refine Za (GL.nil ?_)
 exact Y1 I3 ⟨b7,rfl,h⟩
def QaE (C:Ctx) (p_s:Sl) (p_f:Value) (K:Bool→Heap→Prop) (H:Heap):Prop:=
 Qa5 C p_s p_f (fun r1 H2=>
 K (decide ((r1:Int) ≥ 0)) H2) H
theorem Qb0 (C p_s p_f K H) (h:QaE C p_s p_f K H):QaH C p_s p_f K H:=by
 refine Ye Tryz.func129 rfl Tryz.ntmps129 [(0,slv p_s),(1,p_f)] (Zo (Za (GL.nil (Zo (Zm (Zm (Zc h QcN ?_)))))))
 rintro _ H2 ⟨r1,rfl,h⟩
 refine Zi (.bool (decide ((r1:Int) ≥ 0))) (Za (GL.nil ?_))
 exact Y1 I3 ⟨(decide ((r1:Int) ≥ 0)),rfl,h⟩
def QhU (C:Ctx) (p_x:Qh) (v0:Nat×Nat) (K:Bool→Heap→Prop) (H:Heap):Prop:=
 nw (Qh.c p_x) (fun b1 H2=>
 ldV H2 v0 fun x3=>
 ldT H2 Qh.c (b1,0) fun x5=>
 callU Tryz.prog C x3 [.agg (Qh.c x5).toArray] H2 (fun v H8=>∃ (r7:Bool),v=.bool r7∧
 K (!r7) H8)) H
theorem Qhi (C p_x v0 K H) (h:QhU C p_x v0 K H):Qih C p_x v0 K H:=by
 refine Ye Tryz.func130 rfl Tryz.ntmps130 [(0,.agg (Qh.c p_x).toArray),(1,pv (some v0))] (Zo (GL.box (v:=.agg (Qh.c p_x).toArray) (cs:=Qh.c p_x) h trivial rfl rfl rfl ?_))
 intro b1 H2 h
 refine Za (GL.nil (Zo (Yl h fun x3 h=>?_)))
 obtain ⟨x5,hr6,h⟩:=h
 refine Zv (OV.loadT rfl rfl rfl hr6) (GL.callU (xv:=x3) (vs:=[.agg (Qh.c x5).toArray]) h trivial rfl rfl rfl ?_)
 rintro _ H8 ⟨r7,rfl,h⟩
 refine Zv (OV.not rfl) (Za (GL.nil ?_))
 exact Y1 I3 ⟨(!r7),rfl,h⟩
def Qd6 (C:Ctx) (p_l:Sl) (p_is:Value) (K:Bool→Heap→Prop) (H:Heap):Prop:=
 (Value.cells p_is = #[p_is])∧nw ([p_is]) (fun b1 H2=>
 QB C p_l (.func (.func 193) (List.toArray []) (List.toArray [pv (some (b1,0))]):Value) (fun r4 H5=>
 K (!r4) H5) H2) H
theorem Qhg (C p_l p_is K H) (h:Qd6 C p_l p_is K H):QY C p_l p_is K H:=by
 refine Ye Tryz.func131 rfl Tryz.ntmps131 [(0,slv p_l),(1,p_is)] (Zo ?_)
 obtain ⟨u3,h⟩:=h
 refine GL.box (v:=p_is) (cs:=[p_is]) h trivial rfl rfl u3 ?_
 intro b1 H2 h
 refine Za (GL.nil (Zo (Zm (Zv (OV.makeFunc (vs:=[]) (us:=[pv (some (b1,0))]) rfl rfl) (Zc h Qao ?_)))))
 rintro _ H5 ⟨r4,rfl,h⟩
 refine Zv (OV.not rfl) (Za (GL.nil ?_))
 exact Y1 I3 ⟨(!r4),rfl,h⟩
def QiE (C:Ctx) (p_f:Qf) (v0:Nat×Nat) (K:Bool→Heap→Prop) (H:Heap):Prop:=
 nw (Qf.c p_f) (fun b1 H2=>
 ldS H2 ((b1,0).1,(b1,0).2+0) fun x3=>
 Qa0 C x3 (fun r5 H6=>
 jn (α:=Bool) (fun b7 H20=>
 jn (α:=Bool) (fun b21 H29=>
 K b21 H29)
 (fun J22=>ift b7
 (ldT H20 Qd.c ((b1,0).1,(b1,0).2+1) fun x25=>
 Qc4 C x25 (fun r27 H28=>
 J22 r27 H28) H20)
 (J22 false H20)))
 (fun J8=>ift r5
 (J8 true H6)
 (ldB H6 v0 fun x11=>
 jn (α:=Bool) (fun b13 H19=>
 J8 b13 H19)
 (fun J14=>ift (!x11)
 (ldS H6 ((b1,0).1,(b1,0).2+0) fun x17=>
 J14 (x17 == ([]:Str)) H6)
 (J14 false H6))))) H2) H
theorem Qmn (C p_f v0 K H) (h:QiE C p_f v0 K H):QbW C p_f v0 K H:=by
 refine Ye Tryz.func132 rfl Tryz.ntmps132 [(0,.agg (Qf.c p_f).toArray),(1,pv (some v0))] (Zo (GL.box (v:=.agg (Qf.c p_f).toArray) (cs:=Qf.c p_f) h trivial rfl rfl rfl ?_))
 intro b1 H2 h
 refine Za (GL.nil (Zo (Zf (Yl h fun x3 h=>?_))))
 refine Zc h Qbb ?_
 rintro _ H6 ⟨r5,rfl,h⟩
 refine Zm ?_
 obtain ⟨J8,h,hR9⟩:=h
 refine GL.cut (α:=Bool) 8 J8 (fun b7=>[(15,.bool b7),(2,pv (some (b1,0)))]) ?_ ?_
 rcases h.em with ⟨u10,h⟩ | ⟨u10,h⟩
 refine Zk u10 (Zk u10 (Zk u10 (GL.skip ⟨_,rfl,.inr rfl⟩ rfl (GL.skip ⟨_,rfl,.inr rfl⟩ rfl (GL.skip ⟨_,rfl,.inr rfl⟩ rfl (Zk u10 (Zt u10 ?_)))))))
 exact Yj I3 true h
 obtain ⟨x11,hr12,h⟩:=h
 refine Zu u10 (Yo hr12) (Zu u10 (OV.not rfl) (Zu u10 Ym ?_))
 obtain ⟨J14,h,hR15⟩:=h
 refine GL.cut (α:=Bool) 4 J14 (fun b13=>[(14,.bool b13),(2,pv (some (b1,0))),(7,.bool r5)]) ?_ ?_
 rcases h.em with ⟨u16,h⟩ | ⟨u16,h⟩
 refine Zu u16 Yf ?_
 obtain ⟨x17,hr18,h⟩:=h
 refine Zu u16 (Yo hr18) (Zu u16 (OV.sbin (a:=x17) (b:=([]:Str)) (v:=.bool (x17 == ([]:Str))) rfl rfl rfl) (Zu u10 (OV.pickT rfl u16 rfl) ?_))
 exact Yj I3 (x17 == ([]:Str)) h
 refine Zk u16 (Zk u16 (Zk u16 (Zu u10 (OV.pickF rfl u16 rfl) ?_)))
 exact Yj I3 false h
 intro b13 H19 h
 replace h:=hR15 b13 H19 h
 refine Zn u10 ?_
 exact Yj I3 b13 h
 intro b7 H20 h
 replace h:=hR9 b7 H20 h
 refine Zm ?_
 obtain ⟨J22,h,hR23⟩:=h
 refine GL.cut (α:=Bool) 4 J22 (fun b21=>[(20,.bool b21)]) ?_ ?_
 rcases h.em with ⟨u24,h⟩ | ⟨u24,h⟩
 refine Zu u24 Yf ?_
 obtain ⟨x25,hr26,h⟩:=h
 refine Zu u24 (OV.loadT rfl rfl rfl hr26) (GL.call h (Yt u24) rfl Qlp (vs:=[.agg (Qd.c x25).toArray]) rfl ?_)
 rintro _ H28 ⟨r27,rfl,h⟩
 refine Zt u24 ?_
 exact Yj I3 r27 h
 refine Zk u24 (Zk u24 (Zk u24 (Zn u24 ?_)))
 exact Yj I3 false h
 intro b21 H29 h
 replace h:=hR23 b21 H29 h
 refine Za (GL.nil ?_)
 exact Y1 I3 ⟨b21,rfl,h⟩
def Qly (C:Ctx) (p_t:Qd) (K:Bool→Heap→Prop) (H:Heap):Prop:=
 nw (Qd.c p_t) (fun b1 H2=>
 ldL H2 ((b1,0).1,(b1,0).2+1) fun x3=>
 ldS H2 ((b1,0).1,(b1,0).2+0) fun x5=>
 jn (α:=Bool) (fun x8 H9=>
 ift x8
 (K (((Sl.len x3:Int):Int) == 0) H9)
 (ift (x5 == ([116,117,112,108,101]:Str))
 (jn (α:=Bool) (fun b17 H25=>
 K b17 H25)
 (fun J18=>ift ((((Sl.len x3:Int):Int) != 1) && (decide (((Sl.len x3:Int):Int)≤16)))
 (ldL H9 ((b1,0).1,(b1,0).2+1) fun x21=>
 QZ C x21 (.func (.func 133) (List.toArray []) (List.toArray []):Value) (fun r23 H24=>
 J18 r23 H24) H9)
 (J18 false H9)))
 (ldS H9 ((b1,0).1,(b1,0).2+0) fun x26=>
 Qjm C x26 (fun r28 H29=>
 jn (α:=Bool) (fun b31 H49=>
 K b31 H49)
 (fun J32=>ift (r28 && (((Sl.len x3:Int):Int) == 0))
 (J32 true H29)
 (ldS H29 ((b1,0).1,(b1,0).2+0) fun x35=>
 QeV C x35 (fun r37 H38=>
 jn (α:=Bool) (fun b40 H48=>
 J32 b40 H48)
 (fun J41=>ift (r37 && (decide (((Sl.len x3:Int):Int)≤8)))
 (ldL H38 ((b1,0).1,(b1,0).2+1) fun x44=>
 QZ C x44 (.func (.func 133) (List.toArray []) (List.toArray []):Value) (fun r46 H47=>
 J41 r46 H47) H38)
 (J41 false H38))) H29))) H9)))
 (fun J7=>ift (x5 == ([98,111,111,108]:Str))
 (J7 (x5 == ([98,111,111,108]:Str)) H2)
 (ift (x5 == ([105,110,116]:Str))
 (J7 (x5 == ([105,110,116]:Str)) H2)
 (ift (x5 == ([98,105,103]:Str))
 (J7 (x5 == ([98,105,103]:Str)) H2)
 (J7 (x5 == ([116,101,120,116]:Str)) H2))))) H
theorem QoA (C p_t K H) (h:Qly C p_t K H):Qc4 C p_t K H:=by
 refine Ye Tryz.func133 rfl Tryz.ntmps133 [(0,.agg (Qd.c p_t).toArray)] (Zo (GL.box (v:=.agg (Qd.c p_t).toArray) (cs:=Qd.c p_t) h trivial rfl rfl rfl ?_))
 intro b1 H2 h
 refine Za (GL.nil (Zo (Zf (Yl h fun x3 h=>?_))))
 refine Zq (Za (GL.nil (GC.seq (Zo (Zf (Yl h fun x5 h=>?_))))))
 refine GL.nil (GC.block ?_)
 obtain ⟨J7,h,hR10⟩:=h
 refine GC.join (α:=Bool) J7 (fun x8=>[(9,.bool x8),(1,pv (some (b1,0))),(3,.int .i64 (Sl.len x3:Int)),(8,sv x5)]) ?_ ?_
 refine Zo (Zv (OV.sbin (a:=x5) (b:=([98,111,111,108]:Str)) (v:=.bool (x5 == ([98,111,111,108]:Str))) rfl rfl rfl) (Za (GL.nil (Yd h (fun u11 h=>?_) fun u11 h=>?_))))
 exact Yk I3 (x5 == ([98,111,111,108]:Str)) h
 refine Zo (Zv (OV.sbin (a:=x5) (b:=([105,110,116]:Str)) (v:=.bool (x5 == ([105,110,116]:Str))) rfl rfl rfl) (Za (GL.nil (Yd h (fun u12 h=>?_) fun u12 h=>?_))))
 exact Yk I3 (x5 == ([105,110,116]:Str)) h
 refine Zo (Zv (OV.sbin (a:=x5) (b:=([98,105,103]:Str)) (v:=.bool (x5 == ([98,105,103]:Str))) rfl rfl rfl) (Za (GL.nil (Yd h (fun u13 h=>?_) fun u13 h=>?_))))
 exact Yk I3 (x5 == ([98,105,103]:Str)) h
 refine GC.region (Zv (OV.sbin (a:=x5) (b:=([116,101,120,116]:Str)) (v:=.bool (x5 == ([116,101,120,116]:Str))) rfl rfl rfl) (Za ?_))
 exact Yj I3 (x5 == ([116,101,120,116]:Str)) h
 intro x8 H9 h
 replace h:=hR10 x8 H9 h
 refine Yd h (fun u14 h=>?_) fun u14 h=>?_
 refine Zo (Zm (Zi (.bool (((Sl.len x3:Int):Int) == 0)) (Za (GL.nil ?_))))
 exact Y1 I3 ⟨(((Sl.len x3:Int):Int) == 0),rfl,h⟩
 refine Zo (Zv (OV.sbin (a:=x5) (b:=([116,117,112,108,101]:Str)) (v:=.bool (x5 == ([116,117,112,108,101]:Str))) rfl rfl rfl) (Za (GL.nil (Yd h (fun u15 h=>?_) fun u15 h=>?_))))
 refine Zo (Zm (Zi (.bool (((Sl.len x3:Int):Int) != 1)) (Zm (GL.cut0 3 [(23,.bool ((((Sl.len x3:Int):Int) != 1) && (decide (((Sl.len x3:Int):Int)≤16)))),(1,pv (some (b1,0)))] ?_ ?_))))
 rcases Zb (((Sl.len x3:Int):Int) != 1) with u16 | u16
 refine Zu u16 Ym (Zu u16 (OV.ibin (v:=.bool (decide (((Sl.len x3:Int):Int)≤16))) rfl rfl rfl) (Zt u16 ?_))
 exact GL.jump0 I3 () rfl ⟨(by rw [u16]; rfl),rfl,trivial⟩
 refine Zk u16 (Zk u16 (Zn u16 ?_))
 exact GL.jump0 I3 () rfl ⟨(by rw [u16]; rfl),rfl,trivial⟩
 refine Zm ?_
 obtain ⟨J18,h,hR19⟩:=h
 refine GL.cut (α:=Bool) 4 J18 (fun b17=>[(28,.bool b17)]) ?_ ?_
 rcases h.em with ⟨u20,h⟩ | ⟨u20,h⟩
 refine Zu u20 Yf ?_
 obtain ⟨x21,v22,h⟩:=h
 refine Zu u20 (Yo v22) (GL.call h (Yt u20) rfl Qfy (vs:=[slv x21,.func (.func 133) (List.toArray []) (List.toArray [])]) rfl ?_)
 rintro _ H24 ⟨r23,rfl,h⟩
 refine Zt u20 ?_
 exact Yj I3 r23 h
 refine Zk u20 (Zk u20 (Zk u20 (Zn u20 ?_)))
 exact Yj I3 false h
 intro b17 H25 h
 replace h:=hR19 b17 H25 h
 refine Za (GL.nil ?_)
 exact Y1 I3 ⟨b17,rfl,h⟩
 refine GC.skip_to I3 (Zo (Zf ?_))
 refine Yl h fun x26 h=>?_
 refine Zc h Qlo ?_
 rintro _ H29 ⟨r28,rfl,h⟩
 refine Zm (GL.cut0 3 [(35,.bool (r28 && (((Sl.len x3:Int):Int) == 0))),(1,pv (some (b1,0))),(3,.int .i64 (Sl.len x3:Int))] ?_ ?_)
 rcases Bool.eq_false_or_eq_true r28 with u30 | u30
 refine Zu u30 Ym (Zu u30 (OV.ibin (v:=.bool (((Sl.len x3:Int):Int) == 0)) rfl rfl rfl) (Zt u30 ?_))
 exact GL.jump0 I3 () rfl ⟨(by rw [u30]; rfl),rfl,rfl,trivial⟩
 refine Zk u30 (Zk u30 (Zn u30 ?_))
 exact GL.jump0 I3 () rfl ⟨(by rw [u30]; rfl),rfl,rfl,trivial⟩
 refine Zm ?_
 obtain ⟨J32,h,hR33⟩:=h
 refine GL.cut (α:=Bool) 13 J32 (fun b31=>[(49,.bool b31)]) ?_ ?_
 rcases h.em with ⟨u34,h⟩ | ⟨u34,h⟩
 refine Zk u34 (Zk u34 (Zk u34 (Zk u34 (GL.skip ⟨_,rfl,.inr rfl⟩ rfl (GL.skip ⟨_,rfl,.inr rfl⟩ rfl (Zk u34 (Zk u34 (GL.skip ⟨_,rfl,.inr rfl⟩ rfl (GL.skip ⟨_,rfl,.inr rfl⟩ rfl (GL.skip ⟨_,rfl,.inr rfl⟩ rfl (Zk u34 (Zt u34 ?_))))))))))))
 exact Yj I3 true h
 refine Zu u34 Yf ?_
 obtain ⟨x35,v36,h⟩:=h
 refine Zu u34 (Yo v36) (GL.call h (Yt u34) rfl Qgt (vs:=[sv x35]) rfl ?_)
 rintro _ H38 ⟨r37,rfl,h⟩
 refine Zu u34 Ym (GL.cut0 3 [(43,.bool (r37 && (decide (((Sl.len x3:Int):Int)≤8)))),(1,pv (some (b1,0))),(36,.bool (r28 && (((Sl.len x3:Int):Int) == 0)))] ?_ ?_)
 rcases Bool.eq_false_or_eq_true r37 with u39 | u39
 refine Zu u39 Ym (Zu u39 (OV.ibin (v:=.bool (decide (((Sl.len x3:Int):Int)≤8))) rfl rfl rfl) (Zu u34 (OV.pickT rfl u39 rfl) ?_))
 exact GL.jump0 I3 () rfl ⟨(by rw [u39]; rfl),rfl,rfl,trivial⟩
 refine Zk u39 (Zk u39 (Zu u34 (OV.pickF rfl u39 rfl) ?_))
 exact GL.jump0 I3 () rfl ⟨(by rw [u39]; rfl),rfl,rfl,trivial⟩
 refine Zu u34 Ym ?_
 obtain ⟨J41,h,hR42⟩:=h
 refine GL.cut (α:=Bool) 4 J41 (fun b40=>[(48,.bool b40),(36,.bool (r28 && (((Sl.len x3:Int):Int) == 0)))]) ?_ ?_
 rcases h.em with ⟨u43,h⟩ | ⟨u43,h⟩
 refine Zu u43 Yf ?_
 obtain ⟨x44,v45,h⟩:=h
 refine Zu u43 (Yo v45) (GL.call h (Yt u43) rfl Qfy (vs:=[slv x44,.func (.func 133) (List.toArray []) (List.toArray [])]) rfl ?_)
 rintro _ H47 ⟨r46,rfl,h⟩
 refine Zu u34 (OV.pickT rfl u43 rfl) ?_
 exact Yj I3 r46 h
 refine Zk u43 (Zk u43 (Zk u43 (Zu u34 (OV.pickF rfl u43 rfl) ?_)))
 exact Yj I3 false h
 intro b40 H48 h
 replace h:=hR42 b40 H48 h
 refine Zn u34 ?_
 exact Yj I3 b40 h
 intro b31 H49 h
 replace h:=hR33 b31 H49 h
 refine Za (GL.nil ?_)
 exact Y1 I3 ⟨b31,rfl,h⟩
def Qa8 (C:Ctx) (p_s:Sl) (p_f:Value) (K:Bool→Heap→Prop) (H:Heap):Prop:=
 Qbo C p_s p_f (fun r1 H2=>
 K (decide ((r1:Int) ≥ 0)) H2) H
theorem QcX (C p_s p_f K H) (h:Qa8 C p_s p_f K H):Qba C p_s p_f K H:=by
 refine Ye Tryz.func134 rfl Tryz.ntmps134 [(0,slv p_s),(1,p_f)] (Zo (Za (GL.nil (Zo (Zm (Zm (Zc h Qdz ?_)))))))
 rintro _ H2 ⟨r1,rfl,h⟩
 refine Zi (.bool (decide ((r1:Int) ≥ 0))) (Za (GL.nil ?_))
 exact Y1 I3 ⟨(decide ((r1:Int) ≥ 0)),rfl,h⟩
def Qi6 (C:Ctx) (p_x:Qj) (v0:Nat×Nat) (K:Bool→Heap→Prop) (H:Heap):Prop:=
 nw (Qj.c p_x) (fun b1 H2=>
 ldV H2 v0 fun x3=>
 ldT H2 Qj.c (b1,0) fun x5=>
 callU Tryz.prog C x3 [.agg (Qj.c x5).toArray] H2 (fun v H8=>∃ (r7:Bool),v=.bool r7∧
 K (!r7) H8)) H
theorem QiP (C p_x v0 K H) (h:Qi6 C p_x v0 K H):Qjj C p_x v0 K H:=by
 refine Ye Tryz.func135 rfl Tryz.ntmps135 [(0,.agg (Qj.c p_x).toArray),(1,pv (some v0))] (Zo (GL.box (v:=.agg (Qj.c p_x).toArray) (cs:=Qj.c p_x) h trivial rfl rfl rfl ?_))
 intro b1 H2 h
 refine Za (GL.nil (Zo (Yl h fun x3 h=>?_)))
 obtain ⟨x5,hr6,h⟩:=h
 refine Zv (OV.loadT rfl rfl rfl hr6) (GL.callU (xv:=x3) (vs:=[.agg (Qj.c x5).toArray]) h trivial rfl rfl rfl ?_)
 rintro _ H8 ⟨r7,rfl,h⟩
 refine Zv (OV.not rfl) (Za (GL.nil ?_))
 exact Y1 I3 ⟨(!r7),rfl,h⟩
def Qma (C:Ctx) (p_s:Str) (K:Bool→Heap→Prop) (H:Heap):Prop:=
 Qen C p_s [46] (fun r1 r2 r3 H4=>
 Qa0 C r1 (fun r5 H6=>
 jn (α:=Bool) (fun b7 H18=>
 K b7 H18)
 (fun J8=>ift r5
 (jn (α:=Bool) (fun b11 H17=>
 J8 b11 H17)
 (fun J12=>ift (!r3)
 (J12 true H6)
 (Qa0 C r2 (fun r15 H16=>
 J12 r15 H16) H6)))
 (J8 false H6))) H4) H
theorem Qpk (C p_s K H) (h:Qma C p_s K H):QeV C p_s K H:=by
 refine Ye Tryz.func136 rfl Tryz.ntmps136 [(0,sv p_s)] (Zo (Za (GL.nil (Zo (Zm (Zc h QgY ?_))))))
 rintro _ H4 ⟨r1,r2,r3,rfl,h⟩
 refine Zm (Yv (sv r1) rfl rfl (Yv (sv r2) rfl rfl (Yv (.bool r3) rfl rfl (Za (Za (Za (GL.nil (Zo (Zm (Zc h Qbb ?_))))))))))
 rintro _ H6 ⟨r5,rfl,h⟩
 refine Zm ?_
 obtain ⟨J8,h,hR9⟩:=h
 refine GL.cut (α:=Bool) 7 J8 (fun b7=>[(21,.bool b7)]) ?_ ?_
 rcases h.em with ⟨u10,h⟩ | ⟨u10,h⟩
 refine Zu u10 Ym (Zu u10 (OV.not rfl) (Zu u10 Ym ?_))
 obtain ⟨J12,h,hR13⟩:=h
 refine GL.cut (α:=Bool) 3 J12 (fun b11=>[(20,.bool b11),(14,.bool r5)]) ?_ ?_
 rcases h.em with ⟨u14,h⟩ | ⟨u14,h⟩
 refine Zk u14 (Zk u14 (Zu u10 (OV.pickT rfl u14 rfl) ?_))
 exact Yj I3 true h
 refine Zu u14 Ym (GL.call h (Yt u14) rfl Qbb (vs:=[sv r2]) rfl ?_)
 rintro _ H16 ⟨r15,rfl,h⟩
 refine Zu u10 (OV.pickF rfl u14 rfl) ?_
 exact Yj I3 r15 h
 intro b11 H17 h
 replace h:=hR13 b11 H17 h
 refine Zt u10 ?_
 exact Yj I3 b11 h
 refine Zk u10 (Zk u10 (Zk u10 (GL.skip ⟨_,rfl,.inr rfl⟩ rfl (GL.skip ⟨_,rfl,.inr rfl⟩ rfl (Zk u10 (Zn u10 ?_))))))
 exact Yj I3 false h
 intro b7 H18 h
 replace h:=hR9 b7 H18 h
 refine Za (GL.nil ?_)
 exact Y1 I3 ⟨b7,rfl,h⟩
def QfA (C:Ctx) (p_l:Sl) (p_is:Value) (K:Bool→Heap→Prop) (H:Heap):Prop:=
 (Value.cells p_is = #[p_is])∧nw ([p_is]) (fun b1 H2=>
 Qa9 C p_l (.func (.func 197) (List.toArray []) (List.toArray [pv (some (b1,0))]):Value) (fun r4 H5=>
 K (!r4) H5) H2) H
theorem Qj5 (C p_l p_is K H) (h:QfA C p_l p_is K H):QH C p_l p_is K H:=by
 refine Ye Tryz.func137 rfl Tryz.ntmps137 [(0,slv p_l),(1,p_is)] (Zo ?_)
 obtain ⟨u3,h⟩:=h
 refine GL.box (v:=p_is) (cs:=[p_is]) h trivial rfl rfl u3 ?_
 intro b1 H2 h
 refine Za (GL.nil (Zo (Zm (Zv (OV.makeFunc (vs:=[]) (us:=[pv (some (b1,0))]) rfl rfl) (Zc h QcZ ?_)))))
 rintro _ H5 ⟨r4,rfl,h⟩
 refine Zv (OV.not rfl) (Za (GL.nil ?_))
 exact Y1 I3 ⟨(!r4),rfl,h⟩
def Ql8 (C:Ctx) (p_e:Qb) (K:Bool→Heap→Prop) (H:Heap):Prop:=
 nw (Qb.c p_e) (fun b1 H2=>
 ldT H2 Qb.c (b1,0) fun x3=>
 Qcd C x3 false (fun r5 H6=>
 K r5 H6) H2) H
theorem Qpi (C p_e K H) (h:Ql8 C p_e K H):Qcc C p_e K H:=by
 refine Ye Tryz.func138 rfl Tryz.ntmps138 [(0,.agg (Qb.c p_e).toArray)] (Zo (GL.box (v:=.agg (Qb.c p_e).toArray) (cs:=Qb.c p_e) h trivial rfl rfl rfl ?_))
 intro b1 H2 h
 refine Za (GL.nil (Zo ?_))
 obtain ⟨x3,v4,h⟩:=h
 refine Zv (OV.loadT rfl rfl rfl v4) (Zc h Qjw ?_)
 rintro _ H6 ⟨r5,rfl,h⟩
 refine Za (GL.nil ?_)
 exact Y1 I3 ⟨r5,rfl,h⟩
def QkE (C:Ctx) (p_s:Str) (K:Bool→Heap→Prop) (H:Heap):Prop:=
 K (((((p_s == ([]:Str)) || (p_s == ([99,111,117,110,116]:Str))) || (p_s == ([115,117,109]:Str))) || (p_s == ([109,105,110]:Str))) || (p_s == ([109,97,120]:Str))) H
theorem QnR (C p_s K H) (h:QkE C p_s K H):Qk8 C p_s K H:=by
 refine Ye Tryz.func139 rfl Tryz.ntmps139 [(0,sv p_s)] (Zo (Za (GL.nil (Zo (Zm (Zv (OV.sbin (a:=p_s) (b:=([]:Str)) (v:=.bool (p_s == ([]:Str))) rfl rfl rfl) (Zm (GL.cut0 3 [(8,.bool ((p_s == ([]:Str)) || (p_s == ([99,111,117,110,116]:Str)))),(0,sv p_s)] ?_ ?_))))))))
 rcases Zb (p_s == ([]:Str)) with u1 | u1
 refine Zk u1 (Zk u1 (Zt u1 ?_))
 exact GL.jump0 I3 () rfl ⟨(by rw [u1]; rfl),rfl,trivial⟩
 refine Zu u1 Ym (Zu u1 (OV.sbin (a:=p_s) (b:=([99,111,117,110,116]:Str)) (v:=.bool (p_s == ([99,111,117,110,116]:Str))) rfl rfl rfl) (Zn u1 ?_))
 exact GL.jump0 I3 () rfl ⟨(by rw [u1]; rfl),rfl,trivial⟩
 refine Zm (GL.cut0 3 [(12,.bool (((p_s == ([]:Str)) || (p_s == ([99,111,117,110,116]:Str))) || (p_s == ([115,117,109]:Str)))),(0,sv p_s)] ?_ ?_)
 rcases Zb ((p_s == ([]:Str)) || (p_s == ([99,111,117,110,116]:Str))) with u2 | u2
 refine Zk u2 (Zk u2 (Zt u2 ?_))
 exact GL.jump0 I3 () rfl ⟨(by rw [u2]; rfl),rfl,trivial⟩
 refine Zu u2 Ym (Zu u2 (OV.sbin (a:=p_s) (b:=([115,117,109]:Str)) (v:=.bool (p_s == ([115,117,109]:Str))) rfl rfl rfl) (Zn u2 ?_))
 exact GL.jump0 I3 () rfl ⟨(by rw [u2]; rfl),rfl,trivial⟩
 refine Zm (GL.cut0 3 [(16,.bool ((((p_s == ([]:Str)) || (p_s == ([99,111,117,110,116]:Str))) || (p_s == ([115,117,109]:Str))) || (p_s == ([109,105,110]:Str)))),(0,sv p_s)] ?_ ?_)
 rcases Zb (((p_s == ([]:Str)) || (p_s == ([99,111,117,110,116]:Str))) || (p_s == ([115,117,109]:Str))) with u3 | u3
 refine Zk u3 (Zk u3 (Zt u3 ?_))
 exact GL.jump0 I3 () rfl ⟨(by rw [u3]; rfl),rfl,trivial⟩
 refine Zu u3 Ym (Zu u3 (OV.sbin (a:=p_s) (b:=([109,105,110]:Str)) (v:=.bool (p_s == ([109,105,110]:Str))) rfl rfl rfl) (Zn u3 ?_))
 exact GL.jump0 I3 () rfl ⟨(by rw [u3]; rfl),rfl,trivial⟩
 refine Zm (GL.cut0 3 [(20,.bool (((((p_s == ([]:Str)) || (p_s == ([99,111,117,110,116]:Str))) || (p_s == ([115,117,109]:Str))) || (p_s == ([109,105,110]:Str))) || (p_s == ([109,97,120]:Str))))] ?_ ?_)
 rcases Zb ((((p_s == ([]:Str)) || (p_s == ([99,111,117,110,116]:Str))) || (p_s == ([115,117,109]:Str))) || (p_s == ([109,105,110]:Str))) with u4 | u4
 refine Zk u4 (Zk u4 (Zt u4 ?_))
 exact GL.jump0 I3 () rfl ⟨(by rw [u4]; rfl),trivial⟩
 refine Zu u4 Ym (Zu u4 (OV.sbin (a:=p_s) (b:=([109,97,120]:Str)) (v:=.bool (p_s == ([109,97,120]:Str))) rfl rfl rfl) (Zn u4 ?_))
 exact GL.jump0 I3 () rfl ⟨(by rw [u4]; rfl),trivial⟩
 refine Za (GL.nil ?_)
 exact Y1 I3 ⟨(((((p_s == ([]:Str)) || (p_s == ([99,111,117,110,116]:Str))) || (p_s == ([115,117,109]:Str))) || (p_s == ([109,105,110]:Str))) || (p_s == ([109,97,120]:Str))),rfl,h⟩
def QaU (C:Ctx) (p_s:Sl) (p_f:Value) (K:Bool→Heap→Prop) (H:Heap):Prop:=
 Qbd C p_s p_f (fun r1 H2=>
 K (decide ((r1:Int) ≥ 0)) H2) H
theorem Qcl (C p_s p_f K H) (h:QaU C p_s p_f K H):QaW C p_s p_f K H:=by
 refine Ye Tryz.func140 rfl Tryz.ntmps140 [(0,slv p_s),(1,p_f)] (Zo (Za (GL.nil (Zo (Zm (Zm (Zc h Qc8 ?_)))))))
 rintro _ H2 ⟨r1,rfl,h⟩
 refine Zi (.bool (decide ((r1:Int) ≥ 0))) (Za (GL.nil ?_))
 exact Y1 I3 ⟨(decide ((r1:Int) ≥ 0)),rfl,h⟩
def Qiw (C:Ctx) (p_x:Qm) (v0:Nat×Nat) (K:Bool→Heap→Prop) (H:Heap):Prop:=
 nw (Qm.c p_x) (fun b1 H2=>
 ldV H2 v0 fun x3=>
 ldT H2 Qm.c (b1,0) fun x5=>
 callU Tryz.prog C x3 [.agg (Qm.c x5).toArray] H2 (fun v H8=>∃ (r7:Bool),v=.bool r7∧
 K (!r7) H8)) H
theorem Qh5 (C p_x v0 K H) (h:Qiw C p_x v0 K H):QiV C p_x v0 K H:=by
 refine Ye Tryz.func141 rfl Tryz.ntmps141 [(0,.agg (Qm.c p_x).toArray),(1,pv (some v0))] (Zo (GL.box (v:=.agg (Qm.c p_x).toArray) (cs:=Qm.c p_x) h trivial rfl rfl rfl ?_))
 intro b1 H2 h
 refine Za (GL.nil (Zo (Yl h fun x3 h=>?_)))
 obtain ⟨x5,hr6,h⟩:=h
 refine Zv (OV.loadT rfl rfl rfl hr6) (GL.callU (xv:=x3) (vs:=[.agg (Qm.c x5).toArray]) h trivial rfl rfl rfl ?_)
 rintro _ H8 ⟨r7,rfl,h⟩
 refine Zv (OV.not rfl) (Za (GL.nil ?_))
 exact Y1 I3 ⟨(!r7),rfl,h⟩
def Qas (C:Ctx) (p_s:Sl) (p_f:Value) (K:Bool→Heap→Prop) (H:Heap):Prop:=
 QaS C p_s p_f (fun r1 H2=>
 K (decide ((r1:Int) ≥ 0)) H2) H
theorem QbM (C p_s p_f K H) (h:Qas C p_s p_f K H):Qaz C p_s p_f K H:=by
 refine Ye Tryz.func142 rfl Tryz.ntmps142 [(0,slv p_s),(1,p_f)] (Zo (Za (GL.nil (Zo (Zm (Zm (Zc h Qcj ?_)))))))
 rintro _ H2 ⟨r1,rfl,h⟩
 refine Zi (.bool (decide ((r1:Int) ≥ 0))) (Za (GL.nil ?_))
 exact Y1 I3 ⟨(decide ((r1:Int) ≥ 0)),rfl,h⟩
def Qg8 (C:Ctx) (p_x:Qk) (v0:Nat×Nat) (K:Bool→Heap→Prop) (H:Heap):Prop:=
 nw (Qk.c p_x) (fun b1 H2=>
 ldV H2 v0 fun x3=>
 ldT H2 Qk.c (b1,0) fun x5=>
 callU Tryz.prog C x3 [.agg (Qk.c x5).toArray] H2 (fun v H8=>∃ (r7:Bool),v=.bool r7∧
 K (!r7) H8)) H
theorem QgM (C p_x v0 K H) (h:Qg8 C p_x v0 K H):Qht C p_x v0 K H:=by
 refine Ye Tryz.func143 rfl Tryz.ntmps143 [(0,.agg (Qk.c p_x).toArray),(1,pv (some v0))] (Zo (GL.box (v:=.agg (Qk.c p_x).toArray) (cs:=Qk.c p_x) h trivial rfl rfl rfl ?_))
 intro b1 H2 h
 refine Za (GL.nil (Zo (Yl h fun x3 h=>?_)))
 obtain ⟨x5,hr6,h⟩:=h
 refine Zv (OV.loadT rfl rfl rfl hr6) (GL.callU (xv:=x3) (vs:=[.agg (Qk.c x5).toArray]) h trivial rfl rfl rfl ?_)
 rintro _ H8 ⟨r7,rfl,h⟩
 refine Zv (OV.not rfl) (Za (GL.nil ?_))
 exact Y1 I3 ⟨(!r7),rfl,h⟩
def QjP (C:Ctx) (p_e:Qb) (K:Bool→Heap→Prop) (H:Heap):Prop:=
 nw (Qb.c p_e) (fun b1 H2=>
 ldT H2 Qb.c (b1,0) fun x3=>
 Qcd C x3 true (fun r5 H6=>
 K r5 H6) H2) H
theorem QmN (C p_e K H) (h:QjP C p_e K H):QcB C p_e K H:=by
 refine Ye Tryz.func144 rfl Tryz.ntmps144 [(0,.agg (Qb.c p_e).toArray)] (Zo (GL.box (v:=.agg (Qb.c p_e).toArray) (cs:=Qb.c p_e) h trivial rfl rfl rfl ?_))
 intro b1 H2 h
 refine Za (GL.nil (Zo ?_))
 obtain ⟨x3,v4,h⟩:=h
 refine Zv (OV.loadT rfl rfl rfl v4) (Zc h Qjw ?_)
 rintro _ H6 ⟨r5,rfl,h⟩
 refine Za (GL.nil ?_)
 exact Y1 I3 ⟨r5,rfl,h⟩
def QiG (C:Ctx) (p_s:Str) (K:Bool→Heap→Prop) (H:Heap):Prop:=
 jn (α:=Bool) (fun b1 H8=>
 jn (α:=Bool) (fun b9 H16=>
 jn (α:=Bool) (fun b17 H23=>
 K b17 H23)
 (fun J18=>ift b9
 (Qii C p_s (fun r21 H22=>
 J18 r21 H22) H16)
 (J18 false H16)))
 (fun J10=>ift b1
 (ixs p_s 0 fun c13=>
 J10 (decide (((c13.toNat:Int):Int)≤90)) H8)
 (J10 false H8)))
 (fun J2=>ift (!(p_s == ([]:Str)))
 (ixs p_s 0 fun c5=>
 J2 (decide (((c5.toNat:Int):Int) ≥ 65)) H)
 (J2 false H))
theorem Qmp (C p_s K H) (h:QiG C p_s K H):Qep C p_s K H:=by
 refine Ye Tryz.func145 rfl Tryz.ntmps145 [(0,sv p_s)] (Zo (Za (GL.nil (Zo (Zm (Zv (OV.sbin (a:=p_s) (b:=([]:Str)) (v:=.bool (!(p_s == ([]:Str)))) rfl rfl rfl) (Zm ?_)))))))
 obtain ⟨J2,h,hR3⟩:=h
 refine GL.cut (α:=Bool) 4 J2 (fun b1=>[(9,.bool b1),(0,sv p_s)]) ?_ ?_
 rcases h.em with ⟨u4,h⟩ | ⟨u4,h⟩
 refine Zu u4 Ym ?_
 obtain ⟨c5,ha6,hb7,h⟩:=h
 refine Zu u4 (OV.indexStr rfl rfl rfl ha6 hb7) (Zu u4 (OV.ibin (v:=.bool (decide (((c5.toNat:Int):Int) ≥ 65))) rfl rfl rfl) (Zt u4 ?_))
 exact Yj I3 (decide (((c5.toNat:Int):Int) ≥ 65)) h
 refine Zk u4 (Zk u4 (Zk u4 (Zn u4 ?_)))
 exact Yj I3 false h
 intro b1 H8 h
 replace h:=hR3 b1 H8 h
 refine Zm ?_
 obtain ⟨J10,h,hR11⟩:=h
 refine GL.cut (α:=Bool) 4 J10 (fun b9=>[(14,.bool b9),(0,sv p_s)]) ?_ ?_
 rcases h.em with ⟨u12,h⟩ | ⟨u12,h⟩
 refine Zu u12 Ym ?_
 obtain ⟨c13,ha14,hb15,h⟩:=h
 refine Zu u12 (OV.indexStr rfl rfl rfl ha14 hb15) (Zu u12 (OV.ibin (v:=.bool (decide (((c13.toNat:Int):Int)≤90))) rfl rfl rfl) (Zt u12 ?_))
 exact Yj I3 (decide (((c13.toNat:Int):Int)≤90)) h
 refine Zk u12 (Zk u12 (Zk u12 (Zn u12 ?_)))
 exact Yj I3 false h
 intro b9 H16 h
 replace h:=hR11 b9 H16 h
 refine Zm ?_
 obtain ⟨J18,h,hR19⟩:=h
 refine GL.cut (α:=Bool) 3 J18 (fun b17=>[(18,.bool b17)]) ?_ ?_
 rcases h.em with ⟨u20,h⟩ | ⟨u20,h⟩
 refine Zu u20 Ym (GL.call h (Yt u20) rfl Ql5 (vs:=[sv p_s]) rfl ?_)
 rintro _ H22 ⟨r21,rfl,h⟩
 refine Zt u20 ?_
 exact Yj I3 r21 h
 refine Zk u20 (Zk u20 (Zn u20 ?_))
 exact Yj I3 false h
 intro b17 H23 h
 replace h:=hR19 b17 H23 h
 refine Za (GL.nil ?_)
 exact Y1 I3 ⟨b17,rfl,h⟩
def QaX (C:Ctx) (p_s:Sl) (p_f:Value) (K:Int→Heap→Prop) (H:Heap):Prop:=
 lp (α:=Int) 0 H (fun x1 J2 H3=>
 ift (decide ((x1:Int) < (Sl.len p_s:Int)))
 (ixa p_s x1 fun p5=>
 ldT H3 Qa.c (p5.1,p5.2+(x1:Int).toNat*6) fun x10=>
 callU Tryz.prog C p_f [.agg (Qa.c x10).toArray] H3 (fun v H13=>∃ (r12:Bool),v=.bool r12∧
 ift r12
 (K x1 H13)
 (J2 (w .i64 (x1+1)) H13)))
 (K (-1) H3))
theorem QcE (C p_s p_f K H) (h:QaX C p_s p_f K H):Qa4 C p_s p_f K H:=by
 refine Ye Tryz.func146 rfl Tryz.ntmps146 [(0,slv p_s),(1,p_f)] (Zo (Za (GL.nil (GC.seq (Zo (Zm (Zq (Zm (GL.nil (GC.block (Yp h (fun x1=>[(8,.int .i64 x1),(0,slv p_s),(1,p_f),(7,.int .i64 (Sl.len p_s:Int))]) ?_)))))))))))
 intro x1 H3 J2 h
 refine Zo (Zi (.bool (decide ((x1:Int) < (Sl.len p_s:Int)))) (GL.nil (GC.seq (Yd h (fun u4 h=>?_) fun u4 h=>?_))))
 refine GC.skip (GC.seq (GC.block (Zo (Zm (Za (GL.nil (Zo (Zm (Zm (Zm (Yx h fun p5 h=>?_)))))))))))
 obtain ⟨x10,v11,h⟩:=h
 refine Zv (OV.loadT rfl rfl rfl v11) (GL.callU (xv:=p_f) (vs:=[.agg (Qa.c x10).toArray]) h trivial rfl rfl rfl ?_)
 rintro _ H13 ⟨r12,rfl,h⟩
 refine GL.nil (Yd h (fun u14 h=>?_) fun u14 h=>?_)
 refine Zo (Zm (Za (GL.nil ?_)))
 exact Y1 I3 ⟨x1,rfl,h⟩
 refine GC.skip_to I3 (GC.region (Zi (.int .i64 (w .i64 (x1+1))) (Zm ?_)))
 exact Yj I3 (w .i64 (x1+1)) h
 refine GC.exit_to I3 (Zo (Za (GL.nil ?_)))
 exact Y1 I3 ⟨(-1),rfl,h⟩
def Qd1 (C:Ctx) (p_m:Qa) (v0:Nat×Nat) (K:Bool→Heap→Prop) (H:Heap):Prop:=
 nw (Qa.c p_m) (fun b1 H2=>
 ldS H2 ((b1,0).1,(b1,0).2+0) fun x3=>
 ldS H2 v0 fun x5=>
 K (x3 == x5) H2) H
theorem Qhb (C p_m v0 K H) (h:Qd1 C p_m v0 K H):Qid C p_m v0 K H:=by
 refine Ye Tryz.func147 rfl Tryz.ntmps147 [(0,.agg (Qa.c p_m).toArray),(1,pv (some v0))] (Zo (GL.box (v:=.agg (Qa.c p_m).toArray) (cs:=Qa.c p_m) h trivial rfl rfl rfl ?_))
 intro b1 H2 h
 refine Za (GL.nil (Zo (Zf (Yl h fun x3 h=>?_))))
 refine Yl h fun x5 h=>?_
 refine Zv (OV.sbin (a:=x3) (b:=x5) (v:=.bool (x3 == x5)) rfl rfl rfl) (Za (GL.nil ?_))
 exact Y1 I3 ⟨(x3 == x5),rfl,h⟩
def QJ (C:Ctx) (p_s:Sl) (p_f:Value) (K:Int→Heap→Prop) (H:Heap):Prop:=
 lp (α:=Int) 0 H (fun x1 J2 H3=>
 ift (decide ((x1:Int) < (Sl.len p_s:Int)))
 (ixa p_s x1 fun p5=>
 ldT H3 Qp.c (p5.1,p5.2+(x1:Int).toNat*3) fun x10=>
 callU Tryz.prog C p_f [.agg (Qp.c x10).toArray] H3 (fun v H13=>∃ (r12:Bool),v=.bool r12∧
 ift r12
 (K x1 H13)
 (J2 (w .i64 (x1+1)) H13)))
 (K (-1) H3))
theorem Q9 (C p_s p_f K H) (h:QJ C p_s p_f K H):Qa3 C p_s p_f K H:=by
 refine Ye Tryz.func148 rfl Tryz.ntmps148 [(0,slv p_s),(1,p_f)] (Zo (Za (GL.nil (GC.seq (Zo (Zm (Zq (Zm (GL.nil (GC.block (Yp h (fun x1=>[(8,.int .i64 x1),(0,slv p_s),(1,p_f),(7,.int .i64 (Sl.len p_s:Int))]) ?_)))))))))))
 intro x1 H3 J2 h
 refine Zo (Zi (.bool (decide ((x1:Int) < (Sl.len p_s:Int)))) (GL.nil (GC.seq (Yd h (fun u4 h=>?_) fun u4 h=>?_))))
 refine GC.skip (GC.seq (GC.block (Zo (Zm (Za (GL.nil (Zo (Zm (Zm (Zm (Yx h fun p5 h=>?_)))))))))))
 obtain ⟨x10,v11,h⟩:=h
 refine Zv (OV.loadT rfl rfl rfl v11) (GL.callU (xv:=p_f) (vs:=[.agg (Qp.c x10).toArray]) h trivial rfl rfl rfl ?_)
 rintro _ H13 ⟨r12,rfl,h⟩
 refine GL.nil (Yd h (fun u14 h=>?_) fun u14 h=>?_)
 refine Zo (Zm (Za (GL.nil ?_)))
 exact Y1 I3 ⟨x1,rfl,h⟩
 refine GC.skip_to I3 (GC.region (Zi (.int .i64 (w .i64 (x1+1))) (Zm ?_)))
 exact Yj I3 (w .i64 (x1+1)) h
 refine GC.exit_to I3 (Zo (Za (GL.nil ?_)))
 exact Y1 I3 ⟨(-1),rfl,h⟩
def Qdc (C:Ctx) (p_x:Qp) (v0:Nat×Nat) (v1:Nat×Nat) (v2:Nat×Nat) (K:Bool→Heap→Prop) (H:Heap):Prop:=
 nw (Qp.c p_x) (fun b1 H2=>
 ldP H2 v0 fun x3=>
 ldS H2 ((b1,0).1,(b1,0).2+2) fun x5=>
 Qaw C x3 x5 (fun r7 H8=>
 ldM H8 v1 fun x9=>
 lkM kI (fun x:Bool=>(.bool x:Value)) false x9 r7 (fun x11 is12=>
 jn (α:=Bool) (fun b14 H26=>
 K b14 H26)
 (fun J15=>ift (!x11)
 (ldP H8 v0 fun x18=>
 ldI H8 .i64 v2 fun x20=>
 ldM H8 v1 fun x22=>
 Qax C x18 r7 x20 x22 (fun r24 H25=>
 J15 r24 H25) H8)
 (J15 false H8))) H8) H2) H
theorem QfQ (C p_x v0 v1 v2 K H) (h:Qdc C p_x v0 v1 v2 K H):Qgi C p_x v0 v1 v2 K H:=by
 refine Ye Tryz.func149 rfl Tryz.ntmps149 [(0,.agg (Qp.c p_x).toArray),(1,pv (some v0)),(2,pv (some v1)),(3,pv (some v2))] (Zo (GL.box (v:=.agg (Qp.c p_x).toArray) (cs:=Qp.c p_x) h trivial rfl rfl rfl ?_))
 intro b1 H2 h
 refine Za (GL.nil (Zo (Yl h fun x3 h=>?_)))
 refine Zf (Yl h fun x5 h=>?_)
 refine Zc h Qbu ?_
 rintro _ H8 ⟨r7,rfl,h⟩
 refine Za (GL.nil (Zo (Yl h fun x9 h=>?_)))
 refine Zm ?_
 obtain ⟨x11,is12,hr13,h⟩:=h
 refine Zv (OV.lookup1 (v:=.bool x11) (ke:=kI) (enc:=(fun x:Bool=>(.bool x:Value))) (z:=false) (q:=x9) (k:=r7) (x:=x11) (b:=is12) rfl hr13 rfl rfl rfl (kInt (by kernel_rfl)) rfl) (Zv (OV.not rfl) (Zm ?_))
 obtain ⟨J15,h,hR16⟩:=h
 refine GL.cut (α:=Bool) 6 J15 (fun b14=>[(21,.bool b14)]) ?_ ?_
 rcases h.em with ⟨u17,h⟩ | ⟨u17,h⟩
 obtain ⟨x18,hr19,h⟩:=h
 refine Zu u17 (Yo hr19) (Zu u17 Ym ?_)
 obtain ⟨x20,hr21,h⟩:=h
 refine Zu u17 (Yo hr21) ?_
 obtain ⟨x22,hr23,h⟩:=h
 refine Zu u17 (Yo hr23) (GL.call h (Yt u17) rfl QdH (vs:=[pv x18,.int .i64 r7,.int .i64 x20,mv x22]) rfl ?_)
 rintro _ H25 ⟨r24,rfl,h⟩
 refine Zt u17 ?_
 exact Yj I3 r24 h
 refine Zk u17 (Zk u17 (Zk u17 (Zk u17 (Zk u17 (Zn u17 ?_)))))
 exact Yj I3 false h
 intro b14 H26 h
 replace h:=hR16 b14 H26 h
 refine Za (GL.nil ?_)
 exact Y1 I3 ⟨b14,rfl,h⟩
def Qct (C:Ctx) (p_s:Sl) (p_v:Str) (K:Int→Heap→Prop) (H:Heap):Prop:=
 lp (α:=Int) 0 H (fun x1 J2 H3=>
 ift (decide ((x1:Int) < (Sl.len p_s:Int)))
 (ixa p_s x1 fun p5=>
 ldS H3 (p5.1,p5.2+(x1:Int).toNat*1) fun x10=>
 ift (p_v == x10)
 (K x1 H3)
 (J2 (w .i64 (x1+1)) H3))
 (K (-1) H3))
theorem Qfn (C p_s p_v K H) (h:Qct C p_s p_v K H):QcO C p_s p_v K H:=by
 refine Ye Tryz.func150 rfl Tryz.ntmps150 [(0,slv p_s),(1,sv p_v)] (Zo (Za (GL.nil (GC.seq (Zo (Zm (Zq (Zm (GL.nil (GC.block (Yp h (fun x1=>[(8,.int .i64 x1),(0,slv p_s),(1,sv p_v),(7,.int .i64 (Sl.len p_s:Int))]) ?_)))))))))))
 intro x1 H3 J2 h
 refine Zo (Zi (.bool (decide ((x1:Int) < (Sl.len p_s:Int)))) (GL.nil (GC.seq (Yd h (fun u4 h=>?_) fun u4 h=>?_))))
 refine GC.skip (GC.seq (GC.block (Zo (Zm (Za (GL.nil (Zo (Zm (Zm (Zm (Yx h fun p5 h=>?_)))))))))))
 refine Yl h fun x10 h=>?_
 refine Zv (OV.sbin (a:=p_v) (b:=x10) (v:=.bool (p_v == x10)) rfl rfl rfl) (GL.nil (Yd h (fun u12 h=>?_) fun u12 h=>?_))
 refine Zo (Zm (Za (GL.nil ?_)))
 exact Y1 I3 ⟨x1,rfl,h⟩
 refine GC.skip_to I3 (GC.region (Zi (.int .i64 (w .i64 (x1+1))) (Zm ?_)))
 exact Yj I3 (w .i64 (x1+1)) h
 refine GC.exit_to I3 (Zo (Za (GL.nil ?_)))
 exact Y1 I3 ⟨(-1),rfl,h⟩
def Q3 (C:Ctx) (p_s:Sl) (p_f:Value) (K:Int→Heap→Prop) (H:Heap):Prop:=
 lp (α:=Int) 0 H (fun x1 J2 H3=>
 ift (decide ((x1:Int) < (Sl.len p_s:Int)))
 (ixa p_s x1 fun p5=>
 ldT H3 Qg.c (p5.1,p5.2+(x1:Int).toNat*2) fun x10=>
 callU Tryz.prog C p_f [.agg (Qg.c x10).toArray] H3 (fun v H13=>∃ (r12:Bool),v=.bool r12∧
 ift r12
 (K x1 H13)
 (J2 (w .i64 (x1+1)) H13)))
 (K (-1) H3))
theorem QaF (C p_s p_f K H) (h:Q3 C p_s p_f K H):QaR C p_s p_f K H:=by
 refine Ye Tryz.func151 rfl Tryz.ntmps151 [(0,slv p_s),(1,p_f)] (Zo (Za (GL.nil (GC.seq (Zo (Zm (Zq (Zm (GL.nil (GC.block (Yp h (fun x1=>[(8,.int .i64 x1),(0,slv p_s),(1,p_f),(7,.int .i64 (Sl.len p_s:Int))]) ?_)))))))))))
 intro x1 H3 J2 h
 refine Zo (Zi (.bool (decide ((x1:Int) < (Sl.len p_s:Int)))) (GL.nil (GC.seq (Yd h (fun u4 h=>?_) fun u4 h=>?_))))
 refine GC.skip (GC.seq (GC.block (Zo (Zm (Za (GL.nil (Zo (Zm (Zm (Zm (Yx h fun p5 h=>?_)))))))))))
 obtain ⟨x10,v11,h⟩:=h
 refine Zv (OV.loadT rfl rfl rfl v11) (GL.callU (xv:=p_f) (vs:=[.agg (Qg.c x10).toArray]) h trivial rfl rfl rfl ?_)
 rintro _ H13 ⟨r12,rfl,h⟩
 refine GL.nil (Yd h (fun u14 h=>?_) fun u14 h=>?_)
 refine Zo (Zm (Za (GL.nil ?_)))
 exact Y1 I3 ⟨x1,rfl,h⟩
 refine GC.skip_to I3 (GC.region (Zi (.int .i64 (w .i64 (x1+1))) (Zm ?_)))
 exact Yj I3 (w .i64 (x1+1)) h
 refine GC.exit_to I3 (Zo (Za (GL.nil ?_)))
 exact Y1 I3 ⟨(-1),rfl,h⟩
def QP (C:Ctx) (p_s:Sl) (p_f:Value) (K:Bool→Heap→Prop) (H:Heap):Prop:=
 QaD C p_s p_f (fun r1 H2=>
 K (decide ((r1:Int) ≥ 0)) H2) H
theorem Qan (C p_s p_f K H) (h:QP C p_s p_f K H):QB C p_s p_f K H:=by
 refine Ye Tryz.func152 rfl Tryz.ntmps152 [(0,slv p_s),(1,p_f)] (Zo (Za (GL.nil (Zo (Zm (Zm (Zc h QbY ?_)))))))
 rintro _ H2 ⟨r1,rfl,h⟩
 refine Zi (.bool (decide ((r1:Int) ≥ 0))) (Za (GL.nil ?_))
 exact Y1 I3 ⟨(decide ((r1:Int) ≥ 0)),rfl,h⟩
def QiB (C:Ctx) (p_f:Qf) (v0:Nat×Nat) (K:Bool→Heap→Prop) (H:Heap):Prop:=
 nw (Qf.c p_f) (fun b1 H2=>
 ldT H2 Qd.c ((b1,0).1,(b1,0).2+1) fun x3=>
 ldL H2 v0 fun x5=>
 QfM C x3 x5 (fun r7 H8=>
 K r7 H8) H2) H
theorem Qmk (C p_f v0 K H) (h:QiB C p_f v0 K H):QmT C p_f v0 K H:=by
 refine Ye Tryz.func153 rfl Tryz.ntmps153 [(0,.agg (Qf.c p_f).toArray),(1,pv (some v0))] (Zo (GL.box (v:=.agg (Qf.c p_f).toArray) (cs:=Qf.c p_f) h trivial rfl rfl rfl ?_))
 intro b1 H2 h
 refine Za (GL.nil (Zo (Zf ?_)))
 obtain ⟨x3,hr4,h⟩:=h
 refine Zv (OV.loadT rfl rfl rfl hr4) (Yl h fun x5 h=>?_)
 refine Zc h Qkm ?_
 rintro _ H8 ⟨r7,rfl,h⟩
 refine Za (GL.nil ?_)
 exact Y1 I3 ⟨r7,rfl,h⟩
def Qkv (C:Ctx) (p_t:Qd) (p_params:Sl) (K:Bool→Heap→Prop) (H:Heap):Prop:=
 nw (Qd.c p_t) (fun b1 H2=>
 nw ([slv p_params]) (fun b3 H4=>
 ldS H4 ((b1,0).1,(b1,0).2+0) fun x5=>
 ixs x5 0 fun c7=>
 ift (((c7.toNat:Int):Int) == 39)
 (ldL H4 (b3,0) fun x11=>
 ldS H4 ((b1,0).1,(b1,0).2+0) fun x13=>
 Qw C x11 x13 (fun r15 H16=>
 K (!r15) H16) H4)
 (ldL H4 ((b1,0).1,(b1,0).2+1) fun x17=>
 QO C x17 (.func (.func 203) (List.toArray []) (List.toArray [pv (some (b3,0))]):Value) (fun r19 H20=>
 K r19 H20) H4)) H2) H
theorem QnI (C p_t p_params K H) (h:Qkv C p_t p_params K H):QfM C p_t p_params K H:=by
 refine Ye Tryz.func154 rfl Tryz.ntmps154 [(0,.agg (Qd.c p_t).toArray),(1,slv p_params)] (Zo (GL.box (v:=.agg (Qd.c p_t).toArray) (cs:=Qd.c p_t) h trivial rfl rfl rfl ?_))
 intro b1 H2 h
 refine GL.box (v:=slv p_params) (cs:=[slv p_params]) h trivial rfl rfl rfl ?_
 intro b3 H4 h
 refine Za (GL.nil (GC.seq (Zo (Zf (Yl h fun x5 h=>?_)))))
 refine Ys h fun c7 h=>?_
 refine Zi (.bool (((c7.toNat:Int):Int) == 39)) (GL.nil (Yd h (fun u10 h=>?_) fun u10 h=>?_))
 refine Zo (Yl h fun x11 h=>?_)
 refine Zf (Yl h fun x13 h=>?_)
 refine Zc h QbK ?_
 rintro _ H16 ⟨r15,rfl,h⟩
 refine Zv (OV.not rfl) (Za (GL.nil ?_))
 exact Y1 I3 ⟨(!r15),rfl,h⟩
 refine GC.skip (Zo (Zf (Yl h fun x17 h=>?_)))
 refine Zv (OV.makeFunc (vs:=[]) (us:=[pv (some (b3,0))]) rfl rfl) (Zc h Qa6 ?_)
 rintro _ H20 ⟨r19,rfl,h⟩
 refine Za (GL.nil ?_)
 exact Y1 I3 ⟨r19,rfl,h⟩
def Qfb (C:Ctx) (E:Value→Heap→Prop) (p_p:Option (Nat×Nat)) (p_m:Qa) (p_t:Qd) (p_pos:Qo) (K:Qd→Heap→Prop) (H:Heap):Prop:=
 nw (Qa.c p_m) (fun b1 H2=>
 nw (Qd.c p_t) (fun b3 H4=>
 nw (Qo.c p_pos) (fun b5 H6=>
 nw (Qd.c Qd.zero) (fun b7 H8=>
 jn (α:=Unit) (fun x10 H11=>
 ldL H11 ((b3,0).1,(b3,0).2+1) fun x39=>
 st ((b3,0).1,(b3,0).2+1) (slv Sl.nil) (fun H41=>
 lp (α:=Int) 0 H41 (fun x42 J43 H44=>
 ift (decide ((x42:Int) < (Sl.len x39:Int)))
 (ixa x39 x42 fun p46=>
 ldT H44 Qd.c (p46.1,p46.2+(x42:Int).toNat*2) fun x51=>
 nw (Qd.c Qd.zero) (fun b53 H54=>
 stT (b53,0) (Qd.c x51) (fun H55=>
 dr H55 fun Hs56=>
 ldL Hs56 ((b3,0).1,(b3,0).2+1) fun x58=>
 ldT Hs56 Qa.c (b1,0) fun x60=>
 ldT Hs56 Qd.c (b53,0) fun x62=>
 ldT Hs56 Qo.c (b5,0) fun x64=>
 QbQ C E p_p x60 x62 x64 (fun r67 H68=>
 Heap.le Hs56 H68∧
 nw ((Qd.c r67)++[]) (fun b70 H71=>
 Heap.le Hs56 H71∧
 apS (Qd.c Qd.zero) 40 x58 (Sl.of (some (b70,0)) 1 1) (fun r73 H74=>
 Heap.le Hs56 H74∧
 st ((b3,0).1,(b3,0).2+1) (slv r73) (fun H75=>
 J43 (w .i64 (x42+1)) H75) H74) H71) H68) H55) H54) H44)
 (ldT H44 Qd.c (b3,0) fun x76=>
 stT (b7,0) (Qd.c x76) (fun H78=>
 ldT H78 Qd.c (b7,0) fun x79=>
 K x79 H78) H44))) H11)
 (fun J9=>ldS H8 ((b3,0).1,(b3,0).2+0) fun x13=>
 jn (α:=Bool) (fun x16 H17=>
 ift x16
 (J9 () H17)
 (ldS H17 ((b3,0).1,(b3,0).2+0) fun x24=>
 ixs x24 0 fun c26=>
 ift (((c26.toNat:Int):Int) != 39)
 (ldT H17 Qa.c (b1,0) fun x30=>
 ldS H17 ((b3,0).1,(b3,0).2+0) fun x32=>
 ldT H17 Qo.c (b5,0) fun x34=>
 Qah C E p_p x30 x32 0 x34 (fun r36 H37=>
 st ((b3,0).1,(b3,0).2+0) (sv r36) (fun H38=>
 J9 () H38) H37) H17)
 (J9 () H17)))
 (fun J15=>ift (x13 == ([98,111,111,108]:Str))
 (J15 (x13 == ([98,111,111,108]:Str)) H8)
 (ift (x13 == ([105,110,116]:Str))
 (J15 (x13 == ([105,110,116]:Str)) H8)
 (ift (x13 == ([98,105,103]:Str))
 (J15 (x13 == ([98,105,103]:Str)) H8)
 (ift (x13 == ([116,101,120,116]:Str))
 (J15 (x13 == ([116,101,120,116]:Str)) H8)
 (J15 (x13 == ([116,117,112,108,101]:Str)) H8))))))) H6) H4) H2) H
theorem Qi9 (C E p_p p_m p_t p_pos K H) (h:Qfb C E p_p p_m p_t p_pos K H):QbQ C E p_p p_m p_t p_pos K H:=by
 refine SpecP.enter Tryz.func155 rfl Tryz.ntmps155 rfl (GC.sub [(0,pv p_p),(1,.agg (Qa.c p_m).toArray),(2,.agg (Qd.c p_t).toArray),(3,.agg (Qo.c p_pos).toArray)] ⟨rfl,rfl,rfl,rfl,trivial⟩ (Zo (GL.box (v:=.agg (Qa.c p_m).toArray) (cs:=Qa.c p_m) h trivial rfl rfl rfl ?_)))
 intro b1 H2 h
 refine GL.box (v:=.agg (Qd.c p_t).toArray) (cs:=Qd.c p_t) h trivial rfl rfl rfl ?_
 intro b3 H4 h
 refine GL.box (v:=.agg (Qo.c p_pos).toArray) (cs:=Qo.c p_pos) h trivial rfl rfl rfl ?_
 intro b5 H6 h
 refine GL.alloc (cs:=Qd.c Qd.zero) h trivial rfl rfl rfl ?_
 intro b7 H8 h
 refine GL.nil ?_
 obtain ⟨J9,h,hR12⟩:=h
 refine GC.join (α:=Unit) J9 (fun _=>[(0,pv p_p),(5,pv (some (b1,0))),(6,pv (some (b3,0))),(7,pv (some (b5,0))),(8,pv (some (b7,0)))]) ?_ ?_
 refine Zo (Zf (Yl h fun x13 h=>?_))
 refine GL.nil (GC.block ?_)
 obtain ⟨J15,h,hR18⟩:=h
 refine GC.join (α:=Bool) J15 (fun x16=>[(25,.bool x16),(0,pv p_p),(5,pv (some (b1,0))),(6,pv (some (b3,0))),(7,pv (some (b5,0))),(8,pv (some (b7,0)))]) ?_ ?_
 refine Zo (Zv (OV.sbin (a:=x13) (b:=([98,111,111,108]:Str)) (v:=.bool (x13 == ([98,111,111,108]:Str))) rfl rfl rfl) (Za (GL.nil (Yd h (fun u19 h=>?_) fun u19 h=>?_))))
 exact Yk I3 (x13 == ([98,111,111,108]:Str)) h
 refine Zo (Zv (OV.sbin (a:=x13) (b:=([105,110,116]:Str)) (v:=.bool (x13 == ([105,110,116]:Str))) rfl rfl rfl) (Za (GL.nil (Yd h (fun u20 h=>?_) fun u20 h=>?_))))
 exact Yk I3 (x13 == ([105,110,116]:Str)) h
 refine Zo (Zv (OV.sbin (a:=x13) (b:=([98,105,103]:Str)) (v:=.bool (x13 == ([98,105,103]:Str))) rfl rfl rfl) (Za (GL.nil (Yd h (fun u21 h=>?_) fun u21 h=>?_))))
 exact Yk I3 (x13 == ([98,105,103]:Str)) h
 refine Zo (Zv (OV.sbin (a:=x13) (b:=([116,101,120,116]:Str)) (v:=.bool (x13 == ([116,101,120,116]:Str))) rfl rfl rfl) (Za (GL.nil (Yd h (fun u22 h=>?_) fun u22 h=>?_))))
 exact Yk I3 (x13 == ([116,101,120,116]:Str)) h
 refine GC.region (Zv (OV.sbin (a:=x13) (b:=([116,117,112,108,101]:Str)) (v:=.bool (x13 == ([116,117,112,108,101]:Str))) rfl rfl rfl) (Za ?_))
 exact Yj I3 (x13 == ([116,117,112,108,101]:Str)) h
 intro x16 H17 h
 replace h:=hR18 x16 H17 h
 refine Yd h (fun u23 h=>?_) fun u23 h=>?_
 exact Yk I3 () h
 refine Zo (Zf (Yl h fun x24 h=>?_))
 refine Ys h fun c26 h=>?_
 refine Zi (.bool (((c26.toNat:Int):Int) != 39)) (GL.nil (Yd h (fun u29 h=>?_) fun u29 h=>?_))
 refine GC.region (Zm ?_)
 obtain ⟨x30,v31,h⟩:=h
 refine Zv (OV.loadT rfl rfl rfl v31) (Zf (Yl h fun x32 h=>?_))
 obtain ⟨x34,v35,h⟩:=h
 refine Zv (OV.loadT rfl rfl rfl v35) (GL.callP h (fun _ _ _ _ h=>h) trivial rfl Qbv (vs:=[pv p_p,.agg (Qa.c x30).toArray,sv x32,.int .i64 0,.agg (Qo.c x34).toArray]) rfl ?_)
 rintro _ H37 ⟨r36,rfl,h⟩
 refine Zf (GL.store (p:=((b3,0).1,(b3,0).2+0)) (v:=sv r36) h trivial rfl rfl rfl rfl ?_)
 intro H38 h
 exact Yj I3 () h
 exact Yk I3 () h
 intro x10 H11 h
 replace h:=hR12 x10 H11 h
 refine Zo (Zf (Yl h fun x39 h=>?_))
 refine Za (GL.nil (Zo (Zf (GL.store (p:=((b3,0).1,(b3,0).2+1)) (v:=slv Sl.nil) h trivial rfl rfl rfl rfl ?_))))
 intro H41 h
 refine GL.nil (GC.seq (Zo (Zm (Zq (Zm (GL.nil (GC.block (Yp h (fun x42=>[(36,.int .i64 x42),(0,pv p_p),(5,pv (some (b1,0))),(6,pv (some (b3,0))),(7,pv (some (b5,0))),(8,pv (some (b7,0))),(34,slv x39),(35,.int .i64 (Sl.len x39:Int))]) ?_))))))))
 intro x42 H44 J43 h
 refine Zo (Zi (.bool (decide ((x42:Int) < (Sl.len x39:Int)))) (GL.nil (GC.seq (Yd h (fun u45 h=>?_) fun u45 h=>?_))))
 refine GC.skip (GC.seq (GC.block (Zo (Yx h fun p46 h=>?_))))
 obtain ⟨x51,v52,h⟩:=h
 refine Zv (OV.loadT rfl rfl rfl v52) (GL.alloc (cs:=Qd.c Qd.zero) h trivial rfl rfl rfl ?_)
 intro b53 H54 h
 refine GL.storeT (p:=(b53,0)) (vs:=Qd.c x51) h trivial rfl rfl rfl rfl ?_
 intro H55 h
 refine GL.nil ?_
 obtain ⟨Hs56,hle57,h⟩:=h
 refine GC.tail (Hs:=Hs56) 10 (by kernel_rfl) hle57 (by kernel_rfl) (GT.takeP 0 rfl trivial (OV.fieldAddr (p:=(b3,0)) rfl rfl) ?_)
 obtain ⟨x58,v59,h⟩:=h
 refine GT.takeP 1 rfl trivial (OV.load (p:=((b3,0).1,(b3,0).2+1)) rfl rfl v59) (GT.takeP 2 rfl trivial (OV.move (v:=pv p_p) rfl) ?_)
 obtain ⟨x60,v61,h⟩:=h
 refine GT.takeP 3 rfl trivial (OV.loadT (p:=(b1,0)) (cs:=Qa.c x60) rfl rfl rfl v61) ?_
 obtain ⟨x62,v63,h⟩:=h
 refine GT.takeP 4 rfl trivial (OV.loadT (p:=(b53,0)) (cs:=Qd.c x62) rfl rfl rfl v63) ?_
 obtain ⟨x64,v65,h⟩:=h
 refine GT.takeP 5 rfl trivial (OV.loadT (p:=(b5,0)) (cs:=Qo.c x64) rfl rfl rfl v65) (GT.eff 6 rfl (by kernel_rfl) rfl (GL.callP h (fun _ _ _ _ h=>h) trivial rfl Qe8 (vs:=[pv p_p,.agg (Qa.c x60).toArray,.agg (Qd.c x62).toArray,.agg (Qo.c x64).toArray]) rfl ?_))
 rintro _ H68 ⟨r67,rfl,h⟩
 obtain ⟨hle66,h⟩:=h
 refine GT.back hle66 (GT.eff 7 rfl (by kernel_rfl) rfl (GL.buildSlice (cs:=(Qd.c r67)++[]) h trivial rfl (vs:=[(0,.agg (Qd.c r67).toArray)]) rfl ⟨24,fun _=>by kernel_rfl⟩ ?_))
 intro b70 H71 h
 obtain ⟨hle69,h⟩:=h
 refine GT.back hle69 (GT.eff 8 rfl (by kernel_rfl) rfl (GL.appendS (s:=x58) (s2:=(Sl.of (some (b70,0)) 1 1)) (zc:=Qd.c Qd.zero) (bytes:=40) h trivial rfl rfl rfl ⟨⟨_,_,_,rfl,rfl,rfl,rfl,rfl,rfl⟩⟩ rfl ?_))
 intro r73 H74 h
 obtain ⟨hle72,h⟩:=h
 refine GT.back hle72 (GT.takeP 9 rfl trivial (OV.fieldAddr (p:=(b3,0)) rfl rfl) (GT.done (by kernel_rfl) ?_))
 show GL _ _ _ _ _ [_] _ _
 refine GL.store (p:=((b3,0).1,(b3,0).2+1)) (v:=slv r73) h trivial rfl rfl rfl rfl ?_
 intro H75 h
 refine GL.nil_to I3 (GC.region (Zi (.int .i64 (w .i64 (x42+1))) (Zm ?_)))
 exact Yj I3 (w .i64 (x42+1)) h
 refine GC.exit_to I3 (Zo ?_)
 obtain ⟨x76,v77,h⟩:=h
 refine Zv (OV.loadT rfl rfl rfl v77) (GL.storeT (p:=(b7,0)) (vs:=Qd.c x76) h trivial rfl rfl rfl rfl ?_)
 intro H78 h
 refine GL.nil ?_
 obtain ⟨x79,v80,h⟩:=h
 exact GC.ret (fun _ _ hf hs=>postP (E:=E) hf (Qsy rfl (RV.cellT (p:=(b7,0)) (cs:=Qd.c x79) rfl rfl rfl v80) hf hs ⟨x79,rfl,h⟩))
def Qkx (C:Ctx) (p_s:Str) (p_sep:Str) (K:Str→Str→Bool→Heap→Prop) (H:Heap):Prop:=
 Qdp C p_s p_sep (fun r1 r2 r3 H4=>
 K r1 r2 r3 H4) H
theorem QnK (C p_s p_sep K H) (h:Qkx C p_s p_sep K H):Qen C p_s p_sep K H:=by
 refine Ye Tryz.func156 rfl Tryz.ntmps156 [(0,sv p_s),(1,sv p_sep)] (Zo (Za (Za (Za (GL.nil (Zo (Zm (Zm (Zc h Qf0 ?_)))))))))
 rintro _ H4 ⟨r1,r2,r3,rfl,h⟩
 refine Yv (sv r1) rfl rfl (Yv (sv r2) rfl rfl (Yv (.bool r3) rfl rfl (Za (Za (Za (GL.nil ?_))))))
 exact Y3 I3 ⟨r1,r2,r3,rfl,h⟩
def Qd2 (C:Ctx) (p_x:Qp) (v0:Nat×Nat) (K:Bool→Heap→Prop) (H:Heap):Prop:=
 nw (Qp.c p_x) (fun b1 H2=>
 ldS H2 ((b1,0).1,(b1,0).2+2) fun x3=>
 ldS H2 v0 fun x5=>
 K (x3 == x5) H2) H
theorem Qhc (C p_x v0 K H) (h:Qd2 C p_x v0 K H):Qie C p_x v0 K H:=by
 refine Ye Tryz.func157 rfl Tryz.ntmps157 [(0,.agg (Qp.c p_x).toArray),(1,pv (some v0))] (Zo (GL.box (v:=.agg (Qp.c p_x).toArray) (cs:=Qp.c p_x) h trivial rfl rfl rfl ?_))
 intro b1 H2 h
 refine Za (GL.nil (Zo (Zf (Yl h fun x3 h=>?_))))
 refine Yl h fun x5 h=>?_
 refine Zv (OV.sbin (a:=x3) (b:=x5) (v:=.bool (x3 == x5)) rfl rfl rfl) (Za (GL.nil ?_))
 exact Y1 I3 ⟨(x3 == x5),rfl,h⟩
def QbE (C:Ctx) (p_s:Str) (p_prefix:Str) (K:Bool→Heap→Prop) (H:Heap):Prop:=
 jn (α:=Bool) (fun b1 H11=>
 K b1 H11)
 (fun J2=>ift (decide (((List.length p_s:Int):Int) ≥ (List.length p_prefix:Int)))
 (slS p_s 0 (List.length p_prefix:Int) fun t5=>
 J2 (t5 == p_prefix) H)
 (J2 false H))
theorem Qek (C p_s p_prefix K H) (h:QbE C p_s p_prefix K H):Qag C p_s p_prefix K H:=by
 refine Ye Tryz.func158 rfl Tryz.ntmps158 [(0,sv p_s),(1,sv p_prefix)] (Zo (Za (GL.nil (Zo (Zm (Zr (Zm (Zr (Zi (.bool (decide (((List.length p_s:Int):Int) ≥ (List.length p_prefix:Int)))) (Zm ?_))))))))))
 obtain ⟨J2,h,hR3⟩:=h
 refine GL.cut (α:=Bool) 7 J2 (fun b1=>[(17,.bool b1)]) ?_ ?_
 rcases h.em with ⟨u4,h⟩ | ⟨u4,h⟩
 refine Zu u4 Ym (Zu u4 Ym (Zu u4 (OV.lenStr rfl rfl) ?_))
 obtain ⟨h6,h7,h8,t5,h9,h⟩:=h
 refine Zu u4 (OV.sliceStr (s:=p_s) h6 h7 h8 h9 rfl rfl rfl rfl rfl rfl) (Zu u4 Ym (Zu u4 (OV.sbin (a:=t5) (b:=p_prefix) (v:=.bool (t5 == p_prefix)) rfl rfl rfl) (Zt u4 ?_)))
 exact Yj I3 (t5 == p_prefix) h
 refine Zk u4 (Zk u4 (Zk u4 (Zk u4 (Zk u4 (Zk u4 (Zn u4 ?_))))))
 exact Yj I3 false h
 intro b1 H11 h
 replace h:=hR3 b1 H11 h
 refine Za (GL.nil ?_)
 exact Y1 I3 ⟨b1,rfl,h⟩
def QgD (C:Ctx) (p_w:Option (Nat×Nat)) (p_is:Bool) (K:Heap→Prop) (H:Heap):Prop:=
 ift p_is
 (nck p_w fun p2=>
 Ql C (some (p2.1,p2.2+0)) [112,117,98,32] (fun r4 r5 H6=>
 K H6) H)
 (K H)
theorem Qk5 (C p_w p_is K H) (h:QgD C p_w p_is K H):Qdn C p_w p_is K H:=by
 refine Ye Tryz.func159 rfl Tryz.ntmps159 [(0,pv p_w),(1,.bool p_is)] (Zo (Zm (GL.nil (Yd h (fun u1 h=>?_) fun u1 h=>?_))))
 refine GC.region (Zm ?_)
 obtain ⟨p2,hp3,h⟩:=h
 refine Zv (OV.nilCheck (q:=p_w) rfl hp3) (Zf (Zc h Qn ?_))
 rintro _ H6 ⟨r4,r5,rfl,h⟩
 exact GL.ends (fun _ _ hf hs=>Qt rfl hf hs ⟨rfl,h⟩)
 exact GC.ends (fun _ _ hf hs=>Qt rfl hf hs ⟨rfl,h⟩)
def QeD (C:Ctx) (p_w:Option (Nat×Nat)) (p_l:Sl) (p_write:Value) (K:Heap→Prop) (H:Heap):Prop:=
 nck p_w fun p1=>
 Qq C (some (p1.1,p1.2+0)) 40 (fun r3 H4=>
 Qgq C p_w p_l [44,32] p_write (fun H5=>
 nck p_w fun p6=>
 Qq C (some (p6.1,p6.2+0)) 41 (fun r8 H9=>
 K H9) H5) H4) H
theorem Qh7 (C p_w p_l p_write K H) (h:QeD C p_w p_l p_write K H):QcH C p_w p_l p_write K H:=by
 refine Ye Tryz.func160 rfl Tryz.ntmps160 [(0,pv p_w),(1,slv p_l),(2,p_write)] (Zo (Zm ?_))
 obtain ⟨p1,hp2,h⟩:=h
 refine Zv (OV.nilCheck (q:=p_w) rfl hp2) (Zf (Zc h Qr ?_))
 rintro _ H4 ⟨r3,rfl,h⟩
 refine GL.nil (Zo (Zm (Zm (Zm (Zc h QkW ?_)))))
 rintro _ H5 ⟨rfl,h⟩
 refine GL.nil (GC.region (Zm ?_))
 obtain ⟨p6,hp7,h⟩:=h
 refine Zv (OV.nilCheck (q:=p_w) rfl hp7) (Zf (Zc h Qr ?_))
 rintro _ H9 ⟨r8,rfl,h⟩
 exact GL.ends (fun _ _ hf hs=>Qt rfl hf hs ⟨rfl,h⟩)
def Qed (C:Ctx) (p_s:Str) (v0:Nat×Nat) (K:Heap→Prop) (H:Heap):Prop:=
 ldP H v0 fun x1=>
 nck x1 fun p3=>
 Ql C (some (p3.1,p3.2+0)) p_s (fun r5 r6 H7=>
 K H7) H
theorem Qhp (C p_s v0 K H) (h:Qed C p_s v0 K H):Qer C p_s v0 K H:=by
 refine Ye Tryz.func161 rfl Tryz.ntmps161 [(0,sv p_s),(1,pv (some v0))] (GC.region (Yl h fun x1 h=>?_))
 obtain ⟨p3,hp4,h⟩:=h
 refine Zv (OV.nilCheck (q:=x1) rfl hp4) (Zf (Zm (Zc h Qn ?_)))
 rintro _ H7 ⟨r5,r6,rfl,h⟩
 exact GL.ends (fun _ _ hf hs=>Qt rfl hf hs ⟨rfl,h⟩)
def Qea (C:Ctx) (p_w:Option (Nat×Nat)) (p_l:Sl) (p_between:Str) (p_write:Value) (K:Heap→Prop) (H:Heap):Prop:=
 lp (α:=Int) 0 H (fun x1 J2 H3=>
 ift (decide ((x1:Int) < (Sl.len p_l:Int)))
 (ixa p_l x1 fun p5=>
 ldT H3 Qg.c (p5.1,p5.2+(x1:Int).toNat*2) fun x10=>
 nw (Qg.c Qg.zero) (fun b12 H13=>
 stT (b12,0) (Qg.c x10) (fun H14=>
 jn (α:=Unit) (fun x16 H17=>
 ldT H17 Qg.c (b12,0) fun x25=>
 callU Tryz.prog C p_write [.agg (Qg.c x25).toArray] H17 (fun v H27=>v=.tuple #[]∧
 J2 (w .i64 (x1+1)) H27))
 (fun J15=>ift (decide ((x1:Int) > 0))
 (nck p_w fun p20=>
 Ql C (some (p20.1,p20.2+0)) p_between (fun r22 r23 H24=>
 J15 () H24) H14)
 (J15 () H14))) H13) H3)
 (K H3))
theorem Qhm (C p_w p_l p_between p_write K H) (h:Qea C p_w p_l p_between p_write K H):Qce C p_w p_l p_between p_write K H:=by
 refine Ye Tryz.func162 rfl Tryz.ntmps162 [(0,pv p_w),(1,slv p_l),(2,sv p_between),(3,p_write)] (Zo (Zm (Zq (Zm (GL.nil (GC.block (Yp h (fun x1=>[(12,.int .i64 x1),(0,pv p_w),(2,sv p_between),(3,p_write),(10,slv p_l),(11,.int .i64 (Sl.len p_l:Int))]) ?_)))))))
 intro x1 H3 J2 h
 refine Zo (Zi (.bool (decide ((x1:Int) < (Sl.len p_l:Int)))) (GL.nil (GC.seq (Yd h (fun u4 h=>?_) fun u4 h=>?_))))
 refine GC.skip (GC.seq (GC.block (Zo (Zm (Yx h fun p5 h=>?_)))))
 obtain ⟨x10,v11,h⟩:=h
 refine Zv (OV.loadT rfl rfl rfl v11) (GL.alloc (cs:=Qg.c Qg.zero) h trivial rfl rfl rfl ?_)
 intro b12 H13 h
 refine Za (GL.storeT (p:=(b12,0)) (vs:=Qg.c x10) h trivial rfl rfl rfl rfl ?_)
 intro H14 h
 refine GL.nil ?_
 obtain ⟨J15,h,hR18⟩:=h
 refine GC.join (α:=Unit) J15 (fun _=>[(0,pv p_w),(2,sv p_between),(3,p_write),(9,pv (some (b12,0))),(10,slv p_l),(11,.int .i64 (Sl.len p_l:Int)),(12,.int .i64 x1)]) ?_ ?_
 refine Zo (Zm (Zi (.bool (decide ((x1:Int) > 0))) (GL.nil (Yd h (fun u19 h=>?_) fun u19 h=>?_))))
 refine GC.region (Zm ?_)
 obtain ⟨p20,hp21,h⟩:=h
 refine Zv (OV.nilCheck (q:=p_w) rfl hp21) (Zf (Zm (Zc h Qn ?_)))
 rintro _ H24 ⟨r22,r23,rfl,h⟩
 exact Yj I3 () h
 exact Yk I3 () h
 intro x16 H17 h
 replace h:=hR18 x16 H17 h
 refine GC.region (Zm ?_)
 obtain ⟨x25,v26,h⟩:=h
 refine Zv (OV.loadT rfl rfl rfl v26) (GL.callU (xv:=p_write) (vs:=[.agg (Qg.c x25).toArray]) h trivial rfl rfl rfl ?_)
 rintro _ H27 ⟨rfl,h⟩
 refine GL.nil_to I3 (GC.region (Zi (.int .i64 (w .i64 (x1+1))) (Zm ?_)))
 exact Yj I3 (w .i64 (x1+1)) h
 exact GC.exit_ends (fun _ _ hf hs=>Qt rfl hf hs ⟨rfl,h⟩)
def Qee (C:Ctx) (p_c:Qg) (v0:Nat×Nat) (K:Heap→Prop) (H:Heap):Prop:=
 nw (Qg.c p_c) (fun b1 H2=>
 dr H2 fun Hs3=>
 ldP Hs3 v0 fun x5=>
 nck x5 fun p7=>
 ldS Hs3 ((b1,0).1,(b1,0).2+0) fun x9=>
 Ql C (some (p7.1,p7.2+0)) x9 (fun r12 r13 H14=>
 Heap.le Hs3 H14∧
 ldL H14 ((b1,0).1,(b1,0).2+1) fun x15=>
 ift (decide (((Sl.len x15:Int):Int) > 0))
 (ldP H14 v0 fun x18=>
 ldL H14 ((b1,0).1,(b1,0).2+1) fun x20=>
 ldP H14 v0 fun x22=>
 Qad C x18 x20 (.func (.func 165) (List.toArray [pv x22]) (List.toArray []):Value) (fun H24=>
 K H24) H14)
 (K H14)) H2) H
theorem Qhq (C p_c v0 K H) (h:Qee C p_c v0 K H):Qes C p_c v0 K H:=by
 refine Ye Tryz.func163 rfl Tryz.ntmps163 [(0,.agg (Qg.c p_c).toArray),(1,pv (some v0))] (Zo (GL.box (v:=.agg (Qg.c p_c).toArray) (cs:=Qg.c p_c) h trivial rfl rfl rfl ?_))
 intro b1 H2 h
 refine GL.nil (GC.seq ?_)
 obtain ⟨Hs3,hle4,h⟩:=h
 refine GC.any (Hs:=Hs3) (by kernel_rfl) hle4 ?_
 obtain ⟨x5,hr6,h⟩:=h
 refine Zp 0 rfl (Yo hr6) ?_
 obtain ⟨p7,hp8,h⟩:=h
 refine Zp 1 rfl (OV.nilCheck (q:=x5) rfl hp8) (Zp 2 rfl Yf (Zp 3 rfl Yf ?_))
 obtain ⟨x9,hr10,h⟩:=h
 refine Zp 4 rfl (Yo hr10) (GA.eff 5 rfl (by kernel_rfl) (Zc h Qn ?_))
 rintro _ H14 ⟨r12,r13,rfl,h⟩
 obtain ⟨hle11,h⟩:=h
 refine GA.back hle11 (GA.done (by kernel_rfl) (GL.nil (Zo (Zf (Yl h fun x15 h=>?_)))))
 refine Zq (Zi (.bool (decide (((Sl.len x15:Int):Int) > 0))) (GL.nil (Yd h (fun u17 h=>?_) fun u17 h=>?_)))
 refine GC.region (Yl h fun x18 h=>?_)
 refine Zf (Yl h fun x20 h=>?_)
 refine Yl h fun x22 h=>?_
 refine Zv (OV.makeFunc (vs:=[pv x22]) (us:=[]) rfl rfl) (Zc h Qcq ?_)
 rintro _ H24 ⟨rfl,h⟩
 exact GL.ends (fun _ _ hf hs=>Qt rfl hf hs ⟨rfl,h⟩)
 exact GC.ends (fun _ _ hf hs=>Qt rfl hf hs ⟨rfl,h⟩)
def Qcu (C:Ctx) (p_w:Option (Nat×Nat)) (p_l:Sl) (p_write:Value) (K:Heap→Prop) (H:Heap):Prop:=
 nck p_w fun p1=>
 Qq C (some (p1.1,p1.2+0)) 40 (fun r3 H4=>
 QbX C p_w p_l [44,32] p_write (fun H5=>
 nck p_w fun p6=>
 Qq C (some (p6.1,p6.2+0)) 41 (fun r8 H9=>
 K H9) H5) H4) H
theorem Qfo (C p_w p_l p_write K H) (h:Qcu C p_w p_l p_write K H):Qad C p_w p_l p_write K H:=by
 refine Ye Tryz.func164 rfl Tryz.ntmps164 [(0,pv p_w),(1,slv p_l),(2,p_write)] (Zo (Zm ?_))
 obtain ⟨p1,hp2,h⟩:=h
 refine Zv (OV.nilCheck (q:=p_w) rfl hp2) (Zf (Zc h Qr ?_))
 rintro _ H4 ⟨r3,rfl,h⟩
 refine GL.nil (Zo (Zm (Zm (Zm (Zc h Qg5 ?_)))))
 rintro _ H5 ⟨rfl,h⟩
 refine GL.nil (GC.region (Zm ?_))
 obtain ⟨p6,hp7,h⟩:=h
 refine Zv (OV.nilCheck (q:=p_w) rfl hp7) (Zf (Zc h Qr ?_))
 rintro _ H9 ⟨r8,rfl,h⟩
 exact GL.ends (fun _ _ hf hs=>Qt rfl hf hs ⟨rfl,h⟩)
def QeG (C:Ctx) (p_w:Option (Nat×Nat)) (p_f:Qf) (K:Heap→Prop) (H:Heap):Prop:=
 nw (Qf.c p_f) (fun b1 H2=>
 jn (α:=Unit) (fun x4 H5=>
 ldT H5 Qd.c ((b1,0).1,(b1,0).2+1) fun x15=>
 QeX C p_w x15 (fun H17=>
 K H17) H5)
 (fun J3=>ldS H2 ((b1,0).1,(b1,0).2+0) fun x7=>
 ift (!(x7 == ([]:Str)))
 (ldS H2 ((b1,0).1,(b1,0).2+0) fun x10=>
 nw ([sv x10,sv [58,32]]) (fun b12 H13=>
 QA C p_w (Sl.of (some (b12,0)) 2 2) (fun H14=>
 J3 () H14) H13) H2)
 (J3 () H2))) H
theorem Qia (C p_w p_f K H) (h:QeG C p_w p_f K H):QeI C p_w p_f K H:=by
 refine Ye Tryz.func165 rfl Tryz.ntmps165 [(0,pv p_w),(1,.agg (Qf.c p_f).toArray)] (Zo (GL.box (v:=.agg (Qf.c p_f).toArray) (cs:=Qf.c p_f) h trivial rfl rfl rfl ?_))
 intro b1 H2 h
 refine GL.nil ?_
 obtain ⟨J3,h,hR6⟩:=h
 refine GC.join (α:=Unit) J3 (fun _=>[(0,pv p_w),(3,pv (some (b1,0)))]) ?_ ?_
 refine Zo (Zf (Yl h fun x7 h=>?_))
 refine Zv (OV.sbin (a:=x7) (b:=([]:Str)) (v:=.bool (!(x7 == ([]:Str)))) rfl rfl rfl) (GL.nil (Yd h (fun u9 h=>?_) fun u9 h=>?_))
 refine GC.region (Zm (Zf (Yl h fun x10 h=>?_)))
 refine GL.buildSlice (cs:=[sv x10,sv [58,32]]) h trivial rfl (vs:=[(0,sv x10),(1,sv [58,32])]) rfl ⟨9,fun _=>by kernel_rfl⟩ ?_
 intro b12 H13 h
 refine Zc h QL ?_
 rintro _ H14 ⟨rfl,h⟩
 exact Yj I3 () h
 exact Yk I3 () h
 intro x4 H5 h
 replace h:=hR6 x4 H5 h
 refine GC.region (Zm (Zf ?_))
 obtain ⟨x15,v16,h⟩:=h
 refine Zv (OV.loadT rfl rfl rfl v16) (Zc h Qgv ?_)
 rintro _ H17 ⟨rfl,h⟩
 exact GL.ends (fun _ _ hf hs=>Qt rfl hf hs ⟨rfl,h⟩)
def QcS (C:Ctx) (p_b:Option (Nat×Nat)) (p_c:Int) (K:Value→Heap→Prop) (H:Heap):Prop:=
 QaI C p_b (fun H1=>
 nck p_b fun p2=>
 ldL H1 (p2.1,p2.2+1) fun x4=>
 apdG 5 ([.int .u8 0]) 1 x4 ([.int .u8 p_c]) 1 (fun r6 H7=>
 nck p_b fun p8=>
 sttG (p8.1,p8.2+1) (slv r6) (fun H10=>
 K .nilIface H10) H7) H1) H
theorem QfH (C p_b p_c K H) (h:QcS C p_b p_c K H):Qq C p_b p_c K H:=by
 refine Ye Tryz.func166 rfl Tryz.ntmps166 [(0,pv p_b),(1,.int .u8 p_c)] (Zo (Za (GL.nil (Zo (Zm (Zc h QcP ?_))))))
 rintro _ H1 ⟨rfl,h⟩
 refine GL.nil (Zo (Zm (Zm ?_)))
 obtain ⟨p2,hp3,h⟩:=h
 refine Zv (OV.nilCheck (q:=p_b) rfl hp3) (Zf (Yl h fun x4 h=>?_))
 refine Zm (GL.appendGLit (e:=5) (s:=x4) (ys:=[.int .u8 p_c]) (zc:=[.int .u8 0]) (bytes:=1) h trivial rfl (fun _=>trivial) rfl (fun _=>rfl) (fun _=>rfl) (vs:=[(0,.int .u8 p_c)]) rfl ⟨5,fun _=>by kernel_rfl⟩ ⟨⟨_,_,rfl,rfl,rfl,rfl,rfl,rfl⟩⟩ rfl rfl ?_)
 intro _ r6 H7 h
 obtain ⟨p8,hp9,h⟩:=h
 refine Zv (OV.nilCheck (q:=p_b) rfl hp9) (Zf (GL.storeG (p:=(p8.1,p8.2+1)) (v:=slv r6) h trivial rfl rfl rfl rfl ?_))
 intro H10 h
 refine GL.nil (Zo (Za (GL.nil ?_)))
 exact Y1 I3 ⟨.nilIface,rfl,h⟩
def QbI (C:Ctx) (p_w:Option (Nat×Nat)) (p_l:Sl) (p_write:Value) (K:Heap→Prop) (H:Heap):Prop:=
 nck p_w fun p1=>
 Qq C (some (p1.1,p1.2+0)) 40 (fun r3 H4=>
 QaN C p_w p_l [44,32] p_write (fun H5=>
 nck p_w fun p6=>
 Qq C (some (p6.1,p6.2+0)) 41 (fun r8 H9=>
 K H9) H5) H4) H
theorem QdE (C p_w p_l p_write K H) (h:QbI C p_w p_l p_write K H):Qy C p_w p_l p_write K H:=by
 refine Ye Tryz.func167 rfl Tryz.ntmps167 [(0,pv p_w),(1,slv p_l),(2,p_write)] (Zo (Zm ?_))
 obtain ⟨p1,hp2,h⟩:=h
 refine Zv (OV.nilCheck (q:=p_w) rfl hp2) (Zf (Zc h Qr ?_))
 rintro _ H4 ⟨r3,rfl,h⟩
 refine GL.nil (Zo (Zm (Zm (Zm (Zc h Qfa ?_)))))
 rintro _ H5 ⟨rfl,h⟩
 refine GL.nil (GC.region (Zm ?_))
 obtain ⟨p6,hp7,h⟩:=h
 refine Zv (OV.nilCheck (q:=p_w) rfl hp7) (Zf (Zc h Qr ?_))
 rintro _ H9 ⟨r8,rfl,h⟩
 exact GL.ends (fun _ _ hf hs=>Qt rfl hf hs ⟨rfl,h⟩)
def Qfi (C:Ctx) (p_e:Qb) (v0:Nat×Nat) (v1:Nat×Nat) (v2:Nat×Nat) (K:Heap→Prop) (H:Heap):Prop:=
 nw (Qb.c p_e) (fun b1 H2=>
 ldL H2 (v0.1,v0.2+4) fun x3=>
 ldI H2 .i64 v1 fun x5=>
 ixa x3 x5 fun p7=>
 ldS H2 (p7.1,p7.2+(x5:Int).toNat*1) fun x12=>
 ldI H2 .i64 v1 fun x14=>
 st v1 (.int .i64 (w .i64 (x14+1))) (fun H16=>
 ift (x12 == ([]:Str))
 (ldP H16 v2 fun x18=>
 ldT H16 Qb.c (b1,0) fun x20=>
 Qae C x18 x20 (fun H22=>
 K H22) H16)
 (ldP H16 v2 fun x23=>
 nw ([sv x12,sv [40]]) (fun b25 H26=>
 QA C x23 (Sl.of (some (b25,0)) 2 2) (fun H27=>
 ldP H27 v2 fun x28=>
 ldT H27 Qb.c (b1,0) fun x30=>
 Qae C x28 x30 (fun H32=>
 ldP H32 v2 fun x33=>
 nck x33 fun p35=>
 Qq C (some (p35.1,p35.2+0)) 41 (fun r37 H38=>
 K H38) H32) H27) H26) H16)) H2) H
theorem Qjg (C p_e v0 v1 v2 K H) (h:Qfi C p_e v0 v1 v2 K H):Qdx C p_e v0 v1 v2 K H:=by
 refine Ye Tryz.func168 rfl Tryz.ntmps168 [(0,.agg (Qb.c p_e).toArray),(1,pv (some v0)),(2,pv (some v1)),(3,pv (some v2))] (Zo (GL.box (v:=.agg (Qb.c p_e).toArray) (cs:=Qb.c p_e) h trivial rfl rfl rfl ?_))
 intro b1 H2 h
 refine GL.nil (Zo (Zf (Yl h fun x3 h=>?_)))
 refine Yl h fun x5 h=>?_
 refine Yx h fun p7 h=>?_
 refine Yl h fun x12 h=>?_
 refine Za (GL.nil (Zo (Yl h fun x14 h=>?_)))
 refine Zi (.int .i64 (w .i64 (x14+1))) (GL.store (p:=v1) (v:=.int .i64 (w .i64 (x14+1))) h trivial rfl rfl rfl rfl ?_)
 intro H16 h
 refine GL.nil (GC.seq (Zo (Zm (Zv (OV.sbin (a:=x12) (b:=([]:Str)) (v:=.bool (x12 == ([]:Str))) rfl rfl rfl) (GL.nil (Yd h (fun u17 h=>?_) fun u17 h=>?_))))))
 refine Zo (Yl h fun x18 h=>?_)
 obtain ⟨x20,hr21,h⟩:=h
 refine Zv (OV.loadT rfl rfl rfl hr21) (Zc h Q2 ?_)
 rintro _ H22 ⟨rfl,h⟩
 refine GL.nil ?_
 exact GC.ret (fun _ _ hf hs=>Qt rfl hf hs ⟨rfl,h⟩)
 refine GC.skip (Zo (Yl h fun x23 h=>?_))
 refine Zm (GL.buildSlice (cs:=[sv x12,sv [40]]) h trivial rfl (vs:=[(0,sv x12),(1,sv [40])]) rfl ⟨9,fun _=>by kernel_rfl⟩ ?_)
 intro b25 H26 h
 refine Zc h QL ?_
 rintro _ H27 ⟨rfl,h⟩
 refine GL.nil (Zo (Yl h fun x28 h=>?_))
 obtain ⟨x30,hr31,h⟩:=h
 refine Zv (OV.loadT rfl rfl rfl hr31) (Zc h Q2 ?_)
 rintro _ H32 ⟨rfl,h⟩
 refine GL.nil (GC.region (Yl h fun x33 h=>?_))
 obtain ⟨p35,hp36,h⟩:=h
 refine Zv (OV.nilCheck (q:=x33) rfl hp36) (Zf (Zc h Qr ?_))
 rintro _ H38 ⟨r37,rfl,h⟩
 exact GL.ends (fun _ _ hf hs=>Qt rfl hf hs ⟨rfl,h⟩)
def Qgc (C:Ctx) (p_w:Option (Nat×Nat)) (p_e:Qb) (K:Heap→Prop) (H:Heap):Prop:=
 nw (Qb.c p_e) (fun b1 H2=>
 ldI H2 .u8 ((b1,0).1,(b1,0).2+0) fun x3=>
 ift ((x3:Int) == 1)
 (dr H2 fun Hs6=>
 nck p_w fun p8=>
 ldT Hs6 Qe.c ((b1,0).1,(b1,0).2+4) fun x10=>
 Qjn C x10 (fun r13 H14=>
 Heap.le Hs6 H14∧
 Ql C (some (p8.1,p8.2+0)) r13 (fun r16 r17 H18=>
 Heap.le Hs6 H18∧
 K H18) H14) H2)
 (ift ((x3:Int) == 2)
 (dr H2 fun Hs20=>
 nck p_w fun p22=>
 ldS Hs20 ((b1,0).1,(b1,0).2+3) fun x24=>
 Ql C (some (p22.1,p22.2+0)) x24 (fun r27 r28 H29=>
 Heap.le Hs20 H29∧
 K H29) H2)
 (ift ((x3:Int) == 3)
 (nck p_w fun p31=>
 Qq C (some (p31.1,p31.2+0)) 95 (fun r33 H34=>
 K H34) H2)
 (ift ((x3:Int) == 4)
 (ldL H2 ((b1,0).1,(b1,0).2+8) fun x36=>
 Qy C p_w x36 (.func (.func 169) (List.toArray [pv p_w]) (List.toArray []):Value) (fun H38=>
 K H38) H2)
 (ift ((x3:Int) == 5)
 (dr H2 fun Hs40=>
 nck p_w fun p42=>
 ldS Hs40 ((b1,0).1,(b1,0).2+3) fun x44=>
 Ql C (some (p42.1,p42.2+0)) x44 (fun r47 r48 H49=>
 Heap.le Hs40 H49∧
 ldL H49 ((b1,0).1,(b1,0).2+8) fun x50=>
 ift (decide (((Sl.len x50:Int):Int) > 0))
 (ldL H49 ((b1,0).1,(b1,0).2+8) fun x53=>
 Qy C p_w x53 (.func (.func 169) (List.toArray [pv p_w]) (List.toArray []):Value) (fun H55=>
 K H55) H49)
 (K H49)) H2)
 (ift ((x3:Int) == 6)
 (ldT H2 Qb.c (b1,0) fun x57=>
 Qeq C p_w x57 (fun H59=>
 K H59) H2)
 (ift ((x3:Int) == 7)
 (ldT H2 Qb.c (b1,0) fun x61=>
 QdU C p_w x61 (fun H63=>
 K H63) H2)
 (ift ((x3:Int) == 8)
 (nw ([sv [40,105,102,32],sv [32,116,104,101,110,32],sv [32,101,108,115,101,32]]) (fun b65 H66=>
 lp (α:=Int) 0 H66 (fun x67 J68 H69=>
 ift (decide ((x67:Int) < (Sl.len (Sl.of (some (b65,0)) 3 3):Int)))
 (ixa (Sl.of (some (b65,0)) 3 3) x67 fun p71=>
 ldS H69 (p71.1,p71.2+(x67:Int).toNat*1) fun x76=>
 nck p_w fun p78=>
 Ql C (some (p78.1,p78.2+0)) x76 (fun r80 r81 H82=>
 ldL H82 ((b1,0).1,(b1,0).2+8) fun x83=>
 ixa x83 x67 fun p85=>
 ldT H82 Qb.c (p85.1,p85.2+(x67:Int).toNat*9) fun x90=>
 Qae C p_w x90 (fun H92=>
 J68 (w .i64 (x67+1)) H92) H82) H69)
 (nck p_w fun p93=>
 Qq C (some (p93.1,p93.2+0)) 41 (fun r95 H96=>
 K H96) H69))) H2)
 (K H2))))))))) H
theorem QkM (C p_w p_e K H) (h:Qgc C p_w p_e K H):Qae C p_w p_e K H:=by
 refine Ye Tryz.func169 rfl Tryz.ntmps169 [(0,pv p_w),(1,.agg (Qb.c p_e).toArray)] (Zo (GL.box (v:=.agg (Qb.c p_e).toArray) (cs:=Qb.c p_e) h trivial rfl rfl rfl ?_))
 intro b1 H2 h
 refine GL.nil (Zo (Zf (Yl h fun x3 h=>?_)))
 refine GL.nil (GC.block (Zo (Zi (.bool ((x3:Int) == 1)) (Za (GL.nil (Yd h (fun u5 h=>?_) fun u5 h=>?_))))))
 obtain ⟨Hs6,hle7,h⟩:=h
 refine GC.any (Hs:=Hs6) (by kernel_rfl) hle7 (Zp 0 rfl Ym ?_)
 obtain ⟨p8,hp9,h⟩:=h
 refine Zp 1 rfl (OV.nilCheck (q:=p_w) rfl hp9) (Zp 2 rfl Yf (Zp 3 rfl Yf ?_))
 obtain ⟨x10,v11,h⟩:=h
 refine Zp 4 rfl (OV.loadT rfl rfl rfl v11) (GA.eff 5 rfl (by kernel_rfl) (Zc h Qo9 ?_))
 rintro _ H14 ⟨r13,rfl,h⟩
 obtain ⟨hle12,h⟩:=h
 refine GA.back hle12 (GA.eff 6 rfl (by kernel_rfl) (Zc h Qn ?_))
 rintro _ H18 ⟨r16,r17,rfl,h⟩
 obtain ⟨hle15,h⟩:=h
 refine GA.back hle15 (GA.done (by kernel_rfl) ?_)
 exact GL.ends (fun _ _ hf hs=>Qt rfl hf hs ⟨rfl,h⟩)
 refine Zo (Zi (.bool ((x3:Int) == 2)) (Za (GL.nil (Yd h (fun u19 h=>?_) fun u19 h=>?_))))
 obtain ⟨Hs20,hle21,h⟩:=h
 refine GC.any (Hs:=Hs20) (by kernel_rfl) hle21 (Zp 0 rfl Ym ?_)
 obtain ⟨p22,hp23,h⟩:=h
 refine Zp 1 rfl (OV.nilCheck (q:=p_w) rfl hp23) (Zp 2 rfl Yf (Zp 3 rfl Yf ?_))
 obtain ⟨x24,v25,h⟩:=h
 refine Zp 4 rfl (Yo v25) (GA.eff 5 rfl (by kernel_rfl) (Zc h Qn ?_))
 rintro _ H29 ⟨r27,r28,rfl,h⟩
 obtain ⟨hle26,h⟩:=h
 refine GA.back hle26 (GA.done (by kernel_rfl) ?_)
 exact GL.ends (fun _ _ hf hs=>Qt rfl hf hs ⟨rfl,h⟩)
 refine Zo (Zi (.bool ((x3:Int) == 3)) (Za (GL.nil (Yd h (fun u30 h=>?_) fun u30 h=>?_))))
 refine GC.region (Zm ?_)
 obtain ⟨p31,hp32,h⟩:=h
 refine Zv (OV.nilCheck (q:=p_w) rfl hp32) (Zf (Zc h Qr ?_))
 rintro _ H34 ⟨r33,rfl,h⟩
 exact GL.ends (fun _ _ hf hs=>Qt rfl hf hs ⟨rfl,h⟩)
 refine Zo (Zi (.bool ((x3:Int) == 4)) (Za (GL.nil (Yd h (fun u35 h=>?_) fun u35 h=>?_))))
 refine GC.region (Zm (Zf (Yl h fun x36 h=>?_)))
 refine Zm (Zv (OV.makeFunc (vs:=[pv p_w]) (us:=[]) rfl rfl) (Zc h QR ?_))
 rintro _ H38 ⟨rfl,h⟩
 exact GL.ends (fun _ _ hf hs=>Qt rfl hf hs ⟨rfl,h⟩)
 refine Zo (Zi (.bool ((x3:Int) == 5)) (Za (GL.nil (Yd h (fun u39 h=>?_) fun u39 h=>?_))))
 refine GC.seq ?_
 obtain ⟨Hs40,hle41,h⟩:=h
 refine GC.any (Hs:=Hs40) (by kernel_rfl) hle41 (Zp 0 rfl Ym ?_)
 obtain ⟨p42,hp43,h⟩:=h
 refine Zp 1 rfl (OV.nilCheck (q:=p_w) rfl hp43) (Zp 2 rfl Yf (Zp 3 rfl Yf ?_))
 obtain ⟨x44,v45,h⟩:=h
 refine Zp 4 rfl (Yo v45) (GA.eff 5 rfl (by kernel_rfl) (Zc h Qn ?_))
 rintro _ H49 ⟨r47,r48,rfl,h⟩
 obtain ⟨hle46,h⟩:=h
 refine GA.back hle46 (GA.done (by kernel_rfl) (GL.nil (Zo (Zf (Yl h fun x50 h=>?_)))))
 refine Zq (Zi (.bool (decide (((Sl.len x50:Int):Int) > 0))) (GL.nil (Yd h (fun u52 h=>?_) fun u52 h=>?_)))
 refine GC.region (Zm (Zf (Yl h fun x53 h=>?_)))
 refine Zm (Zv (OV.makeFunc (vs:=[pv p_w]) (us:=[]) rfl rfl) (Zc h QR ?_))
 rintro _ H55 ⟨rfl,h⟩
 exact GL.ends (fun _ _ hf hs=>Qt rfl hf hs ⟨rfl,h⟩)
 exact GC.ends (fun _ _ hf hs=>Qt rfl hf hs ⟨rfl,h⟩)
 refine Zo (Zi (.bool ((x3:Int) == 6)) (Za (GL.nil (Yd h (fun u56 h=>?_) fun u56 h=>?_))))
 refine GC.region (Zm ?_)
 obtain ⟨x57,v58,h⟩:=h
 refine Zv (OV.loadT rfl rfl rfl v58) (Zc h QkX ?_)
 rintro _ H59 ⟨rfl,h⟩
 exact GL.ends (fun _ _ hf hs=>Qt rfl hf hs ⟨rfl,h⟩)
 refine Zo (Zi (.bool ((x3:Int) == 7)) (Za (GL.nil (Yd h (fun u60 h=>?_) fun u60 h=>?_))))
 refine GC.region (Zm ?_)
 obtain ⟨x61,v62,h⟩:=h
 refine Zv (OV.loadT rfl rfl rfl v62) (Zc h Qkf ?_)
 rintro _ H63 ⟨rfl,h⟩
 exact GL.ends (fun _ _ hf hs=>Qt rfl hf hs ⟨rfl,h⟩)
 refine Zo (Zi (.bool ((x3:Int) == 8)) (Za (GL.nil (Yd h (fun u64 h=>?_) fun u64 h=>?_))))
 refine GC.seq (Zo (GL.buildSlice (cs:=[sv [40,105,102,32],sv [32,116,104,101,110,32],sv [32,101,108,115,101,32]]) h trivial rfl (vs:=[(0,sv [40,105,102,32]),(1,sv [32,116,104,101,110,32]),(2,sv [32,101,108,115,101,32])]) rfl ⟨9,fun _=>by kernel_rfl⟩ ?_))
 intro b65 H66 h
 refine Zq (Zm (GL.nil (GC.block (Yp h (fun x67=>[(71,.int .i64 x67),(0,pv p_w),(3,pv (some (b1,0))),(69,slv (Sl.of (some (b65,0)) 3 3)),(70,.int .i64 (Sl.len (Sl.of (some (b65,0)) 3 3):Int))]) ?_))))
 intro x67 H69 J68 h
 refine Zo (Zi (.bool (decide ((x67:Int) < (Sl.len (Sl.of (some (b65,0)) 3 3):Int)))) (GL.nil (GC.seq (Yd h (fun u70 h=>?_) fun u70 h=>?_))))
 refine GC.skip (GC.seq (GC.block (Zo (Zm (Yx h fun p71 h=>?_)))))
 refine Yl h fun x76 h=>?_
 refine Za (Za (GL.nil (Zo (Zm ?_))))
 obtain ⟨p78,hp79,h⟩:=h
 refine Zv (OV.nilCheck (q:=p_w) rfl hp79) (Zf (Zm (Zc h Qn ?_)))
 rintro _ H82 ⟨r80,r81,rfl,h⟩
 refine GL.nil (GC.region (Zm (Zf (Yl h fun x83 h=>?_))))
 refine Zm (Yx h fun p85 h=>?_)
 obtain ⟨x90,v91,h⟩:=h
 refine Zv (OV.loadT rfl rfl rfl v91) (Zc h Q2 ?_)
 rintro _ H92 ⟨rfl,h⟩
 refine GL.nil_to I3 (GC.region (Zi (.int .i64 (w .i64 (x67+1))) (Zm ?_)))
 exact Yj I3 (w .i64 (x67+1)) h
 refine GC.exit_to I3 (GC.region (Zm ?_))
 obtain ⟨p93,hp94,h⟩:=h
 refine Zv (OV.nilCheck (q:=p_w) rfl hp94) (Zf (Zc h Qr ?_))
 rintro _ H96 ⟨r95,rfl,h⟩
 exact GL.ends (fun _ _ hf hs=>Qt rfl hf hs ⟨rfl,h⟩)
 exact GC.ends (fun _ _ hf hs=>Qt rfl hf hs ⟨rfl,h⟩)
def QcT (C:Ctx) (p_b:Option (Nat×Nat)) (K:Heap→Prop) (H:Heap):Prop:=
 nck p_b fun p1=>
 ldP H (p1.1,p1.2+0) fun x3=>
 ift (Option.isNone x3)
 (∃ p7,p_b=some p7∧cvU p7 (
 cvT Tryz.prog 145 2 p7 (
 nck p_b fun p10=>
 sttG (p10.1,p10.2+0) (pv (some p7)) (fun H12=>
 K H12) H) H) H)
 (nck p_b fun p13=>
 ldP H (p13.1,p13.2+0) fun x15=>
 ∃ p17,x15=some p17∧p_b=some p17∧
 ift false
 (False)
 (K H))
theorem QfI (C p_b K H) (h:QcT C p_b K H):QaI C p_b K H:=by
 refine Ye Tryz.func170 rfl Tryz.ntmps170 [(0,pv p_b)] (Zo (Zm ?_))
 obtain ⟨p1,hp2,h⟩:=h
 refine Zv (OV.nilCheck (q:=p_b) rfl hp2) (Zf (Yl h fun x3 h=>?_))
 refine Zv (OV.eqlNil (p:=x3) rfl rfl rfl) (GL.nil (Yd h (fun u5 h=>?_) fun u5 h=>?_))
 refine GC.region (Zm (Zm ?_))
 obtain ⟨p7,hp8,hu6,h⟩:=h
 refine Zv (OV.cvU (q:=p_b) (p:=p7) hp8 hu6 rfl rfl rfl ⟨_,rfl,by decide⟩) (Zv (OV.ext QgV (vs:=[pv (some p7)]) (v:=pv (some p7)) rfl (fun w=>Qty _ w)) ?_)
 obtain ⟨hu9,h⟩:=h
 refine Zv (OV.cvT (len:=2) (p:=p7) hu9 rfl rfl rfl ⟨_,rfl⟩) ?_
 obtain ⟨p10,hp11,h⟩:=h
 refine Zv (OV.nilCheck (q:=p_b) rfl hp11) (Zf (GL.storeG (p:=(p10.1,p10.2+0)) (v:=pv (some p7)) h trivial rfl rfl rfl rfl ?_))
 intro H12 h
 exact GL.ends (fun _ _ hf hs=>Qt rfl hf hs ⟨rfl,h⟩)
 refine Zo (Zm ?_)
 obtain ⟨p13,hp14,h⟩:=h
 refine Zv (OV.nilCheck (q:=p_b) rfl hp14) (Zf (Yl h fun x15 h=>?_))
 refine Zm ?_
 obtain ⟨p17,hp18,hq19,h⟩:=h
 refine Zv (OV.neqSame (p:=x15) (q:=p_b) rfl rfl hp18 hq19 rfl rfl) (GL.nil (Yd h (fun u20 h=>?_) fun u20 h=>?_))
 exact GC.never h
 exact GC.ends (fun _ _ hf hs=>Qt rfl hf hs ⟨rfl,h⟩)
end
end Sx
end
