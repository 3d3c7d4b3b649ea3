/-
  Texts of this family, one behind the other: Sh3.
-/
import Derived.Test.YtnomkabppjlbfaaGreatDoorAU2
noncomputable section
set_option linter.unusedVariables false
set_option linter.unusedSimpArgs false
set_option maxRecDepth 10000
namespace Sx
section
set_option maxRecDepth 100000
open Go Go.Proofs
def QgX (C:Ctx) (p_l:Sl) (K:Str→Heap→Prop) (H:Heap):Prop:=
 lp (α:=Str×Int) ([],0) H (fun x1 J2 H3=>
 ift (decide ((x1.2:Int) < (Sl.len p_l:Int)))
 (jn (α:=Str) (fun x6 H7=>
 jn (α:=Str) (fun x12 H13=>
 ixa p_l x1.2 fun p32=>
 ldT H13 Qe.c ((p32.1,p32.2+(x1.2:Int).toNat*3).1,(p32.1,p32.2+(x1.2:Int).toNat*3).2+1) fun x37=>
 Qba C x37 (fun r39 H40=>
 catOk x12 r39∧
 J2 ((x12++r39),(w .i64 (x1.2+1))) H40) H13)
 (fun J11=>ixa p_l x1.2 fun p15=>
 ldS H7 ((p15.1,p15.2+(x1.2:Int).toNat*3).1,(p15.1,p15.2+(x1.2:Int).toNat*3).2+0) fun x20=>
 ift (!(x20 == ([]:Str)))
 (ixa p_l x1.2 fun p23=>
 ldS H7 ((p23.1,p23.2+(x1.2:Int).toNat*3).1,(p23.1,p23.2+(x1.2:Int).toNat*3).2+0) fun x28=>
 catOk x6 x28∧
 catOk (x6++x28) ([58,32]:Str)∧
 J11 ((x6++x28)++([58,32]:Str)) H7)
 (J11 x6 H7)))
 (fun J5=>ift (decide ((x1.2:Int) > 0))
 (catOk x1.1 ([44,32]:Str)∧
 J5 (x1.1++([44,32]:Str)) H3)
 (J5 x1.1 H3)))
 (K x1.1 H3))
theorem QlI (C p_l K H) (h:QgX C p_l K H):Qau C p_l K H:=by
 refine Ye Tryz.func42 rfl Tryz.ntmps42 [(0,slv p_l)] (Zo (Za (GL.nil (Zo (Za (GL.nil (GC.seq (Zo (Za (GL.nil (GC.block (Yp h (fun x1=>[(3,sv x1.1),(4,.int .i64 x1.2),(0,slv p_l)]) ?_))))))))))))
 intro x1 H3 J2 h
 refine GC.seq (Zo (Zm (Zm (Zq (Zi (.bool (decide ((x1.2:Int) < (Sl.len p_l:Int)))) (GL.nil (Yd h (fun u4 h=>?_) fun u4 h=>?_)))))))
 refine GC.skip (GC.seq (GC.block ?_))
 obtain ⟨J5,h,hR8⟩:=h
 refine GC.join (α:=Str) J5 (fun x6=>[(3,sv x6),(0,slv p_l),(4,.int .i64 x1.2)]) ?_ ?_
 refine Zo (Zm (Zi (.bool (decide ((x1.2:Int) > 0))) (GL.nil (Yd h (fun u9 h=>?_) fun u9 h=>?_))))
 refine GC.region (Zm ?_)
 obtain ⟨hl10,h⟩:=h
 refine Zv (OV.cat (a:=x1.1) (b:=([44,32]:Str)) rfl rfl hl10) (Za ?_)
 exact Yj I3 (x1.1++([44,32]:Str)) h
 exact Yk I3 x1.1 h
 intro x6 H7 h
 replace h:=hR8 x6 H7 h
 obtain ⟨J11,h,hR14⟩:=h
 refine GC.join (α:=Str) J11 (fun x12=>[(3,sv x12),(0,slv p_l),(4,.int .i64 x1.2)]) ?_ ?_
 refine Zo (Zm (Zm (Yx h fun p15 h=>?_)))
 refine Zf (Yl h fun x20 h=>?_)
 refine Zv (OV.sbin (a:=x20) (b:=([]:Str)) (v:=.bool (!(x20 == ([]:Str)))) rfl rfl rfl) (GL.nil (Yd h (fun u22 h=>?_) fun u22 h=>?_))
 refine GC.region (Zm (Zm (Zm (Yx h fun p23 h=>?_))))
 refine Zf (Yl h fun x28 h=>?_)
 obtain ⟨hl30,h⟩:=h
 refine Zv (OV.cat (a:=x6) (b:=x28) rfl rfl hl30) ?_
 obtain ⟨hl31,h⟩:=h
 refine Zv (OV.cat (a:=(x6++x28)) (b:=([58,32]:Str)) rfl rfl hl31) (Za ?_)
 exact Yj I3 ((x6++x28)++([58,32]:Str)) h
 exact Yk I3 x6 h
 intro x12 H13 h
 replace h:=hR14 x12 H13 h
 refine GC.region (Zm (Zm (Zm (Yx h fun p32 h=>?_))))
 refine Zf ?_
 obtain ⟨x37,v38,h⟩:=h
 refine Zv (OV.loadT rfl rfl rfl v38) (Zc h Qie ?_)
 rintro _ H40 ⟨r39,rfl,h⟩
 obtain ⟨hl41,h⟩:=h
 refine Zv (OV.cat (a:=x12) (b:=r39) rfl rfl hl41) (Za (GL.nil_to (fun _ _ h=>h) (GC.region (Zm (Zi (.int .i64 (w .i64 (x1.2+1))) (Za ?_))))))
 exact Yj I3 ((x12++r39),(w .i64 (x1.2+1))) h
 refine GC.exit_to (fun _ _ h=>h) (Zo (Zm (Za (GL.nil ?_))))
 exact Y1 I3 ⟨x1.1,rfl,h⟩
def QiB (C:Ctx) (p_r:Qk) (K:Str→Heap→Prop) (H:Heap):Prop:=
 nw (Qk.c p_r) (fun b1 H2=>
 ldS H2 ((b1,0).1,(b1,0).2+2) fun x3=>
 catOk x3 ([40]:Str)∧
 lp (α:=Str×Int) ((x3++([40]:Str)),0) H2 (fun x6 J7 H8=>
 ldL H8 ((b1,0).1,(b1,0).2+3) fun x9=>
 ift (decide ((x6.2:Int) < (Sl.len x9:Int)))
 (jn (α:=Str) (fun x13 H14=>
 J7 (x13,(w .i64 (x6.2+1))) H14)
 (fun J12=>jn (α:=Str) (fun x17 H18=>
 ldL H18 ((b1,0).1,(b1,0).2+4) fun x22=>
 ixa x22 x6.2 fun p24=>
 ldS H18 (p24.1,p24.2+(x6.2:Int).toNat*1) fun x29=>
 ift (x29 == ([]:Str))
 (ldL H18 ((b1,0).1,(b1,0).2+3) fun x32=>
 ixa x32 x6.2 fun p34=>
 ldT H18 Qa.c (p34.1,p34.2+(x6.2:Int).toNat*9) fun x39=>
 QD C x39 (fun r41 H42=>
 catOk x17 r41∧
 J12 (x17++r41) H42) H18)
 (dr H18 fun Hs44=>
 ldL Hs44 ((b1,0).1,(b1,0).2+4) fun x46=>
 ixa x46 x6.2 fun p48=>
 ldS Hs44 (p48.1,p48.2+(x6.2:Int).toNat*1) fun x53=>
 catOk x17 x53∧
 catOk (x17++x53) ([40]:Str)∧
 ldL Hs44 ((b1,0).1,(b1,0).2+3) fun x57=>
 ixa x57 x6.2 fun p59=>
 ldT Hs44 Qa.c (p59.1,p59.2+(x6.2:Int).toNat*9) fun x64=>
 QD C x64 (fun r67 H68=>
 Heap.le Hs44 H68∧
 catOk ((x17++x53)++([40]:Str)) r67∧
 catOk (((x17++x53)++([40]:Str))++r67) ([41]:Str)∧
 J12 ((((x17++x53)++([40]:Str))++r67)++([41]:Str)) H68) H18))
 (fun J16=>ift (decide ((x6.2:Int) > 0))
 (catOk x6.1 ([44,32]:Str)∧
 J16 (x6.1++([44,32]:Str)) H8)
 (J16 x6.1 H8))))
 (catOk x6.1 ([41]:Str)∧
 jn (α:=Str) (fun x73 H74=>
 catOk x73 ([46,10]:Str)∧
 K (x73++([46,10]:Str)) H74)
 (fun J72=>ldL H8 ((b1,0).1,(b1,0).2+5) fun x76=>
 ift (decide (((Sl.len x76:Int):Int) > 0))
 (catOk (x6.1++([41]:Str)) ([32,58,45,32]:Str)∧
 ldL H8 ((b1,0).1,(b1,0).2+5) fun x80=>
 Qa9 C x80 (fun r82 H83=>
 catOk ((x6.1++([41]:Str))++([32,58,45,32]:Str)) r82∧
 J72 (((x6.1++([41]:Str))++([32,58,45,32]:Str))++r82) H83) H8)
 (J72 (x6.1++([41]:Str)) H8))))) H
theorem Qm0 (C p_r K H) (h:QiB C p_r K H):QbL C p_r K H:=by
 refine Ye Tryz.func43 rfl Tryz.ntmps43 [(0,.agg (Qk.c p_r).toArray)] (Zo (GL.box (v:=.agg (Qk.c p_r).toArray) (cs:=Qk.c p_r) h trivial rfl rfl rfl ?_))
 intro b1 H2 h
 refine Za (GL.nil (Zo (Zf (Yl h fun x3 h=>?_))))
 obtain ⟨hl5,h⟩:=h
 refine Zv (OV.cat (a:=x3) (b:=([40]:Str)) rfl rfl hl5) (Za (GL.nil (GC.seq (Zo (Za (GL.nil (GC.block (Yp h (fun x6=>[(3,sv x6.1),(4,.int .i64 x6.2),(1,pv (some (b1,0)))]) ?_))))))))
 intro x6 H8 J7 h
 refine GC.seq (Zo (Zm (Zf (Yl h fun x9 h=>?_))))
 refine Zq (Zi (.bool (decide ((x6.2:Int) < (Sl.len x9:Int)))) (GL.nil (Yd h (fun u11 h=>?_) fun u11 h=>?_)))
 refine GC.skip ?_
 obtain ⟨J12,h,hR15⟩:=h
 refine GC.join (α:=Str) J12 (fun x13=>[(3,sv x13),(1,pv (some (b1,0))),(4,.int .i64 x6.2)]) ?_ ?_
 refine GC.block ?_
 obtain ⟨J16,h,hR19⟩:=h
 refine GC.join (α:=Str) J16 (fun x17=>[(3,sv x17),(1,pv (some (b1,0))),(4,.int .i64 x6.2)]) ?_ ?_
 refine Zo (Zm (Zi (.bool (decide ((x6.2:Int) > 0))) (GL.nil (Yd h (fun u20 h=>?_) fun u20 h=>?_))))
 refine GC.region (Zm ?_)
 obtain ⟨hl21,h⟩:=h
 refine Zv (OV.cat (a:=x6.1) (b:=([44,32]:Str)) rfl rfl hl21) (Za ?_)
 exact Yj I3 (x6.1++([44,32]:Str)) h
 exact Yk I3 x6.1 h
 intro x17 H18 h
 replace h:=hR19 x17 H18 h
 refine Zo (Zf (Yl h fun x22 h=>?_))
 refine Zm (Yx h fun p24 h=>?_)
 refine Yl h fun x29 h=>?_
 refine Zv (OV.sbin (a:=x29) (b:=([]:Str)) (v:=.bool (x29 == ([]:Str))) rfl rfl rfl) (GL.nil (Yd h (fun u31 h=>?_) fun u31 h=>?_))
 refine GC.region (Zm (Zf (Yl h fun x32 h=>?_)))
 refine Zm (Yx h fun p34 h=>?_)
 obtain ⟨x39,v40,h⟩:=h
 refine Zv (OV.loadT rfl rfl rfl v40) (Zc h QI ?_)
 rintro _ H42 ⟨r41,rfl,h⟩
 obtain ⟨hl43,h⟩:=h
 refine Zv (OV.cat (a:=x17) (b:=r41) rfl rfl hl43) (Za ?_)
 exact Yj I3 (x17++r41) h
 obtain ⟨Hs44,hle45,h⟩:=h
 refine GC.any (Hs:=Hs44) (by kernel_rfl) hle45 (Zp 0 rfl Ym (Zp 1 rfl Yf ?_))
 obtain ⟨x46,v47,h⟩:=h
 refine Zp 2 rfl (Yo v47) (Zp 3 rfl Ym ?_)
 obtain ⟨p48,ha49,hb50,u51,hd52,h⟩:=h
 refine Zp 4 rfl (OV.indexAddr rfl rfl rfl rfl ha49 hb50 u51 hd52) ?_
 obtain ⟨x53,v54,h⟩:=h
 refine Zp 5 rfl (Yo v54) ?_
 obtain ⟨hl55,h⟩:=h
 refine Zp 6 rfl (OV.cat (a:=x17) (b:=x53) rfl rfl hl55) ?_
 obtain ⟨hl56,h⟩:=h
 refine Zp 7 rfl (OV.cat (a:=(x17++x53)) (b:=([40]:Str)) rfl rfl hl56) (Zp 8 rfl Yf ?_)
 obtain ⟨x57,v58,h⟩:=h
 refine Zp 9 rfl (Yo v58) (Zp 10 rfl Ym ?_)
 obtain ⟨p59,ha60,hb61,u62,hd63,h⟩:=h
 refine Zp 11 rfl (OV.indexAddr rfl rfl rfl rfl ha60 hb61 u62 hd63) ?_
 obtain ⟨x64,v65,h⟩:=h
 refine Zp 12 rfl (OV.loadT rfl rfl rfl v65) (GA.eff 13 rfl (by kernel_rfl) (Zc h QI ?_))
 rintro _ H68 ⟨r67,rfl,h⟩
 obtain ⟨hle66,h⟩:=h
 refine GA.back hle66 ?_
 obtain ⟨hl69,h⟩:=h
 refine Zp 14 rfl (OV.cat (a:=((x17++x53)++([40]:Str))) (b:=r67) rfl rfl hl69) ?_
 obtain ⟨hl70,h⟩:=h
 refine Zp 15 rfl (OV.cat (a:=(((x17++x53)++([40]:Str))++r67)) (b:=([41]:Str)) rfl rfl hl70) (Zp 16 rfl Ya (GA.done (by kernel_rfl) ?_))
 exact Yj I3 ((((x17++x53)++([40]:Str))++r67)++([41]:Str)) h
 intro x13 H14 h
 replace h:=hR15 x13 H14 h
 refine GC.region (Zm (Zi (.int .i64 (w .i64 (x6.2+1))) (Za ?_)))
 exact Yj I3 (x13,(w .i64 (x6.2+1))) h
 refine GC.exit_to (fun _ _ h=>h) (Zo (Zm ?_))
 obtain ⟨hl71,h⟩:=h
 refine Zv (OV.cat (a:=x6.1) (b:=([41]:Str)) rfl rfl hl71) (Za (GL.nil ?_))
 obtain ⟨J72,h,hR75⟩:=h
 refine GC.join (α:=Str) J72 (fun x73=>[(3,sv x73)]) ?_ ?_
 refine Zo (Zf (Yl h fun x76 h=>?_))
 refine Zq (Zi (.bool (decide (((Sl.len x76:Int):Int) > 0))) (GL.nil (Yd h (fun u78 h=>?_) fun u78 h=>?_)))
 refine GC.region (Zm ?_)
 obtain ⟨hl79,h⟩:=h
 refine Zv (OV.cat (a:=(x6.1++([41]:Str))) (b:=([32,58,45,32]:Str)) rfl rfl hl79) (Zf (Yl h fun x80 h=>?_))
 refine Zc h Qid ?_
 rintro _ H83 ⟨r82,rfl,h⟩
 obtain ⟨hl84,h⟩:=h
 refine Zv (OV.cat (a:=((x6.1++([41]:Str))++([32,58,45,32]:Str))) (b:=r82) rfl rfl hl84) (Za ?_)
 exact Yj I3 (((x6.1++([41]:Str))++([32,58,45,32]:Str))++r82) h
 exact Yk I3 (x6.1++([41]:Str)) h
 intro x73 H74 h
 replace h:=hR75 x73 H74 h
 refine Zo (Zm ?_)
 obtain ⟨hl85,h⟩:=h
 refine Zv (OV.cat (a:=x73) (b:=([46,10]:Str)) rfl rfl hl85) (Za (GL.nil ?_))
 exact Y1 I3 ⟨(x73++([46,10]:Str)),rfl,h⟩
def Qiu (C:Ctx) (p_l:Sl) (K:Str→Heap→Prop) (H:Heap):Prop:=
 lp (α:=Str×Int) ([],0) H (fun x1 J2 H3=>
 ift (decide ((x1.2:Int) < (Sl.len p_l:Int)))
 (jn (α:=Str) (fun x6 H7=>
 J2 (x6,(w .i64 (x1.2+1))) H7)
 (fun J5=>jn (α:=Str) (fun x10 H11=>
 ixa p_l x1.2 fun p15=>
 ldT H11 Qc.c (p15.1,p15.2+(x1.2:Int).toNat*5) fun x20=>
 nw (Qc.c Qc.zero) (fun b22 H23=>
 stT (b22,0) (Qc.c x20) (fun H24=>
 ldI H24 .u8 ((b22,0).1,(b22,0).2+0) fun x25=>
 ift ((x25:Int) == 1)
 (dr H24 fun Hs28=>
 ldS Hs28 ((b22,0).1,(b22,0).2+3) fun x30=>
 catOk x10 x30∧
 catOk (x10++x30) ([40]:Str)∧
 ldL Hs28 ((b22,0).1,(b22,0).2+4) fun x34=>
 Qby C x34 (fun r37 H38=>
 Heap.le Hs28 H38∧
 catOk ((x10++x30)++([40]:Str)) r37∧
 catOk (((x10++x30)++([40]:Str))++r37) ([41]:Str)∧
 J5 ((((x10++x30)++([40]:Str))++r37)++([41]:Str)) H38) H24)
 (ift ((x25:Int) == 2)
 (dr H24 fun Hs42=>
 catOk x10 ([110,111,116,32]:Str)∧
 ldS Hs42 ((b22,0).1,(b22,0).2+3) fun x45=>
 catOk (x10++([110,111,116,32]:Str)) x45∧
 catOk ((x10++([110,111,116,32]:Str))++x45) ([40]:Str)∧
 ldL Hs42 ((b22,0).1,(b22,0).2+4) fun x49=>
 Qby C x49 (fun r52 H53=>
 Heap.le Hs42 H53∧
 catOk (((x10++([110,111,116,32]:Str))++x45)++([40]:Str)) r52∧
 catOk ((((x10++([110,111,116,32]:Str))++x45)++([40]:Str))++r52) ([41]:Str)∧
 J5 (((((x10++([110,111,116,32]:Str))++x45)++([40]:Str))++r52)++([41]:Str)) H53) H24)
 (ift ((x25:Int) == 4)
 (dr H24 fun Hs57=>
 ldS Hs57 ((b22,0).1,(b22,0).2+3) fun x59=>
 catOk x10 x59∧
 catOk (x10++x59) ([32,61,32]:Str)∧
 ldL Hs57 ((b22,0).1,(b22,0).2+4) fun x63=>
 ixa x63 0 fun p65=>
 ldT Hs57 Qa.c (p65.1,p65.2+(0:Int).toNat*9) fun x70=>
 QD C x70 (fun r73 H74=>
 Heap.le Hs57 H74∧
 catOk ((x10++x59)++([32,61,32]:Str)) r73∧
 J5 (((x10++x59)++([32,61,32]:Str))++r73) H74) H24)
 (ldL H24 ((b22,0).1,(b22,0).2+4) fun x76=>
 ixa x76 0 fun p78=>
 ldI H24 .u8 ((p78.1,p78.2+(0:Int).toNat*9).1,(p78.1,p78.2+(0:Int).toNat*9).2+0) fun x83=>
 ift ((x83:Int) == 5)
 (catOk x10 ([40]:Str)∧
 ldL H24 ((b22,0).1,(b22,0).2+4) fun x87=>
 ixa x87 0 fun p89=>
 ldT H24 Qa.c (p89.1,p89.2+(0:Int).toNat*9) fun x94=>
 QD C x94 (fun r96 H97=>
 catOk (x10++([40]:Str)) r96∧
 catOk ((x10++([40]:Str))++r96) ([41]:Str)∧
 J5 (((x10++([40]:Str))++r96)++([41]:Str)) H97) H24)
 (ldL H24 ((b22,0).1,(b22,0).2+4) fun x100=>
 ixa x100 0 fun p102=>
 ldT H24 Qa.c (p102.1,p102.2+(0:Int).toNat*9) fun x107=>
 QD C x107 (fun r109 H110=>
 catOk x10 r109∧
 J5 (x10++r109) H110) H24))))) H23) H11)
 (fun J9=>ift (decide ((x1.2:Int) > 0))
 (catOk x1.1 ([44,32]:Str)∧
 J9 (x1.1++([44,32]:Str)) H3)
 (J9 x1.1 H3))))
 (K x1.1 H3))
theorem QmT (C p_l K H) (h:Qiu C p_l K H):Qa9 C p_l K H:=by
 refine Ye Tryz.func44 rfl Tryz.ntmps44 [(0,slv p_l)] (Zo (Za (GL.nil (Zo (Za (GL.nil (GC.seq (Zo (Za (GL.nil (GC.block (Yp h (fun x1=>[(3,sv x1.1),(4,.int .i64 x1.2),(0,slv p_l)]) ?_))))))))))))
 intro x1 H3 J2 h
 refine GC.seq (Zo (Zm (Zm (Zq (Zi (.bool (decide ((x1.2:Int) < (Sl.len p_l:Int)))) (GL.nil (Yd h (fun u4 h=>?_) fun u4 h=>?_)))))))
 refine GC.skip ?_
 obtain ⟨J5,h,hR8⟩:=h
 refine GC.join (α:=Str) J5 (fun x6=>[(3,sv x6),(0,slv p_l),(4,.int .i64 x1.2)]) ?_ ?_
 refine GC.block ?_
 obtain ⟨J9,h,hR12⟩:=h
 refine GC.join (α:=Str) J9 (fun x10=>[(3,sv x10),(0,slv p_l),(4,.int .i64 x1.2)]) ?_ ?_
 refine Zo (Zm (Zi (.bool (decide ((x1.2:Int) > 0))) (GL.nil (Yd h (fun u13 h=>?_) fun u13 h=>?_))))
 refine GC.region (Zm ?_)
 obtain ⟨hl14,h⟩:=h
 refine Zv (OV.cat (a:=x1.1) (b:=([44,32]:Str)) rfl rfl hl14) (Za ?_)
 exact Yj I3 (x1.1++([44,32]:Str)) h
 exact Yk I3 x1.1 h
 intro x10 H11 h
 replace h:=hR12 x10 H11 h
 refine Zo (Zm (Zm (Yx h fun p15 h=>?_)))
 obtain ⟨x20,v21,h⟩:=h
 refine Zv (OV.loadT rfl rfl rfl v21) (GL.alloc (cs:=Qc.c Qc.zero) h trivial rfl rfl rfl ?_)
 intro b22 H23 h
 refine GL.storeT (p:=(b22,0)) (vs:=Qc.c x20) h trivial rfl rfl rfl rfl ?_
 intro H24 h
 refine GL.nil (Zo (Zf (Yl h fun x25 h=>?_)))
 refine GL.nil (GC.block (Zo (Zi (.bool ((x25:Int) == 1)) (Za (GL.nil (Yd h (fun u27 h=>?_) fun u27 h=>?_))))))
 obtain ⟨Hs28,hle29,h⟩:=h
 refine GC.any (Hs:=Hs28) (by kernel_rfl) hle29 (Zp 0 rfl Ym (Zp 1 rfl Yf ?_))
 obtain ⟨x30,v31,h⟩:=h
 refine Zp 2 rfl (Yo v31) ?_
 obtain ⟨hl32,h⟩:=h
 refine Zp 3 rfl (OV.cat (a:=x10) (b:=x30) rfl rfl hl32) ?_
 obtain ⟨hl33,h⟩:=h
 refine Zp 4 rfl (OV.cat (a:=(x10++x30)) (b:=([40]:Str)) rfl rfl hl33) (Zp 5 rfl Yf ?_)
 obtain ⟨x34,v35,h⟩:=h
 refine Zp 6 rfl (Yo v35) (GA.eff 7 rfl (by kernel_rfl) (Zc h QfT ?_))
 rintro _ H38 ⟨r37,rfl,h⟩
 obtain ⟨hle36,h⟩:=h
 refine GA.back hle36 ?_
 obtain ⟨hl39,h⟩:=h
 refine Zp 8 rfl (OV.cat (a:=((x10++x30)++([40]:Str))) (b:=r37) rfl rfl hl39) ?_
 obtain ⟨hl40,h⟩:=h
 refine Zp 9 rfl (OV.cat (a:=(((x10++x30)++([40]:Str))++r37)) (b:=([41]:Str)) rfl rfl hl40) (Zp 10 rfl Ya (GA.done (by kernel_rfl) ?_))
 exact Yj I3 ((((x10++x30)++([40]:Str))++r37)++([41]:Str)) h
 refine Zo (Zi (.bool ((x25:Int) == 2)) (Za (GL.nil (Yd h (fun u41 h=>?_) fun u41 h=>?_))))
 obtain ⟨Hs42,hle43,h⟩:=h
 refine GC.any (Hs:=Hs42) (by kernel_rfl) hle43 (Zp 0 rfl Ym ?_)
 obtain ⟨hl44,h⟩:=h
 refine Zp 1 rfl (OV.cat (a:=x10) (b:=([110,111,116,32]:Str)) rfl rfl hl44) (Zp 2 rfl Yf ?_)
 obtain ⟨x45,v46,h⟩:=h
 refine Zp 3 rfl (Yo v46) ?_
 obtain ⟨hl47,h⟩:=h
 refine Zp 4 rfl (OV.cat (a:=(x10++([110,111,116,32]:Str))) (b:=x45) rfl rfl hl47) ?_
 obtain ⟨hl48,h⟩:=h
 refine Zp 5 rfl (OV.cat (a:=((x10++([110,111,116,32]:Str))++x45)) (b:=([40]:Str)) rfl rfl hl48) (Zp 6 rfl Yf ?_)
 obtain ⟨x49,v50,h⟩:=h
 refine Zp 7 rfl (Yo v50) (GA.eff 8 rfl (by kernel_rfl) (Zc h QfT ?_))
 rintro _ H53 ⟨r52,rfl,h⟩
 obtain ⟨hle51,h⟩:=h
 refine GA.back hle51 ?_
 obtain ⟨hl54,h⟩:=h
 refine Zp 9 rfl (OV.cat (a:=(((x10++([110,111,116,32]:Str))++x45)++([40]:Str))) (b:=r52) rfl rfl hl54) ?_
 obtain ⟨hl55,h⟩:=h
 refine Zp 10 rfl (OV.cat (a:=((((x10++([110,111,116,32]:Str))++x45)++([40]:Str))++r52)) (b:=([41]:Str)) rfl rfl hl55) (Zp 11 rfl Ya (GA.done (by kernel_rfl) ?_))
 exact Yj I3 (((((x10++([110,111,116,32]:Str))++x45)++([40]:Str))++r52)++([41]:Str)) h
 refine Zo (Zi (.bool ((x25:Int) == 4)) (Za (GL.nil (Yd h (fun u56 h=>?_) fun u56 h=>?_))))
 obtain ⟨Hs57,hle58,h⟩:=h
 refine GC.any (Hs:=Hs57) (by kernel_rfl) hle58 (Zp 0 rfl Ym (Zp 1 rfl Yf ?_))
 obtain ⟨x59,v60,h⟩:=h
 refine Zp 2 rfl (Yo v60) ?_
 obtain ⟨hl61,h⟩:=h
 refine Zp 3 rfl (OV.cat (a:=x10) (b:=x59) rfl rfl hl61) ?_
 obtain ⟨hl62,h⟩:=h
 refine Zp 4 rfl (OV.cat (a:=(x10++x59)) (b:=([32,61,32]:Str)) rfl rfl hl62) (Zp 5 rfl Yf ?_)
 obtain ⟨x63,v64,h⟩:=h
 refine Zp 6 rfl (Yo v64) ?_
 obtain ⟨p65,ha66,hb67,u68,hd69,h⟩:=h
 refine Zp 7 rfl (OV.indexAddr rfl rfl rfl rfl ha66 hb67 u68 hd69) ?_
 obtain ⟨x70,v71,h⟩:=h
 refine Zp 8 rfl (OV.loadT rfl rfl rfl v71) (GA.eff 9 rfl (by kernel_rfl) (Zc h QI ?_))
 rintro _ H74 ⟨r73,rfl,h⟩
 obtain ⟨hle72,h⟩:=h
 refine GA.back hle72 ?_
 obtain ⟨hl75,h⟩:=h
 refine Zp 10 rfl (OV.cat (a:=((x10++x59)++([32,61,32]:Str))) (b:=r73) rfl rfl hl75) (Zp 11 rfl Ya (GA.done (by kernel_rfl) ?_))
 exact Yj I3 (((x10++x59)++([32,61,32]:Str))++r73) h
 refine Zo (Zf (Yl h fun x76 h=>?_))
 refine Yx h fun p78 h=>?_
 refine Zf (Yl h fun x83 h=>?_)
 refine Zi (.bool ((x83:Int) == 5)) (GL.nil (Yd h (fun u85 h=>?_) fun u85 h=>?_))
 refine GC.region (Zm ?_)
 obtain ⟨hl86,h⟩:=h
 refine Zv (OV.cat (a:=x10) (b:=([40]:Str)) rfl rfl hl86) (Zf (Yl h fun x87 h=>?_))
 refine Yx h fun p89 h=>?_
 obtain ⟨x94,v95,h⟩:=h
 refine Zv (OV.loadT rfl rfl rfl v95) (Zc h QI ?_)
 rintro _ H97 ⟨r96,rfl,h⟩
 obtain ⟨hl98,h⟩:=h
 refine Zv (OV.cat (a:=(x10++([40]:Str))) (b:=r96) rfl rfl hl98) ?_
 obtain ⟨hl99,h⟩:=h
 refine Zv (OV.cat (a:=((x10++([40]:Str))++r96)) (b:=([41]:Str)) rfl rfl hl99) (Za ?_)
 exact Yj I3 (((x10++([40]:Str))++r96)++([41]:Str)) h
 refine GC.region (Zm (Zf (Yl h fun x100 h=>?_)))
 refine Yx h fun p102 h=>?_
 obtain ⟨x107,v108,h⟩:=h
 refine Zv (OV.loadT rfl rfl rfl v108) (Zc h QI ?_)
 rintro _ H110 ⟨r109,rfl,h⟩
 obtain ⟨hl111,h⟩:=h
 refine Zv (OV.cat (a:=x10) (b:=r109) rfl rfl hl111) (Za ?_)
 exact Yj I3 (x10++r109) h
 intro x6 H7 h
 replace h:=hR8 x6 H7 h
 refine GC.region (Zm (Zi (.int .i64 (w .i64 (x1.2+1))) (Za ?_)))
 exact Yj I3 (x6,(w .i64 (x1.2+1))) h
 refine GC.exit_to (fun _ _ h=>h) (Zo (Zm (Za (GL.nil ?_))))
 exact Y1 I3 ⟨x1.1,rfl,h⟩
def Qnu (C:Ctx) (p_m:Qg) (K:Int→Heap→Prop) (H:Heap):Prop:=
 nw (Qg.c p_m) (fun b1 H2=>
 dr H2 fun Hs3=>
 ldL Hs3 ((b1,0).1,(b1,0).2+2) fun x5=>
 ldL Hs3 ((b1,0).1,(b1,0).2+3) fun x7=>
 ldL Hs3 ((b1,0).1,(b1,0).2+4) fun x9=>
 ldL Hs3 ((b1,0).1,(b1,0).2+5) fun x11=>
 QX C x5 (.func (.func 114) (List.toArray []) (List.toArray []):Value) (fun r14 H15=>
 Heap.le Hs3 H15∧
 Q1 C x7 (.func (.func 120) (List.toArray []) (List.toArray []):Value) (fun r17 H18=>
 Heap.le Hs3 H18∧
 Q8 C x9 (.func (.func 122) (List.toArray []) (List.toArray []):Value) (fun r20 H21=>
 Heap.le Hs3 H21∧
 Q3 C x11 (.func (.func 127) (List.toArray []) (List.toArray []):Value) (fun r23 H24=>
 Heap.le Hs3 H24∧
 K (max4 r14 r17 r20 r23) H24) H21) H18) H15) H2) H
theorem QqO (C p_m K H) (h:Qnu C p_m K H):QeX C p_m K H:=by
 refine Ye Tryz.func45 rfl Tryz.ntmps45 [(0,.agg (Qg.c p_m).toArray)] (Zo (GL.box (v:=.agg (Qg.c p_m).toArray) (cs:=Qg.c p_m) h trivial rfl rfl rfl ?_))
 intro b1 H2 h
 refine Za (GL.nil (GC.seq ?_))
 obtain ⟨Hs3,hle4,h⟩:=h
 refine GC.any (Hs:=Hs3) (by kernel_rfl) hle4 (Zp 0 rfl Yf ?_)
 obtain ⟨x5,v6,h⟩:=h
 refine Zp 1 rfl (Yo v6) (Zp 3 rfl Yf ?_)
 obtain ⟨x7,v8,h⟩:=h
 refine Zp 4 rfl (Yo v8) (Zp 6 rfl Yf ?_)
 obtain ⟨x9,v10,h⟩:=h
 refine Zp 7 rfl (Yo v10) (Zp 9 rfl Yf ?_)
 obtain ⟨x11,v12,h⟩:=h
 refine Zp 10 rfl (Yo v12) (GA.eff 2 rfl (by kernel_rfl) (Zc h QgT ?_))
 rintro _ H15 ⟨r14,rfl,h⟩
 obtain ⟨hle13,h⟩:=h
 refine GA.back hle13 (GA.eff 5 rfl (by kernel_rfl) (Zc h Qha ?_))
 rintro _ H18 ⟨r17,rfl,h⟩
 obtain ⟨hle16,h⟩:=h
 refine GA.back hle16 (GA.eff 8 rfl (by kernel_rfl) (Zc h Qim ?_))
 rintro _ H21 ⟨r20,rfl,h⟩
 obtain ⟨hle19,h⟩:=h
 refine GA.back hle19 (GA.eff 11 rfl (by kernel_rfl) (Zc h QhQ ?_))
 rintro _ H24 ⟨r23,rfl,h⟩
 obtain ⟨hle22,h⟩:=h
 refine GA.back hle22 (Zp 12 rfl (OV.max4 rfl rfl rfl rfl) (Zp 13 rfl Ya (GA.done (by kernel_rfl) (GL.nil ?_))))
 exact Y1 I3 ⟨(max4 r14 r17 r20 r23),rfl,h⟩
def Qny (C:Ctx) (p_s:Str) (K:Bool→Heap→Prop) (H:Heap):Prop:=
 jn (α:=Bool) (fun b1 H8=>
 jn (α:=Bool) (fun b9 H16=>
 jn (α:=Bool) (fun b17 H23=>
 jn (α:=Bool) (fun b24 H32=>
 K b24 H32)
 (fun J25=>ift b17
 (catOk ([32]:Str) p_s∧
 catOk (([32]:Str)++p_s) ([32]:Str)∧
 Qhc C [32,109,111,100,117,108,101,32,105,109,112,111,114,116,32,112,117,98,32,116,121,112,101,32,105,110,112,117,116,32,114,101,108,32,110,101,118,101,114,32,110,111,116,32,97,110,100,32,111,114,32,105,102,32,116,104,101,110,32,101,108,115,101,32,116,114,117,101,32,102,97,108,115,101,32,99,111,117,110,116,32,115,117,109,32,109,105,110,32,109,97,120,32,110,101,103,32,108,101,110,32,98,105,103,32,105,110,116,32,98,111,111,108,32,116,101,120,116,32,116,117,112,108,101,32] ((([32]:Str)++p_s)++([32]:Str)) (fun r30 H31=>
 J25 (!r30) H31) H23)
 (J25 false H23)))
 (fun J18=>ift b9
 (QiY C p_s (fun r21 H22=>
 J18 r21 H22) H16)
 (J18 false H16)))
 (fun J10=>ift b1
 (ixs p_s 0 fun c13=>
 J10 (decide (((c13.toNat:Int):Int)≤122)) H8)
 (J10 false H8)))
 (fun J2=>ift (!(p_s == ([]:Str)))
 (ixs p_s 0 fun c5=>
 J2 (decide (((c5.toNat:Int):Int) ≥ 97)) H)
 (J2 false H))
theorem QqS (C p_s K H) (h:Qny C p_s K H):Qbp C p_s K H:=by
 refine Ye Tryz.func46 rfl Tryz.ntmps46 [(0,sv p_s)] (Zo (Za (GL.nil (Zo (Zm (Zv (OV.sbin (a:=p_s) (b:=([]:Str)) (v:=.bool (!(p_s == ([]:Str)))) rfl rfl rfl) (Zm ?_)))))))
 obtain ⟨J2,h,hR3⟩:=h
 refine GL.cut (α:=Bool) 4 J2 (fun b1=>[(9,.bool b1),(0,sv p_s)]) ?_ ?_
 rcases h.em with ⟨u4,h⟩ | ⟨u4,h⟩
 refine Zu u4 Ym ?_
 obtain ⟨c5,ha6,hb7,h⟩:=h
 refine Zu u4 (OV.indexStr rfl rfl rfl ha6 hb7) (Zu u4 (OV.ibin (v:=.bool (decide (((c5.toNat:Int):Int) ≥ 97))) rfl rfl rfl) (Zt u4 ?_))
 exact Yj I3 (decide (((c5.toNat:Int):Int) ≥ 97)) h
 refine Zk u4 (Zk u4 (Zk u4 (Zn u4 ?_)))
 exact Yj I3 false h
 intro b1 H8 h
 replace h:=hR3 b1 H8 h
 refine Zm ?_
 obtain ⟨J10,h,hR11⟩:=h
 refine GL.cut (α:=Bool) 4 J10 (fun b9=>[(14,.bool b9),(0,sv p_s)]) ?_ ?_
 rcases h.em with ⟨u12,h⟩ | ⟨u12,h⟩
 refine Zu u12 Ym ?_
 obtain ⟨c13,ha14,hb15,h⟩:=h
 refine Zu u12 (OV.indexStr rfl rfl rfl ha14 hb15) (Zu u12 (OV.ibin (v:=.bool (decide (((c13.toNat:Int):Int)≤122))) rfl rfl rfl) (Zt u12 ?_))
 exact Yj I3 (decide (((c13.toNat:Int):Int)≤122)) h
 refine Zk u12 (Zk u12 (Zk u12 (Zn u12 ?_)))
 exact Yj I3 false h
 intro b9 H16 h
 replace h:=hR11 b9 H16 h
 refine Zm ?_
 obtain ⟨J18,h,hR19⟩:=h
 refine GL.cut (α:=Bool) 3 J18 (fun b17=>[(18,.bool b17),(0,sv p_s)]) ?_ ?_
 rcases h.em with ⟨u20,h⟩ | ⟨u20,h⟩
 refine Zu u20 Ym (GL.call h (Yt u20) rfl Qnn (vs:=[sv p_s]) rfl ?_)
 rintro _ H22 ⟨r21,rfl,h⟩
 refine Zt u20 ?_
 exact Yj I3 r21 h
 refine Zk u20 (Zk u20 (Zn u20 ?_))
 exact Yj I3 false h
 intro b17 H23 h
 replace h:=hR19 b17 H23 h
 refine Zm ?_
 obtain ⟨J25,h,hR26⟩:=h
 refine GL.cut (α:=Bool) 6 J25 (fun b24=>[(25,.bool b24)]) ?_ ?_
 rcases h.em with ⟨u27,h⟩ | ⟨u27,h⟩
 refine Zu u27 Ym ?_
 obtain ⟨hl28,h⟩:=h
 refine Zu u27 (OV.cat (a:=([32]:Str)) (b:=p_s) rfl rfl hl28) ?_
 obtain ⟨hl29,h⟩:=h
 refine Zu u27 (OV.cat (a:=(([32]:Str)++p_s)) (b:=([32]:Str)) rfl rfl hl29) (GL.call h (Yt u27) rfl QlV (vs:=[sv [32,109,111,100,117,108,101,32,105,109,112,111,114,116,32,112,117,98,32,116,121,112,101,32,105,110,112,117,116,32,114,101,108,32,110,101,118,101,114,32,110,111,116,32,97,110,100,32,111,114,32,105,102,32,116,104,101,110,32,101,108,115,101,32,116,114,117,101,32,102,97,108,115,101,32,99,111,117,110,116,32,115,117,109,32,109,105,110,32,109,97,120,32,110,101,103,32,108,101,110,32,98,105,103,32,105,110,116,32,98,111,111,108,32,116,101,120,116,32,116,117,112,108,101,32],sv ((([32]:Str)++p_s)++([32]:Str))]) rfl ?_)
 rintro _ H31 ⟨r30,rfl,h⟩
 refine Zu u27 (OV.not rfl) (Zt u27 ?_)
 exact Yj I3 (!r30) h
 refine Zk u27 (Zk u27 (Zk u27 (Zk u27 (Zk u27 (Zn u27 ?_)))))
 exact Yj I3 false h
 intro b24 H32 h
 replace h:=hR26 b24 H32 h
 refine Za (GL.nil ?_)
 exact Y1 I3 ⟨b24,rfl,h⟩
def QfI (C:Ctx) (p_l:Sl) (p_is:Value) (K:Bool→Heap→Prop) (H:Heap):Prop:=
 (Value.cells p_is = #[p_is])∧nw ([p_is]) (fun b1 H2=>
 QaY C p_l (.func (.func 131) (List.toArray []) (List.toArray [pv (some (b1,0))]):Value) (fun r4 H5=>
 K (!r4) H5) H2) H
theorem Qjs (C p_l p_is K H) (h:QfI C p_l p_is K H):Qam C p_l p_is K H:=by
 refine Ye Tryz.func47 rfl Tryz.ntmps47 [(0,slv p_l),(1,p_is)] (Zo ?_)
 obtain ⟨u3,h⟩:=h
 refine GL.box (v:=p_is) (cs:=[p_is]) h trivial rfl rfl u3 ?_
 intro b1 H2 h
 refine Za (GL.nil (Zo (Zm (Zv (OV.makeFunc (vs:=[]) (us:=[pv (some (b1,0))]) rfl rfl) (Zc h QcT ?_)))))
 rintro _ H5 ⟨r4,rfl,h⟩
 refine Zv (OV.not rfl) (Za (GL.nil ?_))
 exact Y1 I3 ⟨(!r4),rfl,h⟩
def Qkn (C:Ctx) (p_x:Qn) (K:Bool→Heap→Prop) (H:Heap):Prop:=
 nw (Qn.c p_x) (fun b1 H2=>
 ldS H2 ((b1,0).1,(b1,0).2+2) fun x3=>
 Qbp C x3 (fun r5 H6=>
 K r5 H6) H2) H
theorem Qn6 (C p_x K H) (h:Qkn C p_x K H):Qdu C p_x K H:=by
 refine Ye Tryz.func48 rfl Tryz.ntmps48 [(0,.agg (Qn.c p_x).toArray)] (Zo (GL.box (v:=.agg (Qn.c p_x).toArray) (cs:=Qn.c p_x) h trivial rfl rfl rfl ?_))
 intro b1 H2 h
 refine Za (GL.nil (Zo (Zf (Yl h fun x3 h=>?_))))
 refine Zc h QbC ?_
 rintro _ H6 ⟨r5,rfl,h⟩
 refine Za (GL.nil ?_)
 exact Y1 I3 ⟨r5,rfl,h⟩
def QfA (C:Ctx) (p_l:Sl) (p_is:Value) (K:Bool→Heap→Prop) (H:Heap):Prop:=
 (Value.cells p_is = #[p_is])∧nw ([p_is]) (fun b1 H2=>
 QaN C p_l (.func (.func 133) (List.toArray []) (List.toArray [pv (some (b1,0))]):Value) (fun r4 H5=>
 K (!r4) H5) H2) H
theorem QiN (C p_l p_is K H) (h:QfA C p_l p_is K H):Qah C p_l p_is K H:=by
 refine Ye Tryz.func49 rfl Tryz.ntmps49 [(0,slv p_l),(1,p_is)] (Zo ?_)
 obtain ⟨u3,h⟩:=h
 refine GL.box (v:=p_is) (cs:=[p_is]) h trivial rfl rfl u3 ?_
 intro b1 H2 h
 refine Za (GL.nil (Zo (Zm (Zv (OV.makeFunc (vs:=[]) (us:=[pv (some (b1,0))]) rfl rfl) (Zc h QcG ?_)))))
 rintro _ H5 ⟨r4,rfl,h⟩
 refine Zv (OV.not rfl) (Za (GL.nil ?_))
 exact Y1 I3 ⟨(!r4),rfl,h⟩
def Qkw (C:Ctx) (p_t:Qf) (K:Bool→Heap→Prop) (H:Heap):Prop:=
 nw (Qf.c p_t) (fun b1 H2=>
 ldS H2 ((b1,0).1,(b1,0).2+3) fun x3=>
 Qbp C x3 (fun r5 H6=>
 jn (α:=Bool) (fun b7 H13=>
 jn (α:=Bool) (fun b14 H22=>
 jn (α:=Bool) (fun b23 H29=>
 jn (α:=Bool) (fun b30 H36=>
 jn (α:=Bool) (fun b37 H45=>
 K b37 H45)
 (fun J38=>ift b30
 (ldL H36 ((b1,0).1,(b1,0).2+5) fun x41=>
 Qag C x41 (.func (.func 137) (List.toArray []) (List.toArray []):Value) (fun r43 H44=>
 J38 r43 H44) H36)
 (J38 false H36)))
 (fun J31=>ift b23
 (ldL H29 ((b1,0).1,(b1,0).2+5) fun x34=>
 J31 (decide (((Sl.len x34:Int):Int)≤16)) H29)
 (J31 false H29)))
 (fun J24=>ift b14
 (ldL H22 ((b1,0).1,(b1,0).2+5) fun x27=>
 J24 (decide (((Sl.len x27:Int):Int) ≥ 1)) H22)
 (J24 false H22)))
 (fun J15=>ift b7
 (ldL H13 ((b1,0).1,(b1,0).2+4) fun x18=>
 QaO C x18 (.func (.func 135) (List.toArray []) (List.toArray []):Value) (fun r20 H21=>
 J15 r20 H21) H13)
 (J15 false H13)))
 (fun J8=>ift r5
 (ldL H6 ((b1,0).1,(b1,0).2+4) fun x11=>
 J8 (decide (((Sl.len x11:Int):Int)≤8)) H6)
 (J8 false H6))) H2) H
theorem Qof (C p_t K H) (h:Qkw C p_t K H):QdB C p_t K H:=by
 refine Ye Tryz.func50 rfl Tryz.ntmps50 [(0,.agg (Qf.c p_t).toArray)] (Zo (GL.box (v:=.agg (Qf.c p_t).toArray) (cs:=Qf.c p_t) h trivial rfl rfl rfl ?_))
 intro b1 H2 h
 refine Za (GL.nil (Zo (Zf (Yl h fun x3 h=>?_))))
 refine Zc h QbC ?_
 rintro _ H6 ⟨r5,rfl,h⟩
 refine Zm ?_
 obtain ⟨J8,h,hR9⟩:=h
 refine GL.cut (α:=Bool) 5 J8 (fun b7=>[(11,.bool b7),(1,pv (some (b1,0)))]) ?_ ?_
 rcases h.em with ⟨u10,h⟩ | ⟨u10,h⟩
 refine Zu u10 Yf ?_
 obtain ⟨x11,v12,h⟩:=h
 refine Zu u10 (Yo v12) (Zu u10 (OV.lenSl rfl rfl) (Zu u10 (OV.ibin (v:=.bool (decide (((Sl.len x11:Int):Int)≤8))) rfl rfl rfl) (Zt u10 ?_)))
 exact Yj I3 (decide (((Sl.len x11:Int):Int)≤8)) h
 refine Zk u10 (Zk u10 (Zk u10 (Zk u10 (Zn u10 ?_))))
 exact Yj I3 false h
 intro b7 H13 h
 replace h:=hR9 b7 H13 h
 refine Zm ?_
 obtain ⟨J15,h,hR16⟩:=h
 refine GL.cut (α:=Bool) 4 J15 (fun b14=>[(16,.bool b14),(1,pv (some (b1,0)))]) ?_ ?_
 rcases h.em with ⟨u17,h⟩ | ⟨u17,h⟩
 refine Zu u17 Yf ?_
 obtain ⟨x18,v19,h⟩:=h
 refine Zu u17 (Yo v19) (GL.call h (Yt u17) rfl Qhh (vs:=[slv x18,.func (.func 135) (List.toArray []) (List.toArray [])]) rfl ?_)
 rintro _ H21 ⟨r20,rfl,h⟩
 refine Zt u17 ?_
 exact Yj I3 r20 h
 refine Zk u17 (Zk u17 (Zk u17 (Zn u17 ?_)))
 exact Yj I3 false h
 intro b14 H22 h
 replace h:=hR16 b14 H22 h
 refine Zm ?_
 obtain ⟨J24,h,hR25⟩:=h
 refine GL.cut (α:=Bool) 5 J24 (fun b23=>[(22,.bool b23),(1,pv (some (b1,0)))]) ?_ ?_
 rcases h.em with ⟨u26,h⟩ | ⟨u26,h⟩
 refine Zu u26 Yf ?_
 obtain ⟨x27,v28,h⟩:=h
 refine Zu u26 (Yo v28) (Zu u26 (OV.lenSl rfl rfl) (Zu u26 (OV.ibin (v:=.bool (decide (((Sl.len x27:Int):Int) ≥ 1))) rfl rfl rfl) (Zt u26 ?_)))
 exact Yj I3 (decide (((Sl.len x27:Int):Int) ≥ 1)) h
 refine Zk u26 (Zk u26 (Zk u26 (Zk u26 (Zn u26 ?_))))
 exact Yj I3 false h
 intro b23 H29 h
 replace h:=hR25 b23 H29 h
 refine Zm ?_
 obtain ⟨J31,h,hR32⟩:=h
 refine GL.cut (α:=Bool) 5 J31 (fun b30=>[(28,.bool b30),(1,pv (some (b1,0)))]) ?_ ?_
 rcases h.em with ⟨u33,h⟩ | ⟨u33,h⟩
 refine Zu u33 Yf ?_
 obtain ⟨x34,v35,h⟩:=h
 refine Zu u33 (Yo v35) (Zu u33 (OV.lenSl rfl rfl) (Zu u33 (OV.ibin (v:=.bool (decide (((Sl.len x34:Int):Int)≤16))) rfl rfl rfl) (Zt u33 ?_)))
 exact Yj I3 (decide (((Sl.len x34:Int):Int)≤16)) h
 refine Zk u33 (Zk u33 (Zk u33 (Zk u33 (Zn u33 ?_))))
 exact Yj I3 false h
 intro b30 H36 h
 replace h:=hR32 b30 H36 h
 refine Zm ?_
 obtain ⟨J38,h,hR39⟩:=h
 refine GL.cut (α:=Bool) 4 J38 (fun b37=>[(33,.bool b37)]) ?_ ?_
 rcases h.em with ⟨u40,h⟩ | ⟨u40,h⟩
 refine Zu u40 Yf ?_
 obtain ⟨x41,v42,h⟩:=h
 refine Zu u40 (Yo v42) (GL.call h (Yt u40) rfl Qi4 (vs:=[slv x41,.func (.func 137) (List.toArray []) (List.toArray [])]) rfl ?_)
 rintro _ H44 ⟨r43,rfl,h⟩
 refine Zt u40 ?_
 exact Yj I3 r43 h
 refine Zk u40 (Zk u40 (Zk u40 (Zn u40 ?_)))
 exact Yj I3 false h
 intro b37 H45 h
 replace h:=hR39 b37 H45 h
 refine Za (GL.nil ?_)
 exact Y1 I3 ⟨b37,rfl,h⟩
def QfJ (C:Ctx) (p_l:Sl) (p_is:Value) (K:Bool→Heap→Prop) (H:Heap):Prop:=
 (Value.cells p_is = #[p_is])∧nw ([p_is]) (fun b1 H2=>
 QaZ C p_l (.func (.func 139) (List.toArray []) (List.toArray [pv (some (b1,0))]):Value) (fun r4 H5=>
 K (!r4) H5) H2) H
theorem Qjt (C p_l p_is K H) (h:QfJ C p_l p_is K H):Qan C p_l p_is K H:=by
 refine Ye Tryz.func51 rfl Tryz.ntmps51 [(0,slv p_l),(1,p_is)] (Zo ?_)
 obtain ⟨u3,h⟩:=h
 refine GL.box (v:=p_is) (cs:=[p_is]) h trivial rfl rfl u3 ?_
 intro b1 H2 h
 refine Za (GL.nil (Zo (Zm (Zv (OV.makeFunc (vs:=[]) (us:=[pv (some (b1,0))]) rfl rfl) (Zc h QcU ?_)))))
 rintro _ H5 ⟨r4,rfl,h⟩
 refine Zv (OV.not rfl) (Za (GL.nil ?_))
 exact Y1 I3 ⟨(!r4),rfl,h⟩
def Qko (C:Ctx) (p_x:Qi) (K:Bool→Heap→Prop) (H:Heap):Prop:=
 nw (Qi.c p_x) (fun b1 H2=>
 ldS H2 ((b1,0).1,(b1,0).2+4) fun x3=>
 Qbp C x3 (fun r5 H6=>
 jn (α:=Bool) (fun b7 H15=>
 K b7 H15)
 (fun J8=>ift r5
 (ldL H6 ((b1,0).1,(b1,0).2+5) fun x11=>
 Qcn C x11 true (fun r13 H14=>
 J8 r13 H14) H6)
 (J8 false H6))) H2) H
theorem Qn7 (C p_x K H) (h:Qko C p_x K H):Qdv C p_x K H:=by
 refine Ye Tryz.func52 rfl Tryz.ntmps52 [(0,.agg (Qi.c p_x).toArray)] (Zo (GL.box (v:=.agg (Qi.c p_x).toArray) (cs:=Qi.c p_x) h trivial rfl rfl rfl ?_))
 intro b1 H2 h
 refine Za (GL.nil (Zo (Zf (Yl h fun x3 h=>?_))))
 refine Zc h QbC ?_
 rintro _ H6 ⟨r5,rfl,h⟩
 refine Zm ?_
 obtain ⟨J8,h,hR9⟩:=h
 refine GL.cut (α:=Bool) 4 J8 (fun b7=>[(10,.bool b7)]) ?_ ?_
 rcases h.em with ⟨u10,h⟩ | ⟨u10,h⟩
 refine Zu u10 Yf ?_
 obtain ⟨x11,v12,h⟩:=h
 refine Zu u10 (Yo v12) (GL.call h (Yt u10) rfl Qk6 (vs:=[slv x11,.bool true]) rfl ?_)
 rintro _ H14 ⟨r13,rfl,h⟩
 refine Zt u10 ?_
 exact Yj I3 r13 h
 refine Zk u10 (Zk u10 (Zk u10 (Zn u10 ?_)))
 exact Yj I3 false h
 intro b7 H15 h
 replace h:=hR9 b7 H15 h
 refine Za (GL.nil ?_)
 exact Y1 I3 ⟨b7,rfl,h⟩
def Qlz (C:Ctx) (p_l:Sl) (p_named:Bool) (K:Bool→Heap→Prop) (H:Heap):Prop:=
 nw ([.bool p_named]) (fun b1 H2=>
 jn (α:=Bool) (fun b3 H9=>
 K b3 H9)
 (fun J4=>ift (decide (((Sl.len p_l:Int):Int)≤8))
 (Q6 C p_l (.func (.func 141) (List.toArray []) (List.toArray [pv (some (b1,0))]):Value) (fun r7 H8=>
 J4 r7 H8) H2)
 (J4 false H2))) H
theorem Qpj (C p_l p_named K H) (h:Qlz C p_l p_named K H):Qcn C p_l p_named K H:=by
 refine Ye Tryz.func53 rfl Tryz.ntmps53 [(0,slv p_l),(1,.bool p_named)] (Zo (GL.box (v:=.bool p_named) (cs:=[.bool p_named]) h trivial rfl rfl rfl ?_))
 intro b1 H2 h
 refine Za (GL.nil (Zo (Zm (Zq (Zi (.bool (decide (((Sl.len p_l:Int):Int)≤8))) (Zm ?_))))))
 obtain ⟨J4,h,hR5⟩:=h
 refine GL.cut (α:=Bool) 4 J4 (fun b3=>[(12,.bool b3)]) ?_ ?_
 rcases h.em with ⟨u6,h⟩ | ⟨u6,h⟩
 refine Zu u6 Ym (Zu u6 (OV.makeFunc (vs:=[]) (us:=[pv (some (b1,0))]) rfl rfl) (GL.call h (Yt u6) rfl Qij (vs:=[slv p_l,.func (.func 141) (List.toArray []) (List.toArray [pv (some (b1,0))])]) rfl ?_))
 rintro _ H8 ⟨r7,rfl,h⟩
 refine Zt u6 ?_
 exact Yj I3 r7 h
 refine Zk u6 (Zk u6 (Zk u6 (Zn u6 ?_)))
 exact Yj I3 false h
 intro b3 H9 h
 replace h:=hR5 b3 H9 h
 refine Za (GL.nil ?_)
 exact Y1 I3 ⟨b3,rfl,h⟩
def Qgn (C:Ctx) (p_l:Sl) (p_is:Value) (K:Bool→Heap→Prop) (H:Heap):Prop:=
 (Value.cells p_is = #[p_is])∧nw ([p_is]) (fun b1 H2=>
 QbA C p_l (.func (.func 144) (List.toArray []) (List.toArray [pv (some (b1,0))]):Value) (fun r4 H5=>
 K (!r4) H5) H2) H
theorem QkE (C p_l p_is K H) (h:Qgn C p_l p_is K H):Qao C p_l p_is K H:=by
 refine Ye Tryz.func54 rfl Tryz.ntmps54 [(0,slv p_l),(1,p_is)] (Zo ?_)
 obtain ⟨u3,h⟩:=h
 refine GL.box (v:=p_is) (cs:=[p_is]) h trivial rfl rfl u3 ?_
 intro b1 H2 h
 refine Za (GL.nil (Zo (Zm (Zv (OV.makeFunc (vs:=[]) (us:=[pv (some (b1,0))]) rfl rfl) (Zc h QdY ?_)))))
 rintro _ H5 ⟨r4,rfl,h⟩
 refine Zv (OV.not rfl) (Za (GL.nil ?_))
 exact Y1 I3 ⟨(!r4),rfl,h⟩
def QnA (C:Ctx) (p_r:Qk) (K:Bool→Heap→Prop) (H:Heap):Prop:=
 nw (Qk.c p_r) (fun b1 H2=>
 ldS H2 ((b1,0).1,(b1,0).2+2) fun x3=>
 QfN C x3 (fun r5 H6=>
 jn (α:=Bool) (fun b7 H13=>
 jn (α:=Bool) (fun b14 H22=>
 jn (α:=Bool) (fun b23 H31=>
 jn (α:=Bool) (fun b32 H40=>
 jn (α:=Bool) (fun b41 H49=>
 K b41 H49)
 (fun J42=>ift b32
 (ldL H40 ((b1,0).1,(b1,0).2+4) fun x45=>
 QaO C x45 (.func (.func 147) (List.toArray []) (List.toArray []):Value) (fun r47 H48=>
 J42 r47 H48) H40)
 (J42 false H40)))
 (fun J33=>ift b23
 (ldL H31 ((b1,0).1,(b1,0).2+5) fun x36=>
 QT C x36 (.func (.func 59) (List.toArray []) (List.toArray []):Value) (fun r38 H39=>
 J33 r38 H39) H31)
 (J33 false H31)))
 (fun J24=>ift b14
 (ldL H22 ((b1,0).1,(b1,0).2+3) fun x27=>
 QO C x27 (.func (.func 92) (List.toArray []) (List.toArray []):Value) (fun r29 H30=>
 J24 r29 H30) H22)
 (J24 false H22)))
 (fun J15=>ift b7
 (ldL H13 ((b1,0).1,(b1,0).2+4) fun x18=>
 ldL H13 ((b1,0).1,(b1,0).2+3) fun x20=>
 J15 (((Sl.len x18:Int):Int) == (Sl.len x20:Int)) H13)
 (J15 false H13)))
 (fun J8=>ift r5
 (ldL H6 ((b1,0).1,(b1,0).2+3) fun x11=>
 J8 (decide (((Sl.len x11:Int):Int)≤8)) H6)
 (J8 false H6))) H2) H
theorem QqU (C p_r K H) (h:QnA C p_r K H):QfO C p_r K H:=by
 refine Ye Tryz.func55 rfl Tryz.ntmps55 [(0,.agg (Qk.c p_r).toArray)] (Zo (GL.box (v:=.agg (Qk.c p_r).toArray) (cs:=Qk.c p_r) h trivial rfl rfl rfl ?_))
 intro b1 H2 h
 refine Za (GL.nil (Zo (Zf (Yl h fun x3 h=>?_))))
 refine Zc h Qhi ?_
 rintro _ H6 ⟨r5,rfl,h⟩
 refine Zm ?_
 obtain ⟨J8,h,hR9⟩:=h
 refine GL.cut (α:=Bool) 5 J8 (fun b7=>[(11,.bool b7),(1,pv (some (b1,0)))]) ?_ ?_
 rcases h.em with ⟨u10,h⟩ | ⟨u10,h⟩
 refine Zu u10 Yf ?_
 obtain ⟨x11,v12,h⟩:=h
 refine Zu u10 (Yo v12) (Zu u10 (OV.lenSl rfl rfl) (Zu u10 (OV.ibin (v:=.bool (decide (((Sl.len x11:Int):Int)≤8))) rfl rfl rfl) (Zt u10 ?_)))
 exact Yj I3 (decide (((Sl.len x11:Int):Int)≤8)) h
 refine Zk u10 (Zk u10 (Zk u10 (Zk u10 (Zn u10 ?_))))
 exact Yj I3 false h
 intro b7 H13 h
 replace h:=hR9 b7 H13 h
 refine Zm ?_
 obtain ⟨J15,h,hR16⟩:=h
 refine GL.cut (α:=Bool) 8 J15 (fun b14=>[(20,.bool b14),(1,pv (some (b1,0)))]) ?_ ?_
 rcases h.em with ⟨u17,h⟩ | ⟨u17,h⟩
 refine Zu u17 Yf ?_
 obtain ⟨x18,v19,h⟩:=h
 refine Zu u17 (Yo v19) (Zu u17 (OV.lenSl rfl rfl) (Zu u17 Yf ?_))
 obtain ⟨x20,v21,h⟩:=h
 refine Zu u17 (Yo v21) (Zu u17 (OV.lenSl rfl rfl) (Zu u17 (OV.ibin (v:=.bool (((Sl.len x18:Int):Int) == (Sl.len x20:Int))) rfl rfl rfl) (Zt u17 ?_)))
 exact Yj I3 (((Sl.len x18:Int):Int) == (Sl.len x20:Int)) h
 refine Zk u17 (Zk u17 (Zk u17 (Zk u17 (Zk u17 (Zk u17 (Zk u17 (Zn u17 ?_)))))))
 exact Yj I3 false h
 intro b14 H22 h
 replace h:=hR16 b14 H22 h
 refine Zm ?_
 obtain ⟨J24,h,hR25⟩:=h
 refine GL.cut (α:=Bool) 4 J24 (fun b23=>[(25,.bool b23),(1,pv (some (b1,0)))]) ?_ ?_
 rcases h.em with ⟨u26,h⟩ | ⟨u26,h⟩
 refine Zu u26 Yf ?_
 obtain ⟨x27,v28,h⟩:=h
 refine Zu u26 (Yo v28) (GL.call h (Yt u26) rfl QeI (vs:=[slv x27,.func (.func 92) (List.toArray []) (List.toArray [])]) rfl ?_)
 rintro _ H30 ⟨r29,rfl,h⟩
 refine Zt u26 ?_
 exact Yj I3 r29 h
 refine Zk u26 (Zk u26 (Zk u26 (Zn u26 ?_)))
 exact Yj I3 false h
 intro b23 H31 h
 replace h:=hR25 b23 H31 h
 refine Zm ?_
 obtain ⟨J33,h,hR34⟩:=h
 refine GL.cut (α:=Bool) 4 J33 (fun b32=>[(30,.bool b32),(1,pv (some (b1,0)))]) ?_ ?_
 rcases h.em with ⟨u35,h⟩ | ⟨u35,h⟩
 refine Zu u35 Yf ?_
 obtain ⟨x36,v37,h⟩:=h
 refine Zu u35 (Yo v37) (GL.call h (Yt u35) rfl Qfu (vs:=[slv x36,.func (.func 59) (List.toArray []) (List.toArray [])]) rfl ?_)
 rintro _ H39 ⟨r38,rfl,h⟩
 refine Zt u35 ?_
 exact Yj I3 r38 h
 refine Zk u35 (Zk u35 (Zk u35 (Zn u35 ?_)))
 exact Yj I3 false h
 intro b32 H40 h
 replace h:=hR34 b32 H40 h
 refine Zm ?_
 obtain ⟨J42,h,hR43⟩:=h
 refine GL.cut (α:=Bool) 4 J42 (fun b41=>[(35,.bool b41)]) ?_ ?_
 rcases h.em with ⟨u44,h⟩ | ⟨u44,h⟩
 refine Zu u44 Yf ?_
 obtain ⟨x45,v46,h⟩:=h
 refine Zu u44 (Yo v46) (GL.call h (Yt u44) rfl Qhh (vs:=[slv x45,.func (.func 147) (List.toArray []) (List.toArray [])]) rfl ?_)
 rintro _ H48 ⟨r47,rfl,h⟩
 refine Zt u44 ?_
 exact Yj I3 r47 h
 refine Zk u44 (Zk u44 (Zk u44 (Zn u44 ?_)))
 exact Yj I3 false h
 intro b41 H49 h
 replace h:=hR43 b41 H49 h
 refine Za (GL.nil ?_)
 exact Y1 I3 ⟨b41,rfl,h⟩
def Qf4 (C:Ctx) (p_l:Sl) (p_is:Value) (K:Bool→Heap→Prop) (H:Heap):Prop:=
 (Value.cells p_is = #[p_is])∧nw ([p_is]) (fun b1 H2=>
 Qbi C p_l (.func (.func 149) (List.toArray []) (List.toArray [pv (some (b1,0))]):Value) (fun r4 H5=>
 K (!r4) H5) H2) H
theorem QjQ (C p_l p_is K H) (h:Qf4 C p_l p_is K H):Qae C p_l p_is K H:=by
 refine Ye Tryz.func56 rfl Tryz.ntmps56 [(0,slv p_l),(1,p_is)] (Zo ?_)
 obtain ⟨u3,h⟩:=h
 refine GL.box (v:=p_is) (cs:=[p_is]) h trivial rfl rfl u3 ?_
 intro b1 H2 h
 refine Za (GL.nil (Zo (Zm (Zv (OV.makeFunc (vs:=[]) (us:=[pv (some (b1,0))]) rfl rfl) (Zc h Qdn ?_)))))
 rintro _ H5 ⟨r4,rfl,h⟩
 refine Zv (OV.not rfl) (Za (GL.nil ?_))
 exact Y1 I3 ⟨(!r4),rfl,h⟩
def Qkp (C:Ctx) (p_x:Ql) (K:Bool→Heap→Prop) (H:Heap):Prop:=
 nw (Ql.c p_x) (fun b1 H2=>
 ldS H2 ((b1,0).1,(b1,0).2+2) fun x3=>
 Qbp C x3 (fun r5 H6=>
 jn (α:=Bool) (fun b7 H13=>
 jn (α:=Bool) (fun b14 H22=>
 K b14 H22)
 (fun J15=>ift b7
 (ldL H13 ((b1,0).1,(b1,0).2+3) fun x18=>
 QT C x18 (.func (.func 59) (List.toArray []) (List.toArray []):Value) (fun r20 H21=>
 J15 r20 H21) H13)
 (J15 false H13)))
 (fun J8=>ift r5
 (ldL H6 ((b1,0).1,(b1,0).2+3) fun x11=>
 J8 (decide (((Sl.len x11:Int):Int) > 0)) H6)
 (J8 false H6))) H2) H
theorem Qn8 (C p_x K H) (h:Qkp C p_x K H):Qdw C p_x K H:=by
 refine Ye Tryz.func57 rfl Tryz.ntmps57 [(0,.agg (Ql.c p_x).toArray)] (Zo (GL.box (v:=.agg (Ql.c p_x).toArray) (cs:=Ql.c p_x) h trivial rfl rfl rfl ?_))
 intro b1 H2 h
 refine Za (GL.nil (Zo (Zf (Yl h fun x3 h=>?_))))
 refine Zc h QbC ?_
 rintro _ H6 ⟨r5,rfl,h⟩
 refine Zm ?_
 obtain ⟨J8,h,hR9⟩:=h
 refine GL.cut (α:=Bool) 5 J8 (fun b7=>[(11,.bool b7),(1,pv (some (b1,0)))]) ?_ ?_
 rcases h.em with ⟨u10,h⟩ | ⟨u10,h⟩
 refine Zu u10 Yf ?_
 obtain ⟨x11,v12,h⟩:=h
 refine Zu u10 (Yo v12) (Zu u10 (OV.lenSl rfl rfl) (Zu u10 (OV.ibin (v:=.bool (decide (((Sl.len x11:Int):Int) > 0))) rfl rfl rfl) (Zt u10 ?_)))
 exact Yj I3 (decide (((Sl.len x11:Int):Int) > 0)) h
 refine Zk u10 (Zk u10 (Zk u10 (Zk u10 (Zn u10 ?_))))
 exact Yj I3 false h
 intro b7 H13 h
 replace h:=hR9 b7 H13 h
 refine Zm ?_
 obtain ⟨J15,h,hR16⟩:=h
 refine GL.cut (α:=Bool) 4 J15 (fun b14=>[(16,.bool b14)]) ?_ ?_
 rcases h.em with ⟨u17,h⟩ | ⟨u17,h⟩
 refine Zu u17 Yf ?_
 obtain ⟨x18,v19,h⟩:=h
 refine Zu u17 (Yo v19) (GL.call h (Yt u17) rfl Qfu (vs:=[slv x18,.func (.func 59) (List.toArray []) (List.toArray [])]) rfl ?_)
 rintro _ H21 ⟨r20,rfl,h⟩
 refine Zt u17 ?_
 exact Yj I3 r20 h
 refine Zk u17 (Zk u17 (Zk u17 (Zn u17 ?_)))
 exact Yj I3 false h
 intro b14 H22 h
 replace h:=hR16 b14 H22 h
 refine Za (GL.nil ?_)
 exact Y1 I3 ⟨b14,rfl,h⟩
def Qfz (C:Ctx) (p_l:Sl) (p_is:Value) (K:Bool→Heap→Prop) (H:Heap):Prop:=
 (Value.cells p_is = #[p_is])∧nw ([p_is]) (fun b1 H2=>
 QaM C p_l (.func (.func 151) (List.toArray []) (List.toArray [pv (some (b1,0))]):Value) (fun r4 H5=>
 K (!r4) H5) H2) H
theorem QiL (C p_l p_is K H) (h:Qfz C p_l p_is K H):QT C p_l p_is K H:=by
 refine Ye Tryz.func58 rfl Tryz.ntmps58 [(0,slv p_l),(1,p_is)] (Zo ?_)
 obtain ⟨u3,h⟩:=h
 refine GL.box (v:=p_is) (cs:=[p_is]) h trivial rfl rfl u3 ?_
 intro b1 H2 h
 refine Za (GL.nil (Zo (Zm (Zv (OV.makeFunc (vs:=[]) (us:=[pv (some (b1,0))]) rfl rfl) (Zc h QcF ?_)))))
 rintro _ H5 ⟨r4,rfl,h⟩
 refine Zv (OV.not rfl) (Za (GL.nil ?_))
 exact Y1 I3 ⟨(!r4),rfl,h⟩
def Qku (C:Ctx) (p_x:Qc) (K:Bool→Heap→Prop) (H:Heap):Prop:=
 nw (Qc.c p_x) (fun b1 H2=>
 ldI H2 .u8 ((b1,0).1,(b1,0).2+0) fun x3=>
 jn (α:=Bool) (fun x6 H7=>
 ift x6
 (ldS H7 ((b1,0).1,(b1,0).2+3) fun x11=>
 QfN C x11 (fun r13 H14=>
 jn (α:=Bool) (fun b15 H21=>
 jn (α:=Bool) (fun b22 H30=>
 K b22 H30)
 (fun J23=>ift b15
 (ldL H21 ((b1,0).1,(b1,0).2+4) fun x26=>
 QO C x26 (.func (.func 152) (List.toArray []) (List.toArray []):Value) (fun r28 H29=>
 J23 r28 H29) H21)
 (J23 false H21)))
 (fun J16=>ift r13
 (ldL H14 ((b1,0).1,(b1,0).2+4) fun x19=>
 J16 (decide (((Sl.len x19:Int):Int)≤8)) H14)
 (J16 false H14))) H7)
 (ift ((x3:Int) == 3)
 (ldS H7 ((b1,0).1,(b1,0).2+3) fun x32=>
 jn (α:=Bool) (fun b34 H40=>
 jn (α:=Bool) (fun b41 H56=>
 K b41 H56)
 (fun J42=>ift b34
 (ldL H40 ((b1,0).1,(b1,0).2+4) fun x45=>
 ixa x45 0 fun p47=>
 ldT H40 Qa.c (p47.1,p47.2+(0:Int).toNat*9) fun x52=>
 Qdc C x52 (fun r54 H55=>
 J42 r54 H55) H40)
 (J42 false H40)))
 (fun J35=>ift (x32 == ([]:Str))
 (ldL H7 ((b1,0).1,(b1,0).2+4) fun x38=>
 J35 (((Sl.len x38:Int):Int) == 1) H7)
 (J35 false H7)))
 (ift ((x3:Int) == 4)
 (ldS H7 ((b1,0).1,(b1,0).2+3) fun x58=>
 Qfn C x58 (fun r60 H61=>
 jn (α:=Bool) (fun b62 H68=>
 jn (α:=Bool) (fun b69 H84=>
 K b69 H84)
 (fun J70=>ift b62
 (ldL H68 ((b1,0).1,(b1,0).2+4) fun x73=>
 ixa x73 0 fun p75=>
 ldT H68 Qa.c (p75.1,p75.2+(0:Int).toNat*9) fun x80=>
 Qdc C x80 (fun r82 H83=>
 J70 r82 H83) H68)
 (J70 false H68)))
 (fun J63=>ift r60
 (ldL H61 ((b1,0).1,(b1,0).2+4) fun x66=>
 J63 (((Sl.len x66:Int):Int) == 1) H61)
 (J63 false H61))) H7)
 (K false H7))))
 (fun J5=>ift ((x3:Int) == 1)
 (J5 ((x3:Int) == 1) H2)
 (J5 ((x3:Int) == 2) H2))) H
theorem Qod (C p_x K H) (h:Qku C p_x K H):Qdz C p_x K H:=by
 refine Ye Tryz.func59 rfl Tryz.ntmps59 [(0,.agg (Qc.c p_x).toArray)] (Zo (GL.box (v:=.agg (Qc.c p_x).toArray) (cs:=Qc.c p_x) h trivial rfl rfl rfl ?_))
 intro b1 H2 h
 refine Za (GL.nil (GC.seq (Zo (Zf (Yl h fun x3 h=>?_)))))
 refine GL.nil (GC.block ?_)
 obtain ⟨J5,h,hR8⟩:=h
 refine GC.join (α:=Bool) J5 (fun x6=>[(5,.bool x6),(1,pv (some (b1,0))),(4,.int .u8 x3)]) ?_ ?_
 refine Zo (Zi (.bool ((x3:Int) == 1)) (Za (GL.nil (Yd h (fun hc9 h=>?_) fun hc9 h=>?_))))
 exact Yk I3 ((x3:Int) == 1) h
 refine GC.region (Zi (.bool ((x3:Int) == 2)) (Za ?_))
 exact Yj I3 ((x3:Int) == 2) h
 intro x6 H7 h
 replace h:=hR8 x6 H7 h
 refine Yd h (fun hc10 h=>?_) fun hc10 h=>?_
 refine Zo (Zf (Yl h fun x11 h=>?_))
 refine Zc h Qhi ?_
 rintro _ H14 ⟨r13,rfl,h⟩
 refine Zm ?_
 obtain ⟨J16,h,hR17⟩:=h
 refine GL.cut (α:=Bool) 5 J16 (fun b15=>[(16,.bool b15),(1,pv (some (b1,0)))]) ?_ ?_
 rcases h.em with ⟨hc18,h⟩ | ⟨hc18,h⟩
 refine Zu hc18 Yf ?_
 obtain ⟨x19,v20,h⟩:=h
 refine Zu hc18 (Yo v20) (Zu hc18 (OV.lenSl rfl rfl) (Zu hc18 (OV.ibin (v:=.bool (decide (((Sl.len x19:Int):Int)≤8))) rfl rfl rfl) (Zt hc18 ?_)))
 exact Yj I3 (decide (((Sl.len x19:Int):Int)≤8)) h
 refine Zk hc18 (Zk hc18 (Zk hc18 (Zk hc18 (Zn hc18 ?_))))
 exact Yj I3 false h
 intro b15 H21 h
 replace h:=hR17 b15 H21 h
 refine Zm ?_
 obtain ⟨J23,h,hR24⟩:=h
 refine GL.cut (α:=Bool) 4 J23 (fun b22=>[(21,.bool b22)]) ?_ ?_
 rcases h.em with ⟨hc25,h⟩ | ⟨hc25,h⟩
 refine Zu hc25 Yf ?_
 obtain ⟨x26,v27,h⟩:=h
 refine Zu hc25 (Yo v27) (GL.call h (Yt hc25) rfl QeI (vs:=[slv x26,.func (.func 152) (List.toArray []) (List.toArray [])]) rfl ?_)
 rintro _ H29 ⟨r28,rfl,h⟩
 refine Zt hc25 ?_
 exact Yj I3 r28 h
 refine Zk hc25 (Zk hc25 (Zk hc25 (Zn hc25 ?_)))
 exact Yj I3 false h
 intro b22 H30 h
 replace h:=hR24 b22 H30 h
 refine Za (GL.nil ?_)
 exact Y1 I3 ⟨b22,rfl,h⟩
 refine Zo (Zi (.bool ((x3:Int) == 3)) (Za (GL.nil (Yd h (fun hc31 h=>?_) fun hc31 h=>?_))))
 refine Zo (Zf (Yl h fun x32 h=>?_))
 refine Zv (OV.sbin (a:=x32) (b:=([]:Str)) (v:=.bool (x32 == ([]:Str))) rfl rfl rfl) (Zm ?_)
 obtain ⟨J35,h,hR36⟩:=h
 refine GL.cut (α:=Bool) 5 J35 (fun b34=>[(32,.bool b34),(1,pv (some (b1,0)))]) ?_ ?_
 rcases h.em with ⟨hc37,h⟩ | ⟨hc37,h⟩
 refine Zu hc37 Yf ?_
 obtain ⟨x38,v39,h⟩:=h
 refine Zu hc37 (Yo v39) (Zu hc37 (OV.lenSl rfl rfl) (Zu hc37 (OV.ibin (v:=.bool (((Sl.len x38:Int):Int) == 1)) rfl rfl rfl) (Zt hc37 ?_)))
 exact Yj I3 (((Sl.len x38:Int):Int) == 1) h
 refine Zk hc37 (Zk hc37 (Zk hc37 (Zk hc37 (Zn hc37 ?_))))
 exact Yj I3 false h
 intro b34 H40 h
 replace h:=hR36 b34 H40 h
 refine Zm ?_
 obtain ⟨J42,h,hR43⟩:=h
 refine GL.cut (α:=Bool) 6 J42 (fun b41=>[(39,.bool b41)]) ?_ ?_
 rcases h.em with ⟨hc44,h⟩ | ⟨hc44,h⟩
 refine Zu hc44 Yf ?_
 obtain ⟨x45,v46,h⟩:=h
 refine Zu hc44 (Yo v46) ?_
 obtain ⟨p47,ha48,hb49,hc50,hd51,h⟩:=h
 refine Zu hc44 (OV.indexAddr rfl rfl rfl rfl ha48 hb49 hc50 hd51) ?_
 obtain ⟨x52,v53,h⟩:=h
 refine Zu hc44 (OV.loadT rfl rfl rfl v53) (GL.call h (Yt hc44) rfl Qka (vs:=[.agg (Qa.c x52).toArray]) rfl ?_)
 rintro _ H55 ⟨r54,rfl,h⟩
 refine Zt hc44 ?_
 exact Yj I3 r54 h
 refine Zk hc44 (Zk hc44 (Zk hc44 (Zk hc44 (Zk hc44 (Zn hc44 ?_)))))
 exact Yj I3 false h
 intro b41 H56 h
 replace h:=hR43 b41 H56 h
 refine Za (GL.nil ?_)
 exact Y1 I3 ⟨b41,rfl,h⟩
 refine Zo (Zi (.bool ((x3:Int) == 4)) (Za (GL.nil (Yd h (fun hc57 h=>?_) fun hc57 h=>?_))))
 refine Zo (Zf (Yl h fun x58 h=>?_))
 refine Zc h Qjh ?_
 rintro _ H61 ⟨r60,rfl,h⟩
 refine Zm ?_
 obtain ⟨J63,h,hR64⟩:=h
 refine GL.cut (α:=Bool) 5 J63 (fun b62=>[(50,.bool b62),(1,pv (some (b1,0)))]) ?_ ?_
 rcases h.em with ⟨hc65,h⟩ | ⟨hc65,h⟩
 refine Zu hc65 Yf ?_
 obtain ⟨x66,v67,h⟩:=h
 refine Zu hc65 (Yo v67) (Zu hc65 (OV.lenSl rfl rfl) (Zu hc65 (OV.ibin (v:=.bool (((Sl.len x66:Int):Int) == 1)) rfl rfl rfl) (Zt hc65 ?_)))
 exact Yj I3 (((Sl.len x66:Int):Int) == 1) h
 refine Zk hc65 (Zk hc65 (Zk hc65 (Zk hc65 (Zn hc65 ?_))))
 exact Yj I3 false h
 intro b62 H68 h
 replace h:=hR64 b62 H68 h
 refine Zm ?_
 obtain ⟨J70,h,hR71⟩:=h
 refine GL.cut (α:=Bool) 6 J70 (fun b69=>[(57,.bool b69)]) ?_ ?_
 rcases h.em with ⟨hc72,h⟩ | ⟨hc72,h⟩
 refine Zu hc72 Yf ?_
 obtain ⟨x73,v74,h⟩:=h
 refine Zu hc72 (Yo v74) ?_
 obtain ⟨p75,ha76,hb77,hc78,hd79,h⟩:=h
 refine Zu hc72 (OV.indexAddr rfl rfl rfl rfl ha76 hb77 hc78 hd79) ?_
 obtain ⟨x80,v81,h⟩:=h
 refine Zu hc72 (OV.loadT rfl rfl rfl v81) (GL.call h (Yt hc72) rfl Qka (vs:=[.agg (Qa.c x80).toArray]) rfl ?_)
 rintro _ H83 ⟨r82,rfl,h⟩
 refine Zt hc72 ?_
 exact Yj I3 r82 h
 refine Zk hc72 (Zk hc72 (Zk hc72 (Zk hc72 (Zk hc72 (Zn hc72 ?_)))))
 exact Yj I3 false h
 intro b69 H84 h
 replace h:=hR71 b69 H84 h
 refine Za (GL.nil ?_)
 exact Y1 I3 ⟨b69,rfl,h⟩
 refine GC.skip_to (fun _ _ h=>h) (Zo (Za (GL.nil ?_)))
 exact Y1 I3 ⟨false,rfl,h⟩
def Qkq (C:Ctx) (p_x:Qk) (K:Bool→Heap→Prop) (H:Heap):Prop:=
 nw (Qk.c p_x) (fun b1 H2=>
 ldL H2 ((b1,0).1,(b1,0).2+5) fun x3=>
 K (decide (((Sl.len x3:Int):Int)≤12)) H2) H
theorem Qn9 (C p_x K H) (h:Qkq C p_x K H):Qdx C p_x K H:=by
 refine Ye Tryz.func60 rfl Tryz.ntmps60 [(0,.agg (Qk.c p_x).toArray)] (Zo (GL.box (v:=.agg (Qk.c p_x).toArray) (cs:=Qk.c p_x) h trivial rfl rfl rfl ?_))
 intro b1 H2 h
 refine Za (GL.nil (Zo (Zf (Yl h fun x3 h=>?_))))
 refine Zq (Zi (.bool (decide (((Sl.len x3:Int):Int)≤12))) (Za (GL.nil ?_)))
 exact Y1 I3 ⟨(decide (((Sl.len x3:Int):Int)≤12)),rfl,h⟩
def Qkr (C:Ctx) (p_x:Ql) (K:Bool→Heap→Prop) (H:Heap):Prop:=
 nw (Ql.c p_x) (fun b1 H2=>
 ldL H2 ((b1,0).1,(b1,0).2+3) fun x3=>
 K (decide (((Sl.len x3:Int):Int)≤12)) H2) H
theorem Qoa (C p_x K H) (h:Qkr C p_x K H):Qdy C p_x K H:=by
 refine Ye Tryz.func61 rfl Tryz.ntmps61 [(0,.agg (Ql.c p_x).toArray)] (Zo (GL.box (v:=.agg (Ql.c p_x).toArray) (cs:=Ql.c p_x) h trivial rfl rfl rfl ?_))
 intro b1 H2 h
 refine Za (GL.nil (Zo (Zf (Yl h fun x3 h=>?_))))
 refine Zq (Zi (.bool (decide (((Sl.len x3:Int):Int)≤12))) (Za (GL.nil ?_)))
 exact Y1 I3 ⟨(decide (((Sl.len x3:Int):Int)≤12)),rfl,h⟩
def QmE (C:Ctx) (p_m:Qg) (K:Int→Heap→Prop) (H:Heap):Prop:=
 nw (Qg.c p_m) (fun b1 H2=>
 lp (α:=Int×Int) (0,0) H2 (fun x3 J4 H5=>
 ldL H5 ((b1,0).1,(b1,0).2+2) fun x6=>
 ift (decide ((x3.2:Int) < (Sl.len x6:Int)))
 (lp (α:=Int×Int) (x3.1,0) H5 (fun x9 J10 H11=>
 ldL H11 ((b1,0).1,(b1,0).2+2) fun x12=>
 ixa x12 x3.2 fun p14=>
 ldL H11 ((p14.1,p14.2+(x3.2:Int).toNat*6).1,(p14.1,p14.2+(x3.2:Int).toNat*6).2+5) fun x19=>
 ift (decide ((x9.2:Int) < (Sl.len x19:Int)))
 (ldL H11 ((b1,0).1,(b1,0).2+2) fun x22=>
 ixa x22 x3.2 fun p24=>
 ldL H11 ((p24.1,p24.2+(x3.2:Int).toNat*6).1,(p24.1,p24.2+(x3.2:Int).toNat*6).2+5) fun x29=>
 ixa x29 x9.2 fun p31=>
 ldL H11 ((p31.1,p31.2+(x9.2:Int).toNat*2).1,(p31.1,p31.2+(x9.2:Int).toNat*2).2+1) fun x36=>
 lp (α:=Int×Int) (x9.1,0) H11 (fun x38 J39 H40=>
 ift (decide ((x38.2:Int) < (Sl.len x36:Int)))
 (ixa x36 x38.2 fun p42=>
 ldT H40 Qe.c ((p42.1,p42.2+(x38.2:Int).toNat*3).1,(p42.1,p42.2+(x38.2:Int).toNat*3).2+1) fun x47=>
 Qap C x47 (fun r49 H50=>
 J39 ((if r49 > x38.1 then r49 else x38.1:Int),(w .i64 (x38.2+1))) H50) H40)
 (J10 (x38.1,(w .i64 (x9.2+1))) H40)))
 (J4 (x9.1,(w .i64 (x3.2+1))) H11)))
 (lp (α:=Int×Int) (x3.1,0) H5 (fun x51 J52 H53=>
 ldL H53 ((b1,0).1,(b1,0).2+3) fun x54=>
 ift (decide ((x51.2:Int) < (Sl.len x54:Int)))
 (lp (α:=Int×Int) (x51.1,0) H53 (fun x57 J58 H59=>
 ldL H59 ((b1,0).1,(b1,0).2+3) fun x60=>
 ixa x60 x51.2 fun p62=>
 ldL H59 ((p62.1,p62.2+(x51.2:Int).toNat*6).1,(p62.1,p62.2+(x51.2:Int).toNat*6).2+5) fun x67=>
 ift (decide ((x57.2:Int) < (Sl.len x67:Int)))
 (ldL H59 ((b1,0).1,(b1,0).2+3) fun x70=>
 ixa x70 x51.2 fun p72=>
 ldL H59 ((p72.1,p72.2+(x51.2:Int).toNat*6).1,(p72.1,p72.2+(x51.2:Int).toNat*6).2+5) fun x77=>
 ixa x77 x57.2 fun p79=>
 ldT H59 Qe.c ((p79.1,p79.2+(x57.2:Int).toNat*3).1,(p79.1,p79.2+(x57.2:Int).toNat*3).2+1) fun x84=>
 Qap C x84 (fun r86 H87=>
 J58 ((if r86 > x57.1 then r86 else x57.1:Int),(w .i64 (x57.2+1))) H87) H59)
 (J52 (x57.1,(w .i64 (x51.2+1))) H59)))
 (lp (α:=Int×Int) (x51.1,0) H53 (fun x88 J89 H90=>
 ldL H90 ((b1,0).1,(b1,0).2+4) fun x91=>
 ift (decide ((x88.2:Int) < (Sl.len x91:Int)))
 (ldL H90 ((b1,0).1,(b1,0).2+4) fun x94=>
 ixa x94 x88.2 fun p96=>
 ldL H90 ((p96.1,p96.2+(x88.2:Int).toNat*6).1,(p96.1,p96.2+(x88.2:Int).toNat*6).2+5) fun x101=>
 Qbb C x101 (fun r103 H104=>
 lp (α:=Int×Int) ((if r103 > x88.1 then r103 else x88.1:Int),0) H104 (fun x105 J106 H107=>
 ldL H107 ((b1,0).1,(b1,0).2+4) fun x108=>
 ixa x108 x88.2 fun p110=>
 ldL H107 ((p110.1,p110.2+(x88.2:Int).toNat*6).1,(p110.1,p110.2+(x88.2:Int).toNat*6).2+3) fun x115=>
 ift (decide ((x105.2:Int) < (Sl.len x115:Int)))
 (ldL H107 ((b1,0).1,(b1,0).2+4) fun x118=>
 ixa x118 x88.2 fun p120=>
 ldL H107 ((p120.1,p120.2+(x88.2:Int).toNat*6).1,(p120.1,p120.2+(x88.2:Int).toNat*6).2+3) fun x125=>
 ixa x125 x105.2 fun p127=>
 ldT H107 Qa.c (p127.1,p127.2+(x105.2:Int).toNat*9) fun x132=>
 QbV C x132 (fun r134 H135=>
 J106 ((if r134 > x105.1 then r134 else x105.1:Int),(w .i64 (x105.2+1))) H135) H107)
 (J89 (x105.1,(w .i64 (x88.2+1))) H107))) H90)
 (lp (α:=Int×Int) (x88.1,0) H90 (fun x136 J137 H138=>
 ldL H138 ((b1,0).1,(b1,0).2+5) fun x139=>
 ift (decide ((x136.2:Int) < (Sl.len x139:Int)))
 (ldL H138 ((b1,0).1,(b1,0).2+5) fun x142=>
 ixa x142 x136.2 fun p144=>
 ldL H138 ((p144.1,p144.2+(x136.2:Int).toNat*4).1,(p144.1,p144.2+(x136.2:Int).toNat*4).2+3) fun x149=>
 Qbb C x149 (fun r151 H152=>
 J137 ((if r151 > x136.1 then r151 else x136.1:Int),(w .i64 (x136.2+1))) H152) H138)
 (K x136.1 H138))))))))) H
theorem Qqa (C p_m K H) (h:QmE C p_m K H):Qd3 C p_m K H:=by
 refine Ye Tryz.func62 rfl Tryz.ntmps62 [(0,.agg (Qg.c p_m).toArray)] (Zo (GL.box (v:=.agg (Qg.c p_m).toArray) (cs:=Qg.c p_m) h trivial rfl rfl rfl ?_))
 intro b1 H2 h
 refine Za (GL.nil (Zo (Za (GL.nil (GC.seq (Zo (Za (GL.nil (GC.block (Yp h (fun x3=>[(3,.int .i64 x3.1),(4,.int .i64 x3.2),(1,pv (some (b1,0)))]) ?_))))))))))
 intro x3 H5 J4 h
 refine GC.seq (Zo (Zm (Zf (Yl h fun x6 h=>?_))))
 refine Zq (Zi (.bool (decide ((x3.2:Int) < (Sl.len x6:Int)))) (GL.nil (Yd h (fun u8 h=>?_) fun u8 h=>?_)))
 refine GC.skip (GC.seq (GC.block (Zo (Za (GL.nil (GC.block (Yp h (fun x9=>[(3,.int .i64 x9.1),(5,.int .i64 x9.2),(1,pv (some (b1,0))),(4,.int .i64 x3.2)]) ?_)))))))
 intro x9 H11 J10 h
 refine GC.seq (Zo (Zm (Zf (Yl h fun x12 h=>?_))))
 refine Zm (Yx h fun p14 h=>?_)
 refine Zf (Yl h fun x19 h=>?_)
 refine Zq (Zi (.bool (decide ((x9.2:Int) < (Sl.len x19:Int)))) (GL.nil (Yd h (fun u21 h=>?_) fun u21 h=>?_)))
 refine GC.skip (GC.seq (GC.block (Zo (Zf (Yl h fun x22 h=>?_)))))
 refine Zm (Yx h fun p24 h=>?_)
 refine Zf (Yl h fun x29 h=>?_)
 refine Zm (Yx h fun p31 h=>?_)
 refine Zf (Yl h fun x36 h=>?_)
 refine Za (GL.nil (Zo (Za (GL.nil (GC.block (Yp h (fun x38=>[(3,.int .i64 x38.1),(7,.int .i64 x38.2),(1,pv (some (b1,0))),(4,.int .i64 x3.2),(5,.int .i64 x9.2),(6,slv x36)]) ?_))))))
 intro x38 H40 J39 h
 refine GC.seq (Zo (Zm (Zm (Zq (Zi (.bool (decide ((x38.2:Int) < (Sl.len x36:Int)))) (GL.nil (Yd h (fun u41 h=>?_) fun u41 h=>?_)))))))
 refine GC.skip (GC.seq (GC.block (GC.region (Zm (Zm (Zm (Yx h fun p42 h=>?_)))))))
 refine Zf ?_
 obtain ⟨x47,v48,h⟩:=h
 refine Zv (OV.loadT rfl rfl rfl v48) (Zc h Qfs ?_)
 rintro _ H50 ⟨r49,rfl,h⟩
 refine Zv (OV.maxI rfl rfl) (Za (GL.nil_to (fun _ _ h=>h) (GC.region (Zm (Zi (.int .i64 (w .i64 (x38.2+1))) (Za ?_))))))
 exact Yj I3 ((if r49 > x38.1 then r49 else x38.1:Int),(w .i64 (x38.2+1))) h
 refine GC.exit_to (fun _ _ h=>h) (GC.region (Zm (Zi (.int .i64 (w .i64 (x9.2+1))) (Za ?_))))
 exact Yj I3 (x38.1,(w .i64 (x9.2+1))) h
 refine GC.exit_to (fun _ _ h=>h) (GC.region (Zm (Zi (.int .i64 (w .i64 (x3.2+1))) (Za ?_))))
 exact Yj I3 (x9.1,(w .i64 (x3.2+1))) h
 refine GC.exit_to (fun _ _ h=>h) (GC.seq (Zo (Za (GL.nil (GC.block (Yp h (fun x51=>[(3,.int .i64 x51.1),(8,.int .i64 x51.2),(1,pv (some (b1,0)))]) ?_))))))
 intro x51 H53 J52 h
 refine GC.seq (Zo (Zm (Zf (Yl h fun x54 h=>?_))))
 refine Zq (Zi (.bool (decide ((x51.2:Int) < (Sl.len x54:Int)))) (GL.nil (Yd h (fun u56 h=>?_) fun u56 h=>?_)))
 refine GC.skip (GC.seq (GC.block (Zo (Za (GL.nil (GC.block (Yp h (fun x57=>[(3,.int .i64 x57.1),(9,.int .i64 x57.2),(1,pv (some (b1,0))),(8,.int .i64 x51.2)]) ?_)))))))
 intro x57 H59 J58 h
 refine GC.seq (Zo (Zm (Zf (Yl h fun x60 h=>?_))))
 refine Zm (Yx h fun p62 h=>?_)
 refine Zf (Yl h fun x67 h=>?_)
 refine Zq (Zi (.bool (decide ((x57.2:Int) < (Sl.len x67:Int)))) (GL.nil (Yd h (fun u69 h=>?_) fun u69 h=>?_)))
 refine GC.skip (GC.seq (GC.block (GC.region (Zm (Zf (Yl h fun x70 h=>?_))))))
 refine Zm (Yx h fun p72 h=>?_)
 refine Zf (Yl h fun x77 h=>?_)
 refine Zm (Yx h fun p79 h=>?_)
 refine Zf ?_
 obtain ⟨x84,v85,h⟩:=h
 refine Zv (OV.loadT rfl rfl rfl v85) (Zc h Qfs ?_)
 rintro _ H87 ⟨r86,rfl,h⟩
 refine Zv (OV.maxI rfl rfl) (Za (GL.nil_to (fun _ _ h=>h) (GC.region (Zm (Zi (.int .i64 (w .i64 (x57.2+1))) (Za ?_))))))
 exact Yj I3 ((if r86 > x57.1 then r86 else x57.1:Int),(w .i64 (x57.2+1))) h
 refine GC.exit_to (fun _ _ h=>h) (GC.region (Zm (Zi (.int .i64 (w .i64 (x51.2+1))) (Za ?_))))
 exact Yj I3 (x57.1,(w .i64 (x51.2+1))) h
 refine GC.exit_to (fun _ _ h=>h) (GC.seq (Zo (Za (GL.nil (GC.block (Yp h (fun x88=>[(3,.int .i64 x88.1),(10,.int .i64 x88.2),(1,pv (some (b1,0)))]) ?_))))))
 intro x88 H90 J89 h
 refine GC.seq (Zo (Zm (Zf (Yl h fun x91 h=>?_))))
 refine Zq (Zi (.bool (decide ((x88.2:Int) < (Sl.len x91:Int)))) (GL.nil (Yd h (fun u93 h=>?_) fun u93 h=>?_)))
 refine GC.skip (GC.seq (GC.block (Zo (Zm (Zf (Yl h fun x94 h=>?_))))))
 refine Zm (Yx h fun p96 h=>?_)
 refine Zf (Yl h fun x101 h=>?_)
 refine Zc h Qig ?_
 rintro _ H104 ⟨r103,rfl,h⟩
 refine Zv (OV.maxI rfl rfl) (Za (GL.nil (Zo (Za (GL.nil (GC.block (Yp h (fun x105=>[(3,.int .i64 x105.1),(11,.int .i64 x105.2),(1,pv (some (b1,0))),(10,.int .i64 x88.2)]) ?_)))))))
 intro x105 H107 J106 h
 refine GC.seq (Zo (Zm (Zf (Yl h fun x108 h=>?_))))
 refine Zm (Yx h fun p110 h=>?_)
 refine Zf (Yl h fun x115 h=>?_)
 refine Zq (Zi (.bool (decide ((x105.2:Int) < (Sl.len x115:Int)))) (GL.nil (Yd h (fun u117 h=>?_) fun u117 h=>?_)))
 refine GC.skip (GC.seq (GC.block (GC.region (Zm (Zf (Yl h fun x118 h=>?_))))))
 refine Zm (Yx h fun p120 h=>?_)
 refine Zf (Yl h fun x125 h=>?_)
 refine Zm (Yx h fun p127 h=>?_)
 obtain ⟨x132,v133,h⟩:=h
 refine Zv (OV.loadT rfl rfl rfl v133) (Zc h QhK ?_)
 rintro _ H135 ⟨r134,rfl,h⟩
 refine Zv (OV.maxI rfl rfl) (Za (GL.nil_to (fun _ _ h=>h) (GC.region (Zm (Zi (.int .i64 (w .i64 (x105.2+1))) (Za ?_))))))
 exact Yj I3 ((if r134 > x105.1 then r134 else x105.1:Int),(w .i64 (x105.2+1))) h
 refine GC.exit_to (fun _ _ h=>h) (GC.region (Zm (Zi (.int .i64 (w .i64 (x88.2+1))) (Za ?_))))
 exact Yj I3 (x105.1,(w .i64 (x88.2+1))) h
 refine GC.exit_to (fun _ _ h=>h) (GC.seq (Zo (Za (GL.nil (GC.block (Yp h (fun x136=>[(3,.int .i64 x136.1),(12,.int .i64 x136.2),(1,pv (some (b1,0)))]) ?_))))))
 intro x136 H138 J137 h
 refine GC.seq (Zo (Zm (Zf (Yl h fun x139 h=>?_))))
 refine Zq (Zi (.bool (decide ((x136.2:Int) < (Sl.len x139:Int)))) (GL.nil (Yd h (fun u141 h=>?_) fun u141 h=>?_)))
 refine GC.skip (GC.seq (GC.block (GC.region (Zm (Zf (Yl h fun x142 h=>?_))))))
 refine Zm (Yx h fun p144 h=>?_)
 refine Zf (Yl h fun x149 h=>?_)
 refine Zc h Qig ?_
 rintro _ H152 ⟨r151,rfl,h⟩
 refine Zv (OV.maxI rfl rfl) (Za (GL.nil_to (fun _ _ h=>h) (GC.region (Zm (Zi (.int .i64 (w .i64 (x136.2+1))) (Za ?_))))))
 exact Yj I3 ((if r151 > x136.1 then r151 else x136.1:Int),(w .i64 (x136.2+1))) h
 refine GC.exit_to (fun _ _ h=>h) (Zo (Zm (Za (GL.nil ?_))))
 exact Y1 I3 ⟨x136.1,rfl,h⟩
def QmH (C:Ctx) (p_s:Str) (K:Bool→Heap→Prop) (H:Heap):Prop:=
 Qd1 C p_s (fun r1 H2=>
 jn (α:=Bool) (fun b3 H9=>
 K b3 H9)
 (fun J4=>ift r1
 (QbK C p_s (fun r7 H8=>
 J4 (!r7) H8) H2)
 (J4 false H2))) H
theorem Qqd (C p_s K H) (h:QmH C p_s K H):Qat C p_s K H:=by
 refine Ye Tryz.func63 rfl Tryz.ntmps63 [(0,sv p_s)] (Zo (Za (GL.nil (Zo (Zm (Zc h Qfr ?_))))))
 rintro _ H2 ⟨r1,rfl,h⟩
 refine Zm ?_
 obtain ⟨J4,h,hR5⟩:=h
 refine GL.cut (α:=Bool) 4 J4 (fun b3=>[(9,.bool b3)]) ?_ ?_
 rcases h.em with ⟨u6,h⟩ | ⟨u6,h⟩
 refine Zu u6 Ym (GL.call h (Yt u6) rfl Qna (vs:=[sv p_s]) rfl ?_)
 rintro _ H8 ⟨r7,rfl,h⟩
 refine Zu u6 (OV.not rfl) (Zt u6 ?_)
 exact Yj I3 (!r7) h
 refine Zk u6 (Zk u6 (Zk u6 (Zn u6 ?_)))
 exact Yj I3 false h
 intro b3 H9 h
 replace h:=hR5 b3 H9 h
 refine Za (GL.nil ?_)
 exact Y1 I3 ⟨b3,rfl,h⟩
def Qln (C:Ctx) (p_l:Sl) (K:Bool→Heap→Prop) (H:Heap):Prop:=
 lp (α:=Int) 0 H (fun x1 J2 H3=>
 ift (decide ((x1:Int) < (Sl.len p_l:Int)))
 (ixa p_l x1 fun p5=>
 ldT H3 Qf.c (p5.1,p5.2+(x1:Int).toNat*6) fun x10=>
 nw (Qf.c Qf.zero) (fun b12 H13=>
 stT (b12,0) (Qf.c x10) (fun H14=>
 ldS H14 ((b12,0).1,(b12,0).2+3) fun x15=>
 Qat C x15 (fun r17 H18=>
 jn (α:=Bool) (fun b19 H25=>
 jn (α:=Bool) (fun b26 H32=>
 jn (α:=Bool) (fun b33 H39=>
 ift b33
 (K false H39)
 (lp (α:=Int) 0 H39 (fun x41 J42 H43=>
 ldL H43 ((b12,0).1,(b12,0).2+4) fun x44=>
 ift (decide ((x41:Int) < (Sl.len x44:Int)))
 (ldL H43 ((b12,0).1,(b12,0).2+4) fun x47=>
 ixa x47 x41 fun p49=>
 ldS H43 (p49.1,p49.2+(x41:Int).toNat*1) fun x54=>
 Qgz C x54 (fun r56 H57=>
 ift (!r56)
 (K false H57)
 (J42 (w .i64 (x41+1)) H57)) H43)
 (lp (α:=Int) 0 H43 (fun x59 J60 H61=>
 ldL H61 ((b12,0).1,(b12,0).2+5) fun x62=>
 ift (decide ((x59:Int) < (Sl.len x62:Int)))
 (ldL H61 ((b12,0).1,(b12,0).2+5) fun x65=>
 ixa x65 x59 fun p67=>
 ldS H61 ((p67.1,p67.2+(x59:Int).toNat*2).1,(p67.1,p67.2+(x59:Int).toNat*2).2+0) fun x72=>
 Qat C x72 (fun r74 H75=>
 jn (α:=Bool) (fun b76 H91=>
 ift b76
 (K false H91)
 (J60 (w .i64 (x59+1)) H91))
 (fun J77=>ift (!r74)
 (J77 true H75)
 (ldL H75 ((b12,0).1,(b12,0).2+5) fun x80=>
 ixa x80 x59 fun p82=>
 ldL H75 ((p82.1,p82.2+(x59:Int).toNat*2).1,(p82.1,p82.2+(x59:Int).toNat*2).2+1) fun x87=>
 Qb0 C x87 false (fun r89 H90=>
 J77 (!r89) H90) H75))) H61)
 (J2 (w .i64 (x1+1)) H61))))))
 (fun J34=>ift b26
 (J34 true H32)
 (ldL H32 ((b12,0).1,(b12,0).2+5) fun x37=>
 J34 (decide (((Sl.len x37:Int):Int) > 16)) H32)))
 (fun J27=>ift b19
 (J27 true H25)
 (ldL H25 ((b12,0).1,(b12,0).2+5) fun x30=>
 J27 (decide (((Sl.len x30:Int):Int) < 1)) H25)))
 (fun J20=>ift (!r17)
 (J20 true H18)
 (ldL H18 ((b12,0).1,(b12,0).2+4) fun x23=>
 J20 (decide (((Sl.len x23:Int):Int) > 8)) H18))) H14) H13) H3)
 (K true H3))
theorem Qo7 (C p_l K H) (h:Qln C p_l K H):Qda C p_l K H:=by
 refine Ye Tryz.func64 rfl Tryz.ntmps64 [(0,slv p_l)] (Zo (Za (GL.nil (GC.seq (Zo (Za (GL.nil (GC.block (Yp h (fun x1=>[(3,.int .i64 x1),(0,slv p_l)]) ?_)))))))))
 intro x1 H3 J2 h
 refine GC.seq (Zo (Zm (Zm (Zq (Zi (.bool (decide ((x1:Int) < (Sl.len p_l:Int)))) (GL.nil (Yd h (fun u4 h=>?_) fun u4 h=>?_)))))))
 refine GC.skip (GC.seq (GC.block (Zo (Zm (Zm (Yx h fun p5 h=>?_))))))
 obtain ⟨x10,v11,h⟩:=h
 refine Zv (OV.loadT rfl rfl rfl v11) (GL.alloc (cs:=Qf.c Qf.zero) h trivial rfl rfl rfl ?_)
 intro b12 H13 h
 refine GL.storeT (p:=(b12,0)) (vs:=Qf.c x10) h trivial rfl rfl rfl rfl ?_
 intro H14 h
 refine GL.nil (GC.seq (Zo (Zf (Yl h fun x15 h=>?_))))
 refine Zc h QaB ?_
 rintro _ H18 ⟨r17,rfl,h⟩
 refine Zv (OV.not rfl) (Zm ?_)
 obtain ⟨J20,h,hR21⟩:=h
 refine GL.cut (α:=Bool) 5 J20 (fun b19=>[(26,.bool b19),(0,slv p_l),(3,.int .i64 x1),(4,pv (some (b12,0)))]) ?_ ?_
 rcases h.em with ⟨u22,h⟩ | ⟨u22,h⟩
 refine Zk u22 (Zk u22 (Zk u22 (Zk u22 (Zt u22 ?_))))
 exact Yj I3 true h
 refine Zu u22 Yf ?_
 obtain ⟨x23,v24,h⟩:=h
 refine Zu u22 (Yo v24) (Zu u22 (OV.lenSl rfl rfl) (Zu u22 (OV.ibin (v:=.bool (decide (((Sl.len x23:Int):Int) > 8))) rfl rfl rfl) (Zn u22 ?_)))
 exact Yj I3 (decide (((Sl.len x23:Int):Int) > 8)) h
 intro b19 H25 h
 replace h:=hR21 b19 H25 h
 refine Zm ?_
 obtain ⟨J27,h,hR28⟩:=h
 refine GL.cut (α:=Bool) 5 J27 (fun b26=>[(32,.bool b26),(0,slv p_l),(3,.int .i64 x1),(4,pv (some (b12,0)))]) ?_ ?_
 rcases h.em with ⟨u29,h⟩ | ⟨u29,h⟩
 refine Zk u29 (Zk u29 (Zk u29 (Zk u29 (Zt u29 ?_))))
 exact Yj I3 true h
 refine Zu u29 Yf ?_
 obtain ⟨x30,v31,h⟩:=h
 refine Zu u29 (Yo v31) (Zu u29 (OV.lenSl rfl rfl) (Zu u29 (OV.ibin (v:=.bool (decide (((Sl.len x30:Int):Int) < 1))) rfl rfl rfl) (Zn u29 ?_)))
 exact Yj I3 (decide (((Sl.len x30:Int):Int) < 1)) h
 intro b26 H32 h
 replace h:=hR28 b26 H32 h
 refine Zm ?_
 obtain ⟨J34,h,hR35⟩:=h
 refine GL.cut (α:=Bool) 5 J34 (fun b33=>[(38,.bool b33),(0,slv p_l),(3,.int .i64 x1),(4,pv (some (b12,0)))]) ?_ ?_
 rcases h.em with ⟨u36,h⟩ | ⟨u36,h⟩
 refine Zk u36 (Zk u36 (Zk u36 (Zk u36 (Zt u36 ?_))))
 exact Yj I3 true h
 refine Zu u36 Yf ?_
 obtain ⟨x37,v38,h⟩:=h
 refine Zu u36 (Yo v38) (Zu u36 (OV.lenSl rfl rfl) (Zu u36 (OV.ibin (v:=.bool (decide (((Sl.len x37:Int):Int) > 16))) rfl rfl rfl) (Zn u36 ?_)))
 exact Yj I3 (decide (((Sl.len x37:Int):Int) > 16)) h
 intro b33 H39 h
 replace h:=hR35 b33 H39 h
 refine GL.nil (Yd h (fun u40 h=>?_) fun u40 h=>?_)
 refine Zo (Za (GL.nil ?_))
 exact Y1 I3 ⟨false,rfl,h⟩
 refine GC.skip (GC.seq (Zo (Za (GL.nil (GC.block (Yp h (fun x41=>[(5,.int .i64 x41),(0,slv p_l),(3,.int .i64 x1),(4,pv (some (b12,0)))]) ?_))))))
 intro x41 H43 J42 h
 refine GC.seq (Zo (Zm (Zf (Yl h fun x44 h=>?_))))
 refine Zq (Zi (.bool (decide ((x41:Int) < (Sl.len x44:Int)))) (GL.nil (Yd h (fun u46 h=>?_) fun u46 h=>?_)))
 refine GC.skip (GC.seq (GC.block (Zo (Zf (Yl h fun x47 h=>?_)))))
 refine Zm (Yx h fun p49 h=>?_)
 refine Yl h fun x54 h=>?_
 refine Zc h Qk3 ?_
 rintro _ H57 ⟨r56,rfl,h⟩
 refine Zv (OV.not rfl) (GL.nil (Yd h (fun u58 h=>?_) fun u58 h=>?_))
 refine Zo (Za (GL.nil ?_))
 exact Y1 I3 ⟨false,rfl,h⟩
 refine GC.skip_to (fun _ _ h=>h) (GC.region (Zm (Zi (.int .i64 (w .i64 (x41+1))) (Za ?_))))
 exact Yj I3 (w .i64 (x41+1)) h
 refine GC.exit_to (fun _ _ h=>h) (Zo (Za (GL.nil (GC.block (Yp h (fun x59=>[(6,.int .i64 x59),(0,slv p_l),(3,.int .i64 x1),(4,pv (some (b12,0)))]) ?_)))))
 intro x59 H61 J60 h
 refine GC.seq (Zo (Zm (Zf (Yl h fun x62 h=>?_))))
 refine Zq (Zi (.bool (decide ((x59:Int) < (Sl.len x62:Int)))) (GL.nil (Yd h (fun u64 h=>?_) fun u64 h=>?_)))
 refine GC.skip (GC.seq (GC.block (Zo (Zf (Yl h fun x65 h=>?_)))))
 refine Zm (Yx h fun p67 h=>?_)
 refine Zf (Yl h fun x72 h=>?_)
 refine Zc h QaB ?_
 rintro _ H75 ⟨r74,rfl,h⟩
 refine Zv (OV.not rfl) (Zm ?_)
 obtain ⟨J77,h,hR78⟩:=h
 refine GL.cut (α:=Bool) 9 J77 (fun b76=>[(77,.bool b76),(0,slv p_l),(3,.int .i64 x1),(4,pv (some (b12,0))),(6,.int .i64 x59)]) ?_ ?_
 rcases h.em with ⟨u79,h⟩ | ⟨u79,h⟩
 refine Zk u79 (Zk u79 (Zk u79 (Zk u79 (Zk u79 (Zk u79 (Zk u79 (Zk u79 (Zt u79 ?_))))))))
 exact Yj I3 true h
 refine Zu u79 Yf ?_
 obtain ⟨x80,v81,h⟩:=h
 refine Zu u79 (Yo v81) (Zu u79 Ym ?_)
 obtain ⟨p82,ha83,hb84,u85,hd86,h⟩:=h
 refine Zu u79 (OV.indexAddr rfl rfl rfl rfl ha83 hb84 u85 hd86) (Zu u79 Yf ?_)
 obtain ⟨x87,v88,h⟩:=h
 refine Zu u79 (Yo v88) (GL.call h (Yt u79) rfl Qj7 (vs:=[slv x87,.bool false]) rfl ?_)
 rintro _ H90 ⟨r89,rfl,h⟩
 refine Zu u79 (OV.not rfl) (Zn u79 ?_)
 exact Yj I3 (!r89) h
 intro b76 H91 h
 replace h:=hR78 b76 H91 h
 refine GL.nil (Yd h (fun u92 h=>?_) fun u92 h=>?_)
 refine Zo (Za (GL.nil ?_))
 exact Y1 I3 ⟨false,rfl,h⟩
 refine GC.skip_to (fun _ _ h=>h) (GC.region (Zm (Zi (.int .i64 (w .i64 (x59+1))) (Za ?_))))
 exact Yj I3 (w .i64 (x59+1)) h
 refine GC.exit_to (fun _ _ h=>h) (GC.region (Zm (Zi (.int .i64 (w .i64 (x1+1))) (Za ?_))))
 exact Yj I3 (w .i64 (x1+1)) h
 refine GC.exit_to (fun _ _ h=>h) (Zo (Za (GL.nil ?_)))
 exact Y1 I3 ⟨true,rfl,h⟩
def Qlm (C:Ctx) (p_l:Sl) (K:Bool→Heap→Prop) (H:Heap):Prop:=
 lp (α:=Int) 0 H (fun x1 J2 H3=>
 ift (decide ((x1:Int) < (Sl.len p_l:Int)))
 (ixa p_l x1 fun p5=>
 ldT H3 Qk.c (p5.1,p5.2+(x1:Int).toNat*6) fun x10=>
 nw (Qk.c Qk.zero) (fun b12 H13=>
 stT (b12,0) (Qk.c x10) (fun H14=>
 ldS H14 ((b12,0).1,(b12,0).2+2) fun x15=>
 Qe1 C x15 (fun r17 H18=>
 jn (α:=Bool) (fun b19 H25=>
 jn (α:=Bool) (fun b26 H34=>
 jn (α:=Bool) (fun b35 H43=>
 ift b35
 (K false H43)
 (lp (α:=Int) 0 H43 (fun x45 J46 H47=>
 ldL H47 ((b12,0).1,(b12,0).2+3) fun x48=>
 ift (decide ((x45:Int) < (Sl.len x48:Int)))
 (ldL H47 ((b12,0).1,(b12,0).2+4) fun x51=>
 ixa x51 x45 fun p53=>
 ldS H47 (p53.1,p53.2+(x45:Int).toNat*1) fun x58=>
 ldL H47 ((b12,0).1,(b12,0).2+3) fun x60=>
 ixa x60 x45 fun p62=>
 ldT H47 Qa.c (p62.1,p62.2+(x45:Int).toNat*9) fun x67=>
 QbZ C x67 false (fun r69 H70=>
 ift ((!r69) || (((((!(x58 == ([]:Str))) && (!(x58 == ([99,111,117,110,116]:Str)))) && (!(x58 == ([115,117,109]:Str)))) && (!(x58 == ([109,105,110]:Str)))) && (!(x58 == ([109,97,120]:Str)))))
 (K false H70)
 (J46 (w .i64 (x45+1)) H70)) H47)
 (J2 (w .i64 (x1+1)) H47))))
 (fun J36=>ift b26
 (J36 true H34)
 (ldL H34 ((b12,0).1,(b12,0).2+5) fun x39=>
 QcW C x39 (fun r41 H42=>
 J36 (!r41) H42) H34)))
 (fun J27=>ift b19
 (J27 true H25)
 (ldL H25 ((b12,0).1,(b12,0).2+4) fun x30=>
 ldL H25 ((b12,0).1,(b12,0).2+3) fun x32=>
 J27 (((Sl.len x30:Int):Int) != (Sl.len x32:Int)) H25)))
 (fun J20=>ift (!r17)
 (J20 true H18)
 (ldL H18 ((b12,0).1,(b12,0).2+3) fun x23=>
 J20 (decide (((Sl.len x23:Int):Int) > 8)) H18))) H14) H13) H3)
 (K true H3))
theorem Qo6 (C p_l K H) (h:Qlm C p_l K H):Qc9 C p_l K H:=by
 refine Ye Tryz.func65 rfl Tryz.ntmps65 [(0,slv p_l)] (Zo (Za (GL.nil (GC.seq (Zo (Za (GL.nil (GC.block (Yp h (fun x1=>[(3,.int .i64 x1),(0,slv p_l)]) ?_)))))))))
 intro x1 H3 J2 h
 refine GC.seq (Zo (Zm (Zm (Zq (Zi (.bool (decide ((x1:Int) < (Sl.len p_l:Int)))) (GL.nil (Yd h (fun u4 h=>?_) fun u4 h=>?_)))))))
 refine GC.skip (GC.seq (GC.block (Zo (Zm (Zm (Yx h fun p5 h=>?_))))))
 obtain ⟨x10,v11,h⟩:=h
 refine Zv (OV.loadT rfl rfl rfl v11) (GL.alloc (cs:=Qk.c Qk.zero) h trivial rfl rfl rfl ?_)
 intro b12 H13 h
 refine GL.storeT (p:=(b12,0)) (vs:=Qk.c x10) h trivial rfl rfl rfl rfl ?_
 intro H14 h
 refine GL.nil (GC.seq (Zo (Zf (Yl h fun x15 h=>?_))))
 refine Zc h QgD ?_
 rintro _ H18 ⟨r17,rfl,h⟩
 refine Zv (OV.not rfl) (Zm ?_)
 obtain ⟨J20,h,hR21⟩:=h
 refine GL.cut (α:=Bool) 5 J20 (fun b19=>[(26,.bool b19),(0,slv p_l),(3,.int .i64 x1),(4,pv (some (b12,0)))]) ?_ ?_
 rcases h.em with ⟨u22,h⟩ | ⟨u22,h⟩
 refine Zk u22 (Zk u22 (Zk u22 (Zk u22 (Zt u22 ?_))))
 exact Yj I3 true h
 refine Zu u22 Yf ?_
 obtain ⟨x23,v24,h⟩:=h
 refine Zu u22 (Yo v24) (Zu u22 (OV.lenSl rfl rfl) (Zu u22 (OV.ibin (v:=.bool (decide (((Sl.len x23:Int):Int) > 8))) rfl rfl rfl) (Zn u22 ?_)))
 exact Yj I3 (decide (((Sl.len x23:Int):Int) > 8)) h
 intro b19 H25 h
 replace h:=hR21 b19 H25 h
 refine Zm ?_
 obtain ⟨J27,h,hR28⟩:=h
 refine GL.cut (α:=Bool) 8 J27 (fun b26=>[(35,.bool b26),(0,slv p_l),(3,.int .i64 x1),(4,pv (some (b12,0)))]) ?_ ?_
 rcases h.em with ⟨u29,h⟩ | ⟨u29,h⟩
 refine Zk u29 (Zk u29 (Zk u29 (Zk u29 (Zk u29 (Zk u29 (Zk u29 (Zt u29 ?_)))))))
 exact Yj I3 true h
 refine Zu u29 Yf ?_
 obtain ⟨x30,v31,h⟩:=h
 refine Zu u29 (Yo v31) (Zu u29 (OV.lenSl rfl rfl) (Zu u29 Yf ?_))
 obtain ⟨x32,v33,h⟩:=h
 refine Zu u29 (Yo v33) (Zu u29 (OV.lenSl rfl rfl) (Zu u29 (OV.ibin (v:=.bool (((Sl.len x30:Int):Int) != (Sl.len x32:Int))) rfl rfl rfl) (Zn u29 ?_)))
 exact Yj I3 (((Sl.len x30:Int):Int) != (Sl.len x32:Int)) h
 intro b26 H34 h
 replace h:=hR28 b26 H34 h
 refine Zm ?_
 obtain ⟨J36,h,hR37⟩:=h
 refine GL.cut (α:=Bool) 5 J36 (fun b35=>[(41,.bool b35),(0,slv p_l),(3,.int .i64 x1),(4,pv (some (b12,0)))]) ?_ ?_
 rcases h.em with ⟨u38,h⟩ | ⟨u38,h⟩
 refine Zk u38 (Zk u38 (Zk u38 (Zk u38 (Zt u38 ?_))))
 exact Yj I3 true h
 refine Zu u38 Yf ?_
 obtain ⟨x39,v40,h⟩:=h
 refine Zu u38 (Yo v40) (GL.call h (Yt u38) rfl Qmm (vs:=[slv x39]) rfl ?_)
 rintro _ H42 ⟨r41,rfl,h⟩
 refine Zu u38 (OV.not rfl) (Zn u38 ?_)
 exact Yj I3 (!r41) h
 intro b35 H43 h
 replace h:=hR37 b35 H43 h
 refine GL.nil (Yd h (fun u44 h=>?_) fun u44 h=>?_)
 refine Zo (Za (GL.nil ?_))
 exact Y1 I3 ⟨false,rfl,h⟩
 refine GC.skip (Zo (Za (GL.nil (GC.block (Yp h (fun x45=>[(5,.int .i64 x45),(0,slv p_l),(3,.int .i64 x1),(4,pv (some (b12,0)))]) ?_)))))
 intro x45 H47 J46 h
 refine GC.seq (Zo (Zm (Zf (Yl h fun x48 h=>?_))))
 refine Zq (Zi (.bool (decide ((x45:Int) < (Sl.len x48:Int)))) (GL.nil (Yd h (fun u50 h=>?_) fun u50 h=>?_)))
 refine GC.skip (GC.seq (GC.block (Zo (Zf (Yl h fun x51 h=>?_)))))
 refine Zm (Yx h fun p53 h=>?_)
 refine Yl h fun x58 h=>?_
 refine Za (GL.nil (Zo (Zf (Yl h fun x60 h=>?_))))
 refine Zm (Yx h fun p62 h=>?_)
 obtain ⟨x67,v68,h⟩:=h
 refine Zv (OV.loadT rfl rfl rfl v68) (Zc h QgC ?_)
 rintro _ H70 ⟨r69,rfl,h⟩
 refine Zv (OV.not rfl) (Zm (GL.cut0 19 [(80,.bool ((!r69) || (((((!(x58 == ([]:Str))) && (!(x58 == ([99,111,117,110,116]:Str)))) && (!(x58 == ([115,117,109]:Str)))) && (!(x58 == ([109,105,110]:Str)))) && (!(x58 == ([109,97,120]:Str)))))),(0,slv p_l),(3,.int .i64 x1),(4,pv (some (b12,0))),(5,.int .i64 x45)] ?_ ?_))
 rcases Zb (!r69) with u71 | u71
 refine Zk u71 (Zk u71 (Zk u71 (GL.skip ⟨_,rfl,.inr rfl⟩ rfl (GL.skip ⟨_,rfl,.inr rfl⟩ rfl (Zk u71 (Zk u71 (GL.skip ⟨_,rfl,.inr rfl⟩ rfl (GL.skip ⟨_,rfl,.inr rfl⟩ rfl (Zk u71 (Zk u71 (GL.skip ⟨_,rfl,.inr rfl⟩ rfl (GL.skip ⟨_,rfl,.inr rfl⟩ rfl (Zk u71 (Zk u71 (GL.skip ⟨_,rfl,.inr rfl⟩ rfl (GL.skip ⟨_,rfl,.inr rfl⟩ rfl (Zk u71 (Zt u71 ?_))))))))))))))))))
 exact GL.jump0 (fun _ _ h=>h) () rfl ⟨(by rw [u71]; rfl),rfl,rfl,rfl,rfl,trivial⟩
 refine Zu u71 Ym (Zu u71 (OV.sbin (a:=x58) (b:=([]:Str)) (v:=.bool (!(x58 == ([]:Str)))) rfl rfl rfl) (Zu u71 Ym (GL.cut0 3 [(67,.bool ((!(x58 == ([]:Str))) && (!(x58 == ([99,111,117,110,116]:Str))))),(0,slv p_l),(3,.int .i64 x1),(4,pv (some (b12,0))),(5,.int .i64 x45),(6,sv x58),(61,.bool (!r69))] ?_ ?_)))
 rcases Zb (!(x58 == ([]:Str))) with u72 | u72
 refine Zu u72 Ym (Zu u72 (OV.sbin (a:=x58) (b:=([99,111,117,110,116]:Str)) (v:=.bool (!(x58 == ([99,111,117,110,116]:Str)))) rfl rfl rfl) (Zu u71 (OV.pickT rfl u72 rfl) ?_))
 exact GL.jump0 (fun _ _ h=>h) () rfl ⟨(by rw [u72]; rfl),rfl,rfl,rfl,rfl,rfl,rfl,trivial⟩
 refine Zk u72 (Zk u72 (Zu u71 (OV.pickF rfl u72 rfl) ?_))
 exact GL.jump0 (fun _ _ h=>h) () rfl ⟨(by rw [u72]; rfl),rfl,rfl,rfl,rfl,rfl,rfl,trivial⟩
 refine Zu u71 Ym (GL.cut0 3 [(71,.bool (((!(x58 == ([]:Str))) && (!(x58 == ([99,111,117,110,116]:Str)))) && (!(x58 == ([115,117,109]:Str))))),(0,slv p_l),(3,.int .i64 x1),(4,pv (some (b12,0))),(5,.int .i64 x45),(6,sv x58),(61,.bool (!r69))] ?_ ?_)
 rcases Zb ((!(x58 == ([]:Str))) && (!(x58 == ([99,111,117,110,116]:Str)))) with u73 | u73
 refine Zu u73 Ym (Zu u73 (OV.sbin (a:=x58) (b:=([115,117,109]:Str)) (v:=.bool (!(x58 == ([115,117,109]:Str)))) rfl rfl rfl) (Zu u71 (OV.pickT rfl u73 rfl) ?_))
 exact GL.jump0 (fun _ _ h=>h) () rfl ⟨(by rw [u73]; rfl),rfl,rfl,rfl,rfl,rfl,rfl,trivial⟩
 refine Zk u73 (Zk u73 (Zu u71 (OV.pickF rfl u73 rfl) ?_))
 exact GL.jump0 (fun _ _ h=>h) () rfl ⟨(by rw [u73]; rfl),rfl,rfl,rfl,rfl,rfl,rfl,trivial⟩
 refine Zu u71 Ym (GL.cut0 3 [(75,.bool ((((!(x58 == ([]:Str))) && (!(x58 == ([99,111,117,110,116]:Str)))) && (!(x58 == ([115,117,109]:Str)))) && (!(x58 == ([109,105,110]:Str))))),(0,slv p_l),(3,.int .i64 x1),(4,pv (some (b12,0))),(5,.int .i64 x45),(6,sv x58),(61,.bool (!r69))] ?_ ?_)
 rcases Zb (((!(x58 == ([]:Str))) && (!(x58 == ([99,111,117,110,116]:Str)))) && (!(x58 == ([115,117,109]:Str)))) with u74 | u74
 refine Zu u74 Ym (Zu u74 (OV.sbin (a:=x58) (b:=([109,105,110]:Str)) (v:=.bool (!(x58 == ([109,105,110]:Str)))) rfl rfl rfl) (Zu u71 (OV.pickT rfl u74 rfl) ?_))
 exact GL.jump0 (fun _ _ h=>h) () rfl ⟨(by rw [u74]; rfl),rfl,rfl,rfl,rfl,rfl,rfl,trivial⟩
 refine Zk u74 (Zk u74 (Zu u71 (OV.pickF rfl u74 rfl) ?_))
 exact GL.jump0 (fun _ _ h=>h) () rfl ⟨(by rw [u74]; rfl),rfl,rfl,rfl,rfl,rfl,rfl,trivial⟩
 refine Zu u71 Ym (GL.cut0 3 [(79,.bool (((((!(x58 == ([]:Str))) && (!(x58 == ([99,111,117,110,116]:Str)))) && (!(x58 == ([115,117,109]:Str)))) && (!(x58 == ([109,105,110]:Str)))) && (!(x58 == ([109,97,120]:Str))))),(0,slv p_l),(3,.int .i64 x1),(4,pv (some (b12,0))),(5,.int .i64 x45),(61,.bool (!r69))] ?_ ?_)
 rcases Zb ((((!(x58 == ([]:Str))) && (!(x58 == ([99,111,117,110,116]:Str)))) && (!(x58 == ([115,117,109]:Str)))) && (!(x58 == ([109,105,110]:Str)))) with u75 | u75
 refine Zu u75 Ym (Zu u75 (OV.sbin (a:=x58) (b:=([109,97,120]:Str)) (v:=.bool (!(x58 == ([109,97,120]:Str)))) rfl rfl rfl) (Zu u71 (OV.pickT rfl u75 rfl) ?_))
 exact GL.jump0 (fun _ _ h=>h) () rfl ⟨(by rw [u75]; rfl),rfl,rfl,rfl,rfl,rfl,trivial⟩
 refine Zk u75 (Zk u75 (Zu u71 (OV.pickF rfl u75 rfl) ?_))
 exact GL.jump0 (fun _ _ h=>h) () rfl ⟨(by rw [u75]; rfl),rfl,rfl,rfl,rfl,rfl,trivial⟩
 refine Zn u71 ?_
 exact GL.jump0 (fun _ _ h=>h) () rfl ⟨(by rw [u71]; rfl),rfl,rfl,rfl,rfl,trivial⟩
 refine GL.nil (Yd h (fun u76 h=>?_) fun u76 h=>?_)
 refine Zo (Za (GL.nil ?_))
 exact Y1 I3 ⟨false,rfl,h⟩
 refine GC.skip_to (fun _ _ h=>h) (GC.region (Zm (Zi (.int .i64 (w .i64 (x45+1))) (Za ?_))))
 exact Yj I3 (w .i64 (x45+1)) h
 refine GC.exit_to (fun _ _ h=>h) (GC.region (Zm (Zi (.int .i64 (w .i64 (x1+1))) (Za ?_))))
 exact Yj I3 (w .i64 (x1+1)) h
 refine GC.exit_to (fun _ _ h=>h) (Zo (Za (GL.nil ?_)))
 exact Y1 I3 ⟨true,rfl,h⟩
def Qkl (C:Ctx) (p_l:Sl) (p_named:Bool) (K:Bool→Heap→Prop) (H:Heap):Prop:=
 lp (α:=Int) 0 H (fun x1 J2 H3=>
 ift (decide ((x1:Int) < (Sl.len p_l:Int)))
 (ixa p_l x1 fun p5=>
 ldS H3 ((p5.1,p5.2+(x1:Int).toNat*3).1,(p5.1,p5.2+(x1:Int).toNat*3).2+0) fun x10=>
 Qat C x10 (fun r12 H13=>
 jn (α:=Bool) (fun b14 H30=>
 jn (α:=Bool) (fun b31 H44=>
 ift b31
 (K false H44)
 (J2 (w .i64 (x1+1)) H44))
 (fun J32=>ift b14
 (J32 true H30)
 (ixa p_l x1 fun p35=>
 ldT H30 Qe.c ((p35.1,p35.2+(x1:Int).toNat*3).1,(p35.1,p35.2+(x1:Int).toNat*3).2+1) fun x40=>
 QcX C x40 (fun r42 H43=>
 J32 (!r42) H43) H30)))
 (fun J15=>ift (!r12)
 (jn (α:=Bool) (fun b18 H29=>
 J15 b18 H29)
 (fun J19=>ift p_named
 (J19 true H13)
 (ixa p_l x1 fun p22=>
 ldS H13 ((p22.1,p22.2+(x1:Int).toNat*3).1,(p22.1,p22.2+(x1:Int).toNat*3).2+0) fun x27=>
 J19 (!(x27 == ([]:Str))) H13)))
 (J15 false H13))) H3)
 (K (decide (((Sl.len p_l:Int):Int)≤8)) H3))
theorem Qn4 (C p_l p_named K H) (h:Qkl C p_l p_named K H):Qb0 C p_l p_named K H:=by
 refine Ye Tryz.func66 rfl Tryz.ntmps66 [(0,slv p_l),(1,.bool p_named)] (Zo (Za (GL.nil (GC.seq (Zo (Za (GL.nil (GC.block (Yp h (fun x1=>[(5,.int .i64 x1),(0,slv p_l),(1,.bool p_named)]) ?_)))))))))
 intro x1 H3 J2 h
 refine GC.seq (Zo (Zm (Zm (Zq (Zi (.bool (decide ((x1:Int) < (Sl.len p_l:Int)))) (GL.nil (Yd h (fun u4 h=>?_) fun u4 h=>?_)))))))
 refine GC.skip (GC.seq (GC.block (Zo (Zm (Zm (Yx h fun p5 h=>?_))))))
 refine Zf (Yl h fun x10 h=>?_)
 refine Zc h QaB ?_
 rintro _ H13 ⟨r12,rfl,h⟩
 refine Zv (OV.not rfl) (Zm ?_)
 obtain ⟨J15,h,hR16⟩:=h
 refine GL.cut (α:=Bool) 10 J15 (fun b14=>[(29,.bool b14),(0,slv p_l),(1,.bool p_named),(5,.int .i64 x1)]) ?_ ?_
 rcases h.em with ⟨u17,h⟩ | ⟨u17,h⟩
 refine Zu u17 Ym (Zu u17 Ym ?_)
 obtain ⟨J19,h,hR20⟩:=h
 refine GL.cut (α:=Bool) 7 J19 (fun b18=>[(28,.bool b18),(0,slv p_l),(1,.bool p_named),(5,.int .i64 x1),(19,.bool (!r12))]) ?_ ?_
 rcases h.em with ⟨u21,h⟩ | ⟨u21,h⟩
 refine Zk u21 (Zk u21 (Zk u21 (Zk u21 (Zk u21 (Zk u21 (Zu u17 (OV.pickT rfl u21 rfl) ?_))))))
 exact Yj I3 true h
 refine Zu u21 Ym (Zu u21 Ym ?_)
 obtain ⟨p22,ha23,hb24,u25,hd26,h⟩:=h
 refine Zu u21 (OV.indexAddr rfl rfl rfl rfl ha23 hb24 u25 hd26) (Zu u21 Yf ?_)
 obtain ⟨x27,v28,h⟩:=h
 refine Zu u21 (Yo v28) (Zu u21 (OV.sbin (a:=x27) (b:=([]:Str)) (v:=.bool (!(x27 == ([]:Str)))) rfl rfl rfl) (Zu u17 (OV.pickF rfl u21 rfl) ?_))
 exact Yj I3 (!(x27 == ([]:Str))) h
 intro b18 H29 h
 replace h:=hR20 b18 H29 h
 refine Zt u17 ?_
 exact Yj I3 b18 h
 refine Zk u17 (Zk u17 (GL.skip ⟨_,rfl,.inr rfl⟩ rfl (GL.skip ⟨_,rfl,.inr rfl⟩ rfl (GL.skip ⟨_,rfl,.inr rfl⟩ rfl (GL.skip ⟨_,rfl,.inr rfl⟩ rfl (GL.skip ⟨_,rfl,.inr rfl⟩ rfl (GL.skip ⟨_,rfl,.inr rfl⟩ rfl (Zk u17 (Zn u17 ?_)))))))))
 exact Yj I3 false h
 intro b14 H30 h
 replace h:=hR16 b14 H30 h
 refine Zm ?_
 obtain ⟨J32,h,hR33⟩:=h
 refine GL.cut (α:=Bool) 8 J32 (fun b31=>[(38,.bool b31),(0,slv p_l),(1,.bool p_named),(5,.int .i64 x1)]) ?_ ?_
 rcases h.em with ⟨u34,h⟩ | ⟨u34,h⟩
 refine Zk u34 (Zk u34 (Zk u34 (Zk u34 (Zk u34 (Zk u34 (Zk u34 (Zt u34 ?_)))))))
 exact Yj I3 true h
 refine Zu u34 Ym (Zu u34 Ym ?_)
 obtain ⟨p35,ha36,hb37,u38,hd39,h⟩:=h
 refine Zu u34 (OV.indexAddr rfl rfl rfl rfl ha36 hb37 u38 hd39) (Zu u34 Yf ?_)
 obtain ⟨x40,v41,h⟩:=h
 refine Zu u34 (OV.loadT rfl rfl rfl v41) (GL.call h (Yt u34) rfl Qmn (vs:=[.agg (Qe.c x40).toArray]) rfl ?_)
 rintro _ H43 ⟨r42,rfl,h⟩
 refine Zu u34 (OV.not rfl) (Zn u34 ?_)
 exact Yj I3 (!r42) h
 intro b31 H44 h
 replace h:=hR33 b31 H44 h
 refine GL.nil (Yd h (fun u45 h=>?_) fun u45 h=>?_)
 refine Zo (Za (GL.nil ?_))
 exact Y1 I3 ⟨false,rfl,h⟩
 refine GC.skip_to (fun _ _ h=>h) (GC.region (Zm (Zi (.int .i64 (w .i64 (x1+1))) (Za ?_))))
 exact Yj I3 (w .i64 (x1+1)) h
 refine GC.exit_to (fun _ _ h=>h) (Zo (Zm (Zq (Zi (.bool (decide (((Sl.len p_l:Int):Int)≤8))) (Za (GL.nil ?_))))))
 exact Y1 I3 ⟨(decide (((Sl.len p_l:Int):Int)≤8)),rfl,h⟩
def QmD (C:Ctx) (p_l:Sl) (K:Bool→Heap→Prop) (H:Heap):Prop:=
 lp (α:=Int) 0 H (fun x1 J2 H3=>
 ift (decide ((x1:Int) < (Sl.len p_l:Int)))
 (ixa p_l x1 fun p5=>
 ldT H3 Qc.c (p5.1,p5.2+(x1:Int).toNat*5) fun x10=>
 nw (Qc.c Qc.zero) (fun b12 H13=>
 stT (b12,0) (Qc.c x10) (fun H14=>
 jn (α:=Bool) (fun x16 H17=>
 lp (α:=Bool×Int) (x16,0) H17 (fun x60 J61 H62=>
 ldL H62 ((b12,0).1,(b12,0).2+4) fun x63=>
 ift ((decide ((x60.2:Int) < (Sl.len x63:Int))) && x60.1)
 (jn (α:=Bool) (fun x68 H69=>
 J61 (x68,(w .i64 (x60.2+1))) H69)
 (fun J67=>dr H62 fun Hs71=>
 ldL Hs71 ((b12,0).1,(b12,0).2+4) fun x73=>
 ixa x73 x60.2 fun p75=>
 ldT Hs71 Qa.c (p75.1,p75.2+(x60.2:Int).toNat*9) fun x80=>
 ldI Hs71 .u8 ((b12,0).1,(b12,0).2+0) fun x82=>
 ift ((x82:Int) == 1)
 (QbZ C x80 true (fun r86 H87=>
 Heap.le Hs71 H87∧
 J67 r86 H87) H62)
 (ldI Hs71 .u8 ((b12,0).1,(b12,0).2+0) fun x88=>
 QbZ C x80 ((x88:Int) == 2) (fun r91 H92=>
 Heap.le Hs71 H92∧
 J67 r91 H92) H62)))
 (ift (!x60.1)
 (K false H62)
 (J2 (w .i64 (x1+1)) H62))))
 (fun J15=>ldI H14 .u8 ((b12,0).1,(b12,0).2+0) fun x19=>
 jn (α:=Bool) (fun x22 H23=>
 ift x22
 (ldS H23 ((b12,0).1,(b12,0).2+3) fun x27=>
 Qe1 C x27 (fun r29 H30=>
 jn (α:=Bool) (fun b31 H37=>
 J15 b31 H37)
 (fun J32=>ift r29
 (ldL H30 ((b12,0).1,(b12,0).2+4) fun x35=>
 J32 (decide (((Sl.len x35:Int):Int)≤8)) H30)
 (J32 false H30))) H23)
 (ift ((x19:Int) == 3)
 (ldS H23 ((b12,0).1,(b12,0).2+3) fun x39=>
 jn (α:=Bool) (fun b41 H47=>
 J15 b41 H47)
 (fun J42=>ift (x39 == ([]:Str))
 (ldL H23 ((b12,0).1,(b12,0).2+4) fun x45=>
 J42 (((Sl.len x45:Int):Int) == 1) H23)
 (J42 false H23)))
 (ift ((x19:Int) == 4)
 (ldS H23 ((b12,0).1,(b12,0).2+3) fun x49=>
 QeU C x49 (fun r51 H52=>
 jn (α:=Bool) (fun b53 H59=>
 J15 b53 H59)
 (fun J54=>ift r51
 (ldL H52 ((b12,0).1,(b12,0).2+4) fun x57=>
 J54 (((Sl.len x57:Int):Int) == 1) H52)
 (J54 false H52))) H23)
 (J15 false H23))))
 (fun J21=>ift ((x19:Int) == 1)
 (J21 ((x19:Int) == 1) H14)
 (J21 ((x19:Int) == 2) H14)))) H13) H3)
 (K true H3))
theorem Qp9 (C p_l K H) (h:QmD C p_l K H):QcW C p_l K H:=by
 refine Ye Tryz.func67 rfl Tryz.ntmps67 [(0,slv p_l)] (Zo (Za (GL.nil (GC.seq (Zo (Za (GL.nil (GC.block (Yp h (fun x1=>[(3,.int .i64 x1),(0,slv p_l)]) ?_)))))))))
 intro x1 H3 J2 h
 refine GC.seq (Zo (Zm (Zm (Zq (Zi (.bool (decide ((x1:Int) < (Sl.len p_l:Int)))) (GL.nil (Yd h (fun hc4 h=>?_) fun hc4 h=>?_)))))))
 refine GC.skip (GC.seq (GC.block (Zo (Zm (Zm (Yx h fun p5 h=>?_))))))
 obtain ⟨x10,v11,h⟩:=h
 refine Zv (OV.loadT rfl rfl rfl v11) (GL.alloc (cs:=Qc.c Qc.zero) h trivial rfl rfl rfl ?_)
 intro b12 H13 h
 refine GL.storeT (p:=(b12,0)) (vs:=Qc.c x10) h trivial rfl rfl rfl rfl ?_
 intro H14 h
 refine GL.nil (Zo (Za (GL.nil ?_)))
 obtain ⟨J15,h,hR18⟩:=h
 refine GC.join (α:=Bool) J15 (fun x16=>[(5,.bool x16),(0,slv p_l),(3,.int .i64 x1),(4,pv (some (b12,0)))]) ?_ ?_
 refine Zo (Zf (Yl h fun x19 h=>?_))
 refine GL.nil (GC.block ?_)
 obtain ⟨J21,h,hR24⟩:=h
 refine GC.join (α:=Bool) J21 (fun x22=>[(19,.bool x22),(0,slv p_l),(3,.int .i64 x1),(4,pv (some (b12,0))),(5,.bool false),(18,.int .u8 x19)]) ?_ ?_
 refine Zo (Zi (.bool ((x19:Int) == 1)) (Za (GL.nil (Yd h (fun hc25 h=>?_) fun hc25 h=>?_))))
 exact Yk I3 ((x19:Int) == 1) h
 refine GC.region (Zi (.bool ((x19:Int) == 2)) (Za ?_))
 exact Yj I3 ((x19:Int) == 2) h
 intro x22 H23 h
 replace h:=hR24 x22 H23 h
 refine Yd h (fun hc26 h=>?_) fun hc26 h=>?_
 refine GC.region (Zf (Yl h fun x27 h=>?_))
 refine Zc h QgD ?_
 rintro _ H30 ⟨r29,rfl,h⟩
 refine Zm ?_
 obtain ⟨J32,h,hR33⟩:=h
 refine GL.cut (α:=Bool) 5 J32 (fun b31=>[(30,.bool b31),(0,slv p_l),(3,.int .i64 x1),(4,pv (some (b12,0)))]) ?_ ?_
 rcases h.em with ⟨hc34,h⟩ | ⟨hc34,h⟩
 refine Zu hc34 Yf ?_
 obtain ⟨x35,v36,h⟩:=h
 refine Zu hc34 (Yo v36) (Zu hc34 (OV.lenSl rfl rfl) (Zu hc34 (OV.ibin (v:=.bool (decide (((Sl.len x35:Int):Int)≤8))) rfl rfl rfl) (Zt hc34 ?_)))
 exact Yj I3 (decide (((Sl.len x35:Int):Int)≤8)) h
 refine Zk hc34 (Zk hc34 (Zk hc34 (Zk hc34 (Zn hc34 ?_))))
 exact Yj I3 false h
 intro b31 H37 h
 replace h:=hR33 b31 H37 h
 refine Za ?_
 exact Yj I3 b31 h
 refine Zo (Zi (.bool ((x19:Int) == 3)) (Za (GL.nil (Yd h (fun hc38 h=>?_) fun hc38 h=>?_))))
 refine GC.region (Zf (Yl h fun x39 h=>?_))
 refine Zv (OV.sbin (a:=x39) (b:=([]:Str)) (v:=.bool (x39 == ([]:Str))) rfl rfl rfl) (Zm ?_)
 obtain ⟨J42,h,hR43⟩:=h
 refine GL.cut (α:=Bool) 5 J42 (fun b41=>[(41,.bool b41),(0,slv p_l),(3,.int .i64 x1),(4,pv (some (b12,0)))]) ?_ ?_
 rcases h.em with ⟨hc44,h⟩ | ⟨hc44,h⟩
 refine Zu hc44 Yf ?_
 obtain ⟨x45,v46,h⟩:=h
 refine Zu hc44 (Yo v46) (Zu hc44 (OV.lenSl rfl rfl) (Zu hc44 (OV.ibin (v:=.bool (((Sl.len x45:Int):Int) == 1)) rfl rfl rfl) (Zt hc44 ?_)))
 exact Yj I3 (((Sl.len x45:Int):Int) == 1) h
 refine Zk hc44 (Zk hc44 (Zk hc44 (Zk hc44 (Zn hc44 ?_))))
 exact Yj I3 false h
 intro b41 H47 h
 replace h:=hR43 b41 H47 h
 refine Za ?_
 exact Yj I3 b41 h
 refine Zo (Zi (.bool ((x19:Int) == 4)) (Za (GL.nil (Yd h (fun hc48 h=>?_) fun hc48 h=>?_))))
 refine GC.region (Zf (Yl h fun x49 h=>?_))
 refine Zc h Qif ?_
 rintro _ H52 ⟨r51,rfl,h⟩
 refine Zm ?_
 obtain ⟨J54,h,hR55⟩:=h
 refine GL.cut (α:=Bool) 5 J54 (fun b53=>[(52,.bool b53),(0,slv p_l),(3,.int .i64 x1),(4,pv (some (b12,0)))]) ?_ ?_
 rcases h.em with ⟨hc56,h⟩ | ⟨hc56,h⟩
 refine Zu hc56 Yf ?_
 obtain ⟨x57,v58,h⟩:=h
 refine Zu hc56 (Yo v58) (Zu hc56 (OV.lenSl rfl rfl) (Zu hc56 (OV.ibin (v:=.bool (((Sl.len x57:Int):Int) == 1)) rfl rfl rfl) (Zt hc56 ?_)))
 exact Yj I3 (((Sl.len x57:Int):Int) == 1) h
 refine Zk hc56 (Zk hc56 (Zk hc56 (Zk hc56 (Zn hc56 ?_))))
 exact Yj I3 false h
 intro b53 H59 h
 replace h:=hR55 b53 H59 h
 refine Za ?_
 exact Yj I3 b53 h
 exact Yk I3 false h
 intro x16 H17 h
 replace h:=hR18 x16 H17 h
 refine GC.seq (Zo (Za (GL.nil (GC.block (Yp h (fun x60=>[(5,.bool x60.1),(6,.int .i64 x60.2),(0,slv p_l),(3,.int .i64 x1),(4,pv (some (b12,0)))]) ?_)))))
 intro x60 H62 J61 h
 refine GC.seq (Zo (Zm (Zf (Yl h fun x63 h=>?_))))
 refine Zq (Zi (.bool (decide ((x60.2:Int) < (Sl.len x63:Int)))) (Zm (GL.cut0 2 [(60,.bool ((decide ((x60.2:Int) < (Sl.len x63:Int))) && x60.1)),(0,slv p_l),(3,.int .i64 x1),(4,pv (some (b12,0))),(5,.bool x60.1),(6,.int .i64 x60.2)] ?_ ?_)))
 rcases Zb (decide ((x60.2:Int) < (Sl.len x63:Int))) with hc65 | hc65
 refine Zu hc65 Ym (Zt hc65 ?_)
 exact GL.jump0 (fun _ _ h=>h) () rfl ⟨(by rw [hc65]; rfl),rfl,rfl,rfl,rfl,rfl,trivial⟩
 refine Zk hc65 (Zn hc65 ?_)
 exact GL.jump0 (fun _ _ h=>h) () rfl ⟨(by rw [hc65]; rfl),rfl,rfl,rfl,rfl,rfl,trivial⟩
 refine GL.nil (Yd h (fun hc66 h=>?_) fun hc66 h=>?_)
 refine GC.skip (GC.seq (GC.block ?_))
 obtain ⟨J67,h,hR70⟩:=h
 refine GC.meet (α:=Bool) J67 (fun x68=>[(5,.bool x68),(0,slv p_l),(3,.int .i64 x1),(4,pv (some (b12,0))),(6,.int .i64 x60.2)]) ?_ ?_
 obtain ⟨Hs71,hle72,h⟩:=h
 refine GC.any (Hs:=Hs71) (by kernel_rfl) hle72 (Zp 0 rfl Yf ?_)
 obtain ⟨x73,v74,h⟩:=h
 refine Zp 1 rfl (Yo v74) (Zp 2 rfl Ym ?_)
 obtain ⟨p75,ha76,hb77,hc78,hd79,h⟩:=h
 refine Zp 3 rfl (OV.indexAddr rfl rfl rfl rfl ha76 hb77 hc78 hd79) ?_
 obtain ⟨x80,v81,h⟩:=h
 refine Zp 4 rfl (OV.loadT rfl rfl rfl v81) (Zp 5 rfl Yf ?_)
 obtain ⟨x82,v83,h⟩:=h
 refine Zp 6 rfl (Yo v83) (Zp 7 rfl (OV.ibin (v:=.bool ((x82:Int) == 1)) rfl rfl rfl) (Zp 8 rfl Ym ?_))
 rcases h.em with ⟨hc84,h⟩ | ⟨hc84,h⟩
 refine Zj 9 rfl (Yw hc84) (Zj 10 rfl (Yw hc84) (Zj 11 rfl (Yw hc84) (Zp 12 rfl (OV.pickT rfl hc84 rfl) (GA.eff 13 rfl (by kernel_rfl) (Zc h QgC ?_)))))
 rintro _ H87 ⟨r86,rfl,h⟩
 obtain ⟨hle85,h⟩:=h
 refine GA.back hle85 (Zp 14 rfl Ya (GA.done (by kernel_rfl) ?_))
 exact Yj I3 r86 h
 refine Zg 9 rfl (Yt hc84) Yf ?_
 obtain ⟨x88,v89,h⟩:=h
 refine Zg 10 rfl (Yt hc84) (Yo v89) (Zg 11 rfl (Yt hc84) (OV.ibin (v:=.bool ((x88:Int) == 2)) rfl rfl rfl) (Zp 12 rfl (OV.pickF rfl hc84 rfl) (GA.eff 13 rfl (by kernel_rfl) (Zc h QgC ?_))))
 rintro _ H92 ⟨r91,rfl,h⟩
 obtain ⟨hle90,h⟩:=h
 refine GA.back hle90 (Zp 14 rfl Ya (GA.done (by kernel_rfl) ?_))
 exact Yj I3 r91 h
 intro x68 H69 h
 replace h:=hR70 x68 H69 h
 refine GL.nil_to (fun _ _ h=>h) (GC.region (Zm (Zi (.int .i64 (w .i64 (x60.2+1))) (Za ?_))))
 exact Yj I3 (x68,(w .i64 (x60.2+1))) h
 refine GC.exit_to (fun _ _ h=>h) (Zo (Zm (Zv (OV.not rfl) (GL.nil ?_))))
 refine Yd h (fun hc93 h=>?_) fun hc93 h=>?_
 refine Zo (Za (GL.nil ?_))
 exact Y1 I3 ⟨false,rfl,h⟩
 refine GC.skip_to (fun _ _ h=>h) (GC.region (Zm (Zi (.int .i64 (w .i64 (x1+1))) (Za ?_))))
 exact Yj I3 (w .i64 (x1+1)) h
 refine GC.exit_to (fun _ _ h=>h) (Zo (Za (GL.nil ?_)))
 exact Y1 I3 ⟨true,rfl,h⟩
def QY (C:Ctx) (p_s1:Sl) (p_s2:Sl) (p_eq:Value) (K:Bool→Heap→Prop) (H:Heap):Prop:=
 ift (((Sl.len p_s1:Int):Int) != (Sl.len p_s2:Int))
 (K false H)
 (lp (α:=Int) 0 H (fun x2 J3 H4=>
 ift (decide ((x2:Int) < (Sl.len p_s1:Int)))
 (ixa p_s1 x2 fun p6=>
 ldT H4 Qn.c (p6.1,p6.2+(x2:Int).toNat*3) fun x11=>
 nw (Qn.c Qn.zero) (fun b13 H14=>
 stT (b13,0) (Qn.c x11) (fun H15=>
 ixa p_s2 x2 fun p16=>
 ldT H15 Qn.c (p16.1,p16.2+(x2:Int).toNat*3) fun x21=>
 nw (Qn.c Qn.zero) (fun b23 H24=>
 stT (b23,0) (Qn.c x21) (fun H25=>
 ldT H25 Qn.c (b13,0) fun x26=>
 ldT H25 Qn.c (b23,0) fun x28=>
 callU Tryz.prog C p_eq [.agg (Qn.c x26).toArray,.agg (Qn.c x28).toArray] H25 (fun v H31=>∃ (r30:Bool),v=.bool r30∧
 ift (!r30)
 (K false H31)
 (J3 (w .i64 (x2+1)) H31))) H24) H15) H14) H4)
 (K true H4)))
theorem QaU (C p_s1 p_s2 p_eq K H) (h:QY C p_s1 p_s2 p_eq K H):Qw C p_s1 p_s2 p_eq K H:=by
 refine Ye Tryz.func68 rfl Tryz.ntmps68 [(0,slv p_s1),(1,slv p_s2),(2,p_eq)] (Zo (Za (GL.nil (GC.seq (Zo (Zm (Zq (Zm (Zq (Zi (.bool (((Sl.len p_s1:Int):Int) != (Sl.len p_s2:Int))) (GL.nil (Yd h (fun u1 h=>?_) fun u1 h=>?_))))))))))))
 refine Zo (Za (GL.nil ?_))
 exact Y1 I3 ⟨false,rfl,h⟩
 refine GC.skip (GC.seq (Zo (Zm (Zq (Zm (GL.nil (GC.block (Yp h (fun x2=>[(17,.int .i64 x2),(1,slv p_s2),(2,p_eq),(15,slv p_s1),(16,.int .i64 (Sl.len p_s1:Int))]) ?_))))))))
 intro x2 H4 J3 h
 refine Zo (Zi (.bool (decide ((x2:Int) < (Sl.len p_s1:Int)))) (GL.nil (GC.seq (Yd h (fun u5 h=>?_) fun u5 h=>?_))))
 refine GC.skip (GC.seq (GC.block (Zo (Zm (Yx h fun p6 h=>?_)))))
 obtain ⟨x11,v12,h⟩:=h
 refine Zv (OV.loadT rfl rfl rfl v12) (GL.alloc (cs:=Qn.c Qn.zero) h trivial rfl rfl rfl ?_)
 intro b13 H14 h
 refine Za (GL.storeT (p:=(b13,0)) (vs:=Qn.c x11) h trivial rfl rfl rfl rfl ?_)
 intro H15 h
 refine GL.nil (Zo (Zm (Zm (Yx h fun p16 h=>?_))))
 obtain ⟨x21,v22,h⟩:=h
 refine Zv (OV.loadT rfl rfl rfl v22) (GL.alloc (cs:=Qn.c Qn.zero) h trivial rfl rfl rfl ?_)
 intro b23 H24 h
 refine GL.storeT (p:=(b23,0)) (vs:=Qn.c x21) h trivial rfl rfl rfl rfl ?_
 intro H25 h
 refine GL.nil (Zo (Zm ?_))
 obtain ⟨x26,v27,h⟩:=h
 refine Zv (OV.loadT rfl rfl rfl v27) ?_
 obtain ⟨x28,v29,h⟩:=h
 refine Zv (OV.loadT rfl rfl rfl v29) (GL.callU (xv:=p_eq) (vs:=[.agg (Qn.c x26).toArray,.agg (Qn.c x28).toArray]) h trivial rfl rfl rfl ?_)
 rintro _ H31 ⟨r30,rfl,h⟩
 refine Zv (OV.not rfl) (GL.nil (Yd h (fun u32 h=>?_) fun u32 h=>?_))
 refine Zo (Za (GL.nil ?_))
 exact Y1 I3 ⟨false,rfl,h⟩
 refine GC.skip_to (fun _ _ h=>h) (GC.region (Zi (.int .i64 (w .i64 (x2+1))) (Zm ?_)))
 exact Yj I3 (w .i64 (x2+1)) h
 refine GC.exit_to (fun _ _ h=>h) (Zo (Za (GL.nil ?_)))
 exact Y1 I3 ⟨true,rfl,h⟩
def Qlp (C:Ctx) (p_x:Qn) (p_y:Qn) (K:Bool→Heap→Prop) (H:Heap):Prop:=
 nw (Qn.c p_x) (fun b1 H2=>
 nw (Qn.c p_y) (fun b3 H4=>
 ldS H4 ((b1,0).1,(b1,0).2+2) fun x5=>
 ldS H4 ((b3,0).1,(b3,0).2+2) fun x7=>
 K (x5 == x7) H4) H2) H
theorem Qo9 (C p_x p_y K H) (h:Qlp C p_x p_y K H):Qeg C p_x p_y K H:=by
 refine Ye Tryz.func69 rfl Tryz.ntmps69 [(0,.agg (Qn.c p_x).toArray),(1,.agg (Qn.c p_y).toArray)] (Zo (GL.box (v:=.agg (Qn.c p_x).toArray) (cs:=Qn.c p_x) h trivial rfl rfl rfl ?_))
 intro b1 H2 h
 refine GL.box (v:=.agg (Qn.c p_y).toArray) (cs:=Qn.c p_y) h trivial rfl rfl rfl ?_
 intro b3 H4 h
 refine Za (GL.nil (Zo (Zf (Yl h fun x5 h=>?_))))
 refine Zf (Yl h fun x7 h=>?_)
 refine Zv (OV.sbin (a:=x5) (b:=x7) (v:=.bool (x5 == x7)) rfl rfl rfl) (Za (GL.nil ?_))
 exact Y1 I3 ⟨(x5 == x7),rfl,h⟩
def QS (C:Ctx) (p_s1:Sl) (p_s2:Sl) (p_eq:Value) (K:Bool→Heap→Prop) (H:Heap):Prop:=
 ift (((Sl.len p_s1:Int):Int) != (Sl.len p_s2:Int))
 (K false H)
 (lp (α:=Int) 0 H (fun x2 J3 H4=>
 ift (decide ((x2:Int) < (Sl.len p_s1:Int)))
 (ixa p_s1 x2 fun p6=>
 ldT H4 Qf.c (p6.1,p6.2+(x2:Int).toNat*6) fun x11=>
 nw (Qf.c Qf.zero) (fun b13 H14=>
 stT (b13,0) (Qf.c x11) (fun H15=>
 ixa p_s2 x2 fun p16=>
 ldT H15 Qf.c (p16.1,p16.2+(x2:Int).toNat*6) fun x21=>
 nw (Qf.c Qf.zero) (fun b23 H24=>
 stT (b23,0) (Qf.c x21) (fun H25=>
 ldT H25 Qf.c (b13,0) fun x26=>
 ldT H25 Qf.c (b23,0) fun x28=>
 callU Tryz.prog C p_eq [.agg (Qf.c x26).toArray,.agg (Qf.c x28).toArray] H25 (fun v H31=>∃ (r30:Bool),v=.bool r30∧
 ift (!r30)
 (K false H31)
 (J3 (w .i64 (x2+1)) H31))) H24) H15) H14) H4)
 (K true H4)))
theorem QaH (C p_s1 p_s2 p_eq K H) (h:QS C p_s1 p_s2 p_eq K H):Qv C p_s1 p_s2 p_eq K H:=by
 refine Ye Tryz.func70 rfl Tryz.ntmps70 [(0,slv p_s1),(1,slv p_s2),(2,p_eq)] (Zo (Za (GL.nil (GC.seq (Zo (Zm (Zq (Zm (Zq (Zi (.bool (((Sl.len p_s1:Int):Int) != (Sl.len p_s2:Int))) (GL.nil (Yd h (fun u1 h=>?_) fun u1 h=>?_))))))))))))
 refine Zo (Za (GL.nil ?_))
 exact Y1 I3 ⟨false,rfl,h⟩
 refine GC.skip (GC.seq (Zo (Zm (Zq (Zm (GL.nil (GC.block (Yp h (fun x2=>[(17,.int .i64 x2),(1,slv p_s2),(2,p_eq),(15,slv p_s1),(16,.int .i64 (Sl.len p_s1:Int))]) ?_))))))))
 intro x2 H4 J3 h
 refine Zo (Zi (.bool (decide ((x2:Int) < (Sl.len p_s1:Int)))) (GL.nil (GC.seq (Yd h (fun u5 h=>?_) fun u5 h=>?_))))
 refine GC.skip (GC.seq (GC.block (Zo (Zm (Yx h fun p6 h=>?_)))))
 obtain ⟨x11,v12,h⟩:=h
 refine Zv (OV.loadT rfl rfl rfl v12) (GL.alloc (cs:=Qf.c Qf.zero) h trivial rfl rfl rfl ?_)
 intro b13 H14 h
 refine Za (GL.storeT (p:=(b13,0)) (vs:=Qf.c x11) h trivial rfl rfl rfl rfl ?_)
 intro H15 h
 refine GL.nil (Zo (Zm (Zm (Yx h fun p16 h=>?_))))
 obtain ⟨x21,v22,h⟩:=h
 refine Zv (OV.loadT rfl rfl rfl v22) (GL.alloc (cs:=Qf.c Qf.zero) h trivial rfl rfl rfl ?_)
 intro b23 H24 h
 refine GL.storeT (p:=(b23,0)) (vs:=Qf.c x21) h trivial rfl rfl rfl rfl ?_
 intro H25 h
 refine GL.nil (Zo (Zm ?_))
 obtain ⟨x26,v27,h⟩:=h
 refine Zv (OV.loadT rfl rfl rfl v27) ?_
 obtain ⟨x28,v29,h⟩:=h
 refine Zv (OV.loadT rfl rfl rfl v29) (GL.callU (xv:=p_eq) (vs:=[.agg (Qf.c x26).toArray,.agg (Qf.c x28).toArray]) h trivial rfl rfl rfl ?_)
 rintro _ H31 ⟨r30,rfl,h⟩
 refine Zv (OV.not rfl) (GL.nil (Yd h (fun u32 h=>?_) fun u32 h=>?_))
 refine Zo (Za (GL.nil ?_))
 exact Y1 I3 ⟨false,rfl,h⟩
 refine GC.skip_to (fun _ _ h=>h) (GC.region (Zi (.int .i64 (w .i64 (x2+1))) (Zm ?_)))
 exact Yj I3 (w .i64 (x2+1)) h
 refine GC.exit_to (fun _ _ h=>h) (Zo (Za (GL.nil ?_)))
 exact Y1 I3 ⟨true,rfl,h⟩
def Qlq (C:Ctx) (p_x:Qf) (p_y:Qf) (K:Bool→Heap→Prop) (H:Heap):Prop:=
 nw (Qf.c p_x) (fun b1 H2=>
 nw (Qf.c p_y) (fun b3 H4=>
 ldB H4 ((b1,0).1,(b1,0).2+2) fun x5=>
 ldB H4 ((b3,0).1,(b3,0).2+2) fun x7=>
 jn (α:=Bool) (fun b9 H17=>
 jn (α:=Bool) (fun b18 H28=>
 jn (α:=Bool) (fun b29 H39=>
 K b29 H39)
 (fun J30=>ift b18
 (ldL H28 ((b1,0).1,(b1,0).2+5) fun x33=>
 ldL H28 ((b3,0).1,(b3,0).2+5) fun x35=>
 Qu C x33 x35 (.func (.func 74) (List.toArray []) (List.toArray []):Value) (fun r37 H38=>
 J30 r37 H38) H28)
 (J30 false H28)))
 (fun J19=>ift b9
 (ldL H17 ((b1,0).1,(b1,0).2+4) fun x22=>
 ldL H17 ((b3,0).1,(b3,0).2+4) fun x24=>
 QaQ C x22 x24 (fun r26 H27=>
 J19 r26 H27) H17)
 (J19 false H17)))
 (fun J10=>ift (x5 == x7)
 (ldS H4 ((b1,0).1,(b1,0).2+3) fun x13=>
 ldS H4 ((b3,0).1,(b3,0).2+3) fun x15=>
 J10 (x13 == x15) H4)
 (J10 false H4))) H2) H
theorem Qpa (C p_x p_y K H) (h:Qlq C p_x p_y K H):Qeh C p_x p_y K H:=by
 refine Ye Tryz.func71 rfl Tryz.ntmps71 [(0,.agg (Qf.c p_x).toArray),(1,.agg (Qf.c p_y).toArray)] (Zo (GL.box (v:=.agg (Qf.c p_x).toArray) (cs:=Qf.c p_x) h trivial rfl rfl rfl ?_))
 intro b1 H2 h
 refine GL.box (v:=.agg (Qf.c p_y).toArray) (cs:=Qf.c p_y) h trivial rfl rfl rfl ?_
 intro b3 H4 h
 refine Za (GL.nil (Zo (Zf (Yl h fun x5 h=>?_))))
 refine Zf (Yl h fun x7 h=>?_)
 refine Zv (OV.eqlBool rfl rfl rfl) (Zm ?_)
 obtain ⟨J10,h,hR11⟩:=h
 refine GL.cut (α:=Bool) 6 J10 (fun b9=>[(16,.bool b9),(2,pv (some (b1,0))),(3,pv (some (b3,0)))]) ?_ ?_
 rcases h.em with ⟨u12,h⟩ | ⟨u12,h⟩
 refine Zu u12 Yf ?_
 obtain ⟨x13,v14,h⟩:=h
 refine Zu u12 (Yo v14) (Zu u12 Yf ?_)
 obtain ⟨x15,v16,h⟩:=h
 refine Zu u12 (Yo v16) (Zu u12 (OV.sbin (a:=x13) (b:=x15) (v:=.bool (x13 == x15)) rfl rfl rfl) (Zt u12 ?_))
 exact Yj I3 (x13 == x15) h
 refine Zk u12 (Zk u12 (Zk u12 (Zk u12 (Zk u12 (Zn u12 ?_)))))
 exact Yj I3 false h
 intro b9 H17 h
 replace h:=hR11 b9 H17 h
 refine Zm ?_
 obtain ⟨J19,h,hR20⟩:=h
 refine GL.cut (α:=Bool) 6 J19 (fun b18=>[(23,.bool b18),(2,pv (some (b1,0))),(3,pv (some (b3,0)))]) ?_ ?_
 rcases h.em with ⟨u21,h⟩ | ⟨u21,h⟩
 refine Zu u21 Yf ?_
 obtain ⟨x22,v23,h⟩:=h
 refine Zu u21 (Yo v23) (Zu u21 Yf ?_)
 obtain ⟨x24,v25,h⟩:=h
 refine Zu u21 (Yo v25) (GL.call h (Yt u21) rfl Qdo (vs:=[slv x22,slv x24]) rfl ?_)
 rintro _ H27 ⟨r26,rfl,h⟩
 refine Zt u21 ?_
 exact Yj I3 r26 h
 refine Zk u21 (Zk u21 (Zk u21 (Zk u21 (Zk u21 (Zn u21 ?_)))))
 exact Yj I3 false h
 intro b18 H28 h
 replace h:=hR20 b18 H28 h
 refine Zm ?_
 obtain ⟨J30,h,hR31⟩:=h
 refine GL.cut (α:=Bool) 6 J30 (fun b29=>[(30,.bool b29)]) ?_ ?_
 rcases h.em with ⟨u32,h⟩ | ⟨u32,h⟩
 refine Zu u32 Yf ?_
 obtain ⟨x33,v34,h⟩:=h
 refine Zu u32 (Yo v34) (Zu u32 Yf ?_)
 obtain ⟨x35,v36,h⟩:=h
 refine Zu u32 (Yo v36) (GL.call h (Yt u32) rfl QaI (vs:=[slv x33,slv x35,.func (.func 74) (List.toArray []) (List.toArray [])]) rfl ?_)
 rintro _ H38 ⟨r37,rfl,h⟩
 refine Zt u32 ?_
 exact Yj I3 r37 h
 refine Zk u32 (Zk u32 (Zk u32 (Zk u32 (Zk u32 (Zn u32 ?_)))))
 exact Yj I3 false h
 intro b29 H39 h
 replace h:=hR31 b29 H39 h
 refine Za (GL.nil ?_)
 exact Y1 I3 ⟨b29,rfl,h⟩
def Qdr (C:Ctx) (p_s1:Sl) (p_s2:Sl) (K:Bool→Heap→Prop) (H:Heap):Prop:=
 ift (((Sl.len p_s1:Int):Int) != (Sl.len p_s2:Int))
 (K false H)
 (lp (α:=Int) 0 H (fun x2 J3 H4=>
 ift (decide ((x2:Int) < (Sl.len p_s1:Int)))
 (ixa p_s1 x2 fun p6=>
 ldS H4 (p6.1,p6.2+(x2:Int).toNat*1) fun x11=>
 ixa p_s2 x2 fun p13=>
 ldS H4 (p13.1,p13.2+(x2:Int).toNat*1) fun x18=>
 ift (!(x11 == x18))
 (K false H4)
 (J3 (w .i64 (x2+1)) H4))
 (K true H4)))
theorem Qga (C p_s1 p_s2 K H) (h:Qdr C p_s1 p_s2 K H):QaQ C p_s1 p_s2 K H:=by
 refine Ye Tryz.func72 rfl Tryz.ntmps72 [(0,slv p_s1),(1,slv p_s2)] (Zo (Za (GL.nil (GC.seq (Zo (Zm (Zq (Zm (Zq (Zi (.bool (((Sl.len p_s1:Int):Int) != (Sl.len p_s2:Int))) (GL.nil (Yd h (fun u1 h=>?_) fun u1 h=>?_))))))))))))
 refine Zo (Za (GL.nil ?_))
 exact Y1 I3 ⟨false,rfl,h⟩
 refine GC.skip (GC.seq (Zo (Zm (Zq (Zm (GL.nil (GC.block (Yp h (fun x2=>[(13,.int .i64 x2),(0,slv p_s1),(1,slv p_s2),(12,.int .i64 (Sl.len p_s1:Int))]) ?_))))))))
 intro x2 H4 J3 h
 refine Zo (Zi (.bool (decide ((x2:Int) < (Sl.len p_s1:Int)))) (GL.nil (GC.seq (Yd h (fun u5 h=>?_) fun u5 h=>?_))))
 refine GC.skip (GC.seq (GC.block (Zo (Zm (Za (GL.nil (GC.seq (GC.draw (by kernel_rfl) (by kernel_rfl) (GQ.val trivial rfl (OV.move (v:=slv p_s1) rfl) (GQ.val trivial rfl (OV.move (v:=.int .i64 x2) rfl) ?_))))))))))
 obtain ⟨p6,ha7,hb8,u9,hd10,h⟩:=h
 refine GQ.val trivial rfl (OV.indexAddr (s:=p_s1) rfl rfl rfl rfl ha7 hb8 u9 hd10) ?_
 obtain ⟨x11,v12,h⟩:=h
 refine GQ.val trivial rfl (OV.load (p:=(p6.1,p6.2+(x2:Int).toNat*1)) rfl rfl v12) (GQ.val trivial rfl (OV.move (v:=slv p_s2) rfl) (GQ.val trivial rfl (OV.move (v:=.int .i64 x2) rfl) ?_))
 obtain ⟨p13,ha14,hb15,u16,hd17,h⟩:=h
 refine GQ.val trivial rfl (OV.indexAddr (s:=p_s2) rfl rfl rfl rfl ha14 hb15 u16 hd17) ?_
 obtain ⟨x18,v19,h⟩:=h
 refine GQ.val trivial rfl (OV.load (p:=(p13.1,p13.2+(x2:Int).toNat*1)) rfl rfl v19) (GQ.val trivial rfl (OV.sbin (a:=x11) (b:=x18) (v:=.bool (!(x11 == x18))) rfl rfl rfl) (GQ.nil (GL.nil (Yd h (fun u20 h=>?_) fun u20 h=>?_))))
 refine Zo (Za (GL.nil ?_))
 exact Y1 I3 ⟨false,rfl,h⟩
 refine GC.skip_to (fun _ _ h=>h) (GC.region (Zi (.int .i64 (w .i64 (x2+1))) (Zm ?_)))
 exact Yj I3 (w .i64 (x2+1)) h
 refine GC.exit_to (fun _ _ h=>h) (Zo (Za (GL.nil ?_)))
 exact Y1 I3 ⟨true,rfl,h⟩
def QQ (C:Ctx) (p_s1:Sl) (p_s2:Sl) (p_eq:Value) (K:Bool→Heap→Prop) (H:Heap):Prop:=
 ift (((Sl.len p_s1:Int):Int) != (Sl.len p_s2:Int))
 (K false H)
 (lp (α:=Int) 0 H (fun x2 J3 H4=>
 ift (decide ((x2:Int) < (Sl.len p_s1:Int)))
 (ixa p_s1 x2 fun p6=>
 ldT H4 Qh.c (p6.1,p6.2+(x2:Int).toNat*2) fun x11=>
 nw (Qh.c Qh.zero) (fun b13 H14=>
 stT (b13,0) (Qh.c x11) (fun H15=>
 ixa p_s2 x2 fun p16=>
 ldT H15 Qh.c (p16.1,p16.2+(x2:Int).toNat*2) fun x21=>
 nw (Qh.c Qh.zero) (fun b23 H24=>
 stT (b23,0) (Qh.c x21) (fun H25=>
 ldT H25 Qh.c (b13,0) fun x26=>
 ldT H25 Qh.c (b23,0) fun x28=>
 callU Tryz.prog C p_eq [.agg (Qh.c x26).toArray,.agg (Qh.c x28).toArray] H25 (fun v H31=>∃ (r30:Bool),v=.bool r30∧
 ift (!r30)
 (K false H31)
 (J3 (w .i64 (x2+1)) H31))) H24) H15) H14) H4)
 (K true H4)))
theorem QaF (C p_s1 p_s2 p_eq K H) (h:QQ C p_s1 p_s2 p_eq K H):Qu C p_s1 p_s2 p_eq K H:=by
 refine Ye Tryz.func73 rfl Tryz.ntmps73 [(0,slv p_s1),(1,slv p_s2),(2,p_eq)] (Zo (Za (GL.nil (GC.seq (Zo (Zm (Zq (Zm (Zq (Zi (.bool (((Sl.len p_s1:Int):Int) != (Sl.len p_s2:Int))) (GL.nil (Yd h (fun u1 h=>?_) fun u1 h=>?_))))))))))))
 refine Zo (Za (GL.nil ?_))
 exact Y1 I3 ⟨false,rfl,h⟩
 refine GC.skip (GC.seq (Zo (Zm (Zq (Zm (GL.nil (GC.block (Yp h (fun x2=>[(17,.int .i64 x2),(1,slv p_s2),(2,p_eq),(15,slv p_s1),(16,.int .i64 (Sl.len p_s1:Int))]) ?_))))))))
 intro x2 H4 J3 h
 refine Zo (Zi (.bool (decide ((x2:Int) < (Sl.len p_s1:Int)))) (GL.nil (GC.seq (Yd h (fun u5 h=>?_) fun u5 h=>?_))))
 refine GC.skip (GC.seq (GC.block (Zo (Zm (Yx h fun p6 h=>?_)))))
 obtain ⟨x11,v12,h⟩:=h
 refine Zv (OV.loadT rfl rfl rfl v12) (GL.alloc (cs:=Qh.c Qh.zero) h trivial rfl rfl rfl ?_)
 intro b13 H14 h
 refine Za (GL.storeT (p:=(b13,0)) (vs:=Qh.c x11) h trivial rfl rfl rfl rfl ?_)
 intro H15 h
 refine GL.nil (Zo (Zm (Zm (Yx h fun p16 h=>?_))))
 obtain ⟨x21,v22,h⟩:=h
 refine Zv (OV.loadT rfl rfl rfl v22) (GL.alloc (cs:=Qh.c Qh.zero) h trivial rfl rfl rfl ?_)
 intro b23 H24 h
 refine GL.storeT (p:=(b23,0)) (vs:=Qh.c x21) h trivial rfl rfl rfl rfl ?_
 intro H25 h
 refine GL.nil (Zo (Zm ?_))
 obtain ⟨x26,v27,h⟩:=h
 refine Zv (OV.loadT rfl rfl rfl v27) ?_
 obtain ⟨x28,v29,h⟩:=h
 refine Zv (OV.loadT rfl rfl rfl v29) (GL.callU (xv:=p_eq) (vs:=[.agg (Qh.c x26).toArray,.agg (Qh.c x28).toArray]) h trivial rfl rfl rfl ?_)
 rintro _ H31 ⟨r30,rfl,h⟩
 refine Zv (OV.not rfl) (GL.nil (Yd h (fun u32 h=>?_) fun u32 h=>?_))
 refine Zo (Za (GL.nil ?_))
 exact Y1 I3 ⟨false,rfl,h⟩
 refine GC.skip_to (fun _ _ h=>h) (GC.region (Zi (.int .i64 (w .i64 (x2+1))) (Zm ?_)))
 exact Yj I3 (w .i64 (x2+1)) h
 refine GC.exit_to (fun _ _ h=>h) (Zo (Za (GL.nil ?_)))
 exact Y1 I3 ⟨true,rfl,h⟩
def Qjk (C:Ctx) (p_c:Qh) (p_d:Qh) (K:Bool→Heap→Prop) (H:Heap):Prop:=
 nw (Qh.c p_c) (fun b1 H2=>
 nw (Qh.c p_d) (fun b3 H4=>
 ldS H4 ((b1,0).1,(b1,0).2+0) fun x5=>
 ldS H4 ((b3,0).1,(b3,0).2+0) fun x7=>
 jn (α:=Bool) (fun b9 H19=>
 K b9 H19)
 (fun J10=>ift (x5 == x7)
 (ldL H4 ((b1,0).1,(b1,0).2+1) fun x13=>
 ldL H4 ((b3,0).1,(b3,0).2+1) fun x15=>
 Qr C x13 x15 (.func (.func 76) (List.toArray []) (List.toArray []):Value) (fun r17 H18=>
 J10 r17 H18) H4)
 (J10 false H4))) H2) H
theorem QnG (C p_c p_d K H) (h:Qjk C p_c p_d K H):QcJ C p_c p_d K H:=by
 refine Ye Tryz.func74 rfl Tryz.ntmps74 [(0,.agg (Qh.c p_c).toArray),(1,.agg (Qh.c p_d).toArray)] (Zo (GL.box (v:=.agg (Qh.c p_c).toArray) (cs:=Qh.c p_c) h trivial rfl rfl rfl ?_))
 intro b1 H2 h
 refine GL.box (v:=.agg (Qh.c p_d).toArray) (cs:=Qh.c p_d) h trivial rfl rfl rfl ?_
 intro b3 H4 h
 refine Za (GL.nil (Zo (Zf (Yl h fun x5 h=>?_))))
 refine Zf (Yl h fun x7 h=>?_)
 refine Zv (OV.sbin (a:=x5) (b:=x7) (v:=.bool (x5 == x7)) rfl rfl rfl) (Zm ?_)
 obtain ⟨J10,h,hR11⟩:=h
 refine GL.cut (α:=Bool) 6 J10 (fun b9=>[(16,.bool b9)]) ?_ ?_
 rcases h.em with ⟨u12,h⟩ | ⟨u12,h⟩
 refine Zu u12 Yf ?_
 obtain ⟨x13,v14,h⟩:=h
 refine Zu u12 (Yo v14) (Zu u12 Yf ?_)
 obtain ⟨x15,v16,h⟩:=h
 refine Zu u12 (Yo v16) (GL.call h (Yt u12) rfl QL (vs:=[slv x13,slv x15,.func (.func 76) (List.toArray []) (List.toArray [])]) rfl ?_)
 rintro _ H18 ⟨r17,rfl,h⟩
 refine Zt u12 ?_
 exact Yj I3 r17 h
 refine Zk u12 (Zk u12 (Zk u12 (Zk u12 (Zk u12 (Zn u12 ?_)))))
 exact Yj I3 false h
 intro b9 H19 h
 replace h:=hR11 b9 H19 h
 refine Za (GL.nil ?_)
 exact Y1 I3 ⟨b9,rfl,h⟩
def QM (C:Ctx) (p_s1:Sl) (p_s2:Sl) (p_eq:Value) (K:Bool→Heap→Prop) (H:Heap):Prop:=
 ift (((Sl.len p_s1:Int):Int) != (Sl.len p_s2:Int))
 (K false H)
 (lp (α:=Int) 0 H (fun x2 J3 H4=>
 ift (decide ((x2:Int) < (Sl.len p_s1:Int)))
 (ixa p_s1 x2 fun p6=>
 ldT H4 Qd.c (p6.1,p6.2+(x2:Int).toNat*3) fun x11=>
 nw (Qd.c Qd.zero) (fun b13 H14=>
 stT (b13,0) (Qd.c x11) (fun H15=>
 ixa p_s2 x2 fun p16=>
 ldT H15 Qd.c (p16.1,p16.2+(x2:Int).toNat*3) fun x21=>
 nw (Qd.c Qd.zero) (fun b23 H24=>
 stT (b23,0) (Qd.c x21) (fun H25=>
 ldT H25 Qd.c (b13,0) fun x26=>
 ldT H25 Qd.c (b23,0) fun x28=>
 callU Tryz.prog C p_eq [.agg (Qd.c x26).toArray,.agg (Qd.c x28).toArray] H25 (fun v H31=>∃ (r30:Bool),v=.bool r30∧
 ift (!r30)
 (K false H31)
 (J3 (w .i64 (x2+1)) H31))) H24) H15) H14) H4)
 (K true H4)))
theorem Qar (C p_s1 p_s2 p_eq K H) (h:QM C p_s1 p_s2 p_eq K H):Qr C p_s1 p_s2 p_eq K H:=by
 refine Ye Tryz.func75 rfl Tryz.ntmps75 [(0,slv p_s1),(1,slv p_s2),(2,p_eq)] (Zo (Za (GL.nil (GC.seq (Zo (Zm (Zq (Zm (Zq (Zi (.bool (((Sl.len p_s1:Int):Int) != (Sl.len p_s2:Int))) (GL.nil (Yd h (fun u1 h=>?_) fun u1 h=>?_))))))))))))
 refine Zo (Za (GL.nil ?_))
 exact Y1 I3 ⟨false,rfl,h⟩
 refine GC.skip (GC.seq (Zo (Zm (Zq (Zm (GL.nil (GC.block (Yp h (fun x2=>[(17,.int .i64 x2),(1,slv p_s2),(2,p_eq),(15,slv p_s1),(16,.int .i64 (Sl.len p_s1:Int))]) ?_))))))))
 intro x2 H4 J3 h
 refine Zo (Zi (.bool (decide ((x2:Int) < (Sl.len p_s1:Int)))) (GL.nil (GC.seq (Yd h (fun u5 h=>?_) fun u5 h=>?_))))
 refine GC.skip (GC.seq (GC.block (Zo (Zm (Yx h fun p6 h=>?_)))))
 obtain ⟨x11,v12,h⟩:=h
 refine Zv (OV.loadT rfl rfl rfl v12) (GL.alloc (cs:=Qd.c Qd.zero) h trivial rfl rfl rfl ?_)
 intro b13 H14 h
 refine Za (GL.storeT (p:=(b13,0)) (vs:=Qd.c x11) h trivial rfl rfl rfl rfl ?_)
 intro H15 h
 refine GL.nil (Zo (Zm (Zm (Yx h fun p16 h=>?_))))
 obtain ⟨x21,v22,h⟩:=h
 refine Zv (OV.loadT rfl rfl rfl v22) (GL.alloc (cs:=Qd.c Qd.zero) h trivial rfl rfl rfl ?_)
 intro b23 H24 h
 refine GL.storeT (p:=(b23,0)) (vs:=Qd.c x21) h trivial rfl rfl rfl rfl ?_
 intro H25 h
 refine GL.nil (Zo (Zm ?_))
 obtain ⟨x26,v27,h⟩:=h
 refine Zv (OV.loadT rfl rfl rfl v27) ?_
 obtain ⟨x28,v29,h⟩:=h
 refine Zv (OV.loadT rfl rfl rfl v29) (GL.callU (xv:=p_eq) (vs:=[.agg (Qd.c x26).toArray,.agg (Qd.c x28).toArray]) h trivial rfl rfl rfl ?_)
 rintro _ H31 ⟨r30,rfl,h⟩
 refine Zv (OV.not rfl) (GL.nil (Yd h (fun u32 h=>?_) fun u32 h=>?_))
 refine Zo (Za (GL.nil ?_))
 exact Y1 I3 ⟨false,rfl,h⟩
 refine GC.skip_to (fun _ _ h=>h) (GC.region (Zi (.int .i64 (w .i64 (x2+1))) (Zm ?_)))
 exact Yj I3 (w .i64 (x2+1)) h
 refine GC.exit_to (fun _ _ h=>h) (Zo (Za (GL.nil ?_)))
 exact Y1 I3 ⟨true,rfl,h⟩
def QiF (C:Ctx) (p_a:Qd) (p_b:Qd) (K:Bool→Heap→Prop) (H:Heap):Prop:=
 nw (Qd.c p_a) (fun b1 H2=>
 nw (Qd.c p_b) (fun b3 H4=>
 ldS H4 ((b1,0).1,(b1,0).2+0) fun x5=>
 ldS H4 ((b3,0).1,(b3,0).2+0) fun x7=>
 jn (α:=Bool) (fun b9 H19=>
 K b9 H19)
 (fun J10=>ift (x5 == x7)
 (ldT H4 Qe.c ((b1,0).1,(b1,0).2+1) fun x13=>
 ldT H4 Qe.c ((b3,0).1,(b3,0).2+1) fun x15=>
 Qb8 C x13 x15 (fun r17 H18=>
 J10 r17 H18) H4)
 (J10 false H4))) H2) H
theorem Qm2 (C p_a p_b K H) (h:QiF C p_a p_b K H):Qce C p_a p_b K H:=by
 refine Ye Tryz.func76 rfl Tryz.ntmps76 [(0,.agg (Qd.c p_a).toArray),(1,.agg (Qd.c p_b).toArray)] (Zo (GL.box (v:=.agg (Qd.c p_a).toArray) (cs:=Qd.c p_a) h trivial rfl rfl rfl ?_))
 intro b1 H2 h
 refine GL.box (v:=.agg (Qd.c p_b).toArray) (cs:=Qd.c p_b) h trivial rfl rfl rfl ?_
 intro b3 H4 h
 refine Za (GL.nil (Zo (Zf (Yl h fun x5 h=>?_))))
 refine Zf (Yl h fun x7 h=>?_)
 refine Zv (OV.sbin (a:=x5) (b:=x7) (v:=.bool (x5 == x7)) rfl rfl rfl) (Zm ?_)
 obtain ⟨J10,h,hR11⟩:=h
 refine GL.cut (α:=Bool) 6 J10 (fun b9=>[(16,.bool b9)]) ?_ ?_
 rcases h.em with ⟨u12,h⟩ | ⟨u12,h⟩
 refine Zu u12 Yf ?_
 obtain ⟨x13,v14,h⟩:=h
 refine Zu u12 (OV.loadT rfl rfl rfl v14) (Zu u12 Yf ?_)
 obtain ⟨x15,v16,h⟩:=h
 refine Zu u12 (OV.loadT rfl rfl rfl v16) (GL.call h (Yt u12) rfl Qjg (vs:=[.agg (Qe.c x13).toArray,.agg (Qe.c x15).toArray]) rfl ?_)
 rintro _ H18 ⟨r17,rfl,h⟩
 refine Zt u12 ?_
 exact Yj I3 r17 h
 refine Zk u12 (Zk u12 (Zk u12 (Zk u12 (Zk u12 (Zn u12 ?_)))))
 exact Yj I3 false h
 intro b9 H19 h
 replace h:=hR11 b9 H19 h
 refine Za (GL.nil ?_)
 exact Y1 I3 ⟨b9,rfl,h⟩
def QZ (C:Ctx) (p_s1:Sl) (p_s2:Sl) (p_eq:Value) (K:Bool→Heap→Prop) (H:Heap):Prop:=
 ift (((Sl.len p_s1:Int):Int) != (Sl.len p_s2:Int))
 (K false H)
 (lp (α:=Int) 0 H (fun x2 J3 H4=>
 ift (decide ((x2:Int) < (Sl.len p_s1:Int)))
 (ixa p_s1 x2 fun p6=>
 ldT H4 Qi.c (p6.1,p6.2+(x2:Int).toNat*6) fun x11=>
 nw (Qi.c Qi.zero) (fun b13 H14=>
 stT (b13,0) (Qi.c x11) (fun H15=>
 ixa p_s2 x2 fun p16=>
 ldT H15 Qi.c (p16.1,p16.2+(x2:Int).toNat*6) fun x21=>
 nw (Qi.c Qi.zero) (fun b23 H24=>
 stT (b23,0) (Qi.c x21) (fun H25=>
 ldT H25 Qi.c (b13,0) fun x26=>
 ldT H25 Qi.c (b23,0) fun x28=>
 callU Tryz.prog C p_eq [.agg (Qi.c x26).toArray,.agg (Qi.c x28).toArray] H25 (fun v H31=>∃ (r30:Bool),v=.bool r30∧
 ift (!r30)
 (K false H31)
 (J3 (w .i64 (x2+1)) H31))) H24) H15) H14) H4)
 (K true H4)))
theorem QaV (C p_s1 p_s2 p_eq K H) (h:QZ C p_s1 p_s2 p_eq K H):Qx C p_s1 p_s2 p_eq K H:=by
 refine Ye Tryz.func77 rfl Tryz.ntmps77 [(0,slv p_s1),(1,slv p_s2),(2,p_eq)] (Zo (Za (GL.nil (GC.seq (Zo (Zm (Zq (Zm (Zq (Zi (.bool (((Sl.len p_s1:Int):Int) != (Sl.len p_s2:Int))) (GL.nil (Yd h (fun u1 h=>?_) fun u1 h=>?_))))))))))))
 refine Zo (Za (GL.nil ?_))
 exact Y1 I3 ⟨false,rfl,h⟩
 refine GC.skip (GC.seq (Zo (Zm (Zq (Zm (GL.nil (GC.block (Yp h (fun x2=>[(17,.int .i64 x2),(1,slv p_s2),(2,p_eq),(15,slv p_s1),(16,.int .i64 (Sl.len p_s1:Int))]) ?_))))))))
 intro x2 H4 J3 h
 refine Zo (Zi (.bool (decide ((x2:Int) < (Sl.len p_s1:Int)))) (GL.nil (GC.seq (Yd h (fun u5 h=>?_) fun u5 h=>?_))))
 refine GC.skip (GC.seq (GC.block (Zo (Zm (Yx h fun p6 h=>?_)))))
 obtain ⟨x11,v12,h⟩:=h
 refine Zv (OV.loadT rfl rfl rfl v12) (GL.alloc (cs:=Qi.c Qi.zero) h trivial rfl rfl rfl ?_)
 intro b13 H14 h
 refine Za (GL.storeT (p:=(b13,0)) (vs:=Qi.c x11) h trivial rfl rfl rfl rfl ?_)
 intro H15 h
 refine GL.nil (Zo (Zm (Zm (Yx h fun p16 h=>?_))))
 obtain ⟨x21,v22,h⟩:=h
 refine Zv (OV.loadT rfl rfl rfl v22) (GL.alloc (cs:=Qi.c Qi.zero) h trivial rfl rfl rfl ?_)
 intro b23 H24 h
 refine GL.storeT (p:=(b23,0)) (vs:=Qi.c x21) h trivial rfl rfl rfl rfl ?_
 intro H25 h
 refine GL.nil (Zo (Zm ?_))
 obtain ⟨x26,v27,h⟩:=h
 refine Zv (OV.loadT rfl rfl rfl v27) ?_
 obtain ⟨x28,v29,h⟩:=h
 refine Zv (OV.loadT rfl rfl rfl v29) (GL.callU (xv:=p_eq) (vs:=[.agg (Qi.c x26).toArray,.agg (Qi.c x28).toArray]) h trivial rfl rfl rfl ?_)
 rintro _ H31 ⟨r30,rfl,h⟩
 refine Zv (OV.not rfl) (GL.nil (Yd h (fun u32 h=>?_) fun u32 h=>?_))
 refine Zo (Za (GL.nil ?_))
 exact Y1 I3 ⟨false,rfl,h⟩
 refine GC.skip_to (fun _ _ h=>h) (GC.region (Zi (.int .i64 (w .i64 (x2+1))) (Zm ?_)))
 exact Yj I3 (w .i64 (x2+1)) h
 refine GC.exit_to (fun _ _ h=>h) (Zo (Za (GL.nil ?_)))
 exact Y1 I3 ⟨true,rfl,h⟩
def Qlr (C:Ctx) (p_x:Qi) (p_y:Qi) (K:Bool→Heap→Prop) (H:Heap):Prop:=
 nw (Qi.c p_x) (fun b1 H2=>
 nw (Qi.c p_y) (fun b3 H4=>
 ldB H4 ((b1,0).1,(b1,0).2+2) fun x5=>
 ldB H4 ((b3,0).1,(b3,0).2+2) fun x7=>
 jn (α:=Bool) (fun b9 H17=>
 jn (α:=Bool) (fun b18 H26=>
 jn (α:=Bool) (fun b27 H37=>
 K b27 H37)
 (fun J28=>ift b18
 (ldL H26 ((b1,0).1,(b1,0).2+5) fun x31=>
 ldL H26 ((b3,0).1,(b3,0).2+5) fun x33=>
 Qr C x31 x33 (.func (.func 76) (List.toArray []) (List.toArray []):Value) (fun r35 H36=>
 J28 r35 H36) H26)
 (J28 false H26)))
 (fun J19=>ift b9
 (ldS H17 ((b1,0).1,(b1,0).2+4) fun x22=>
 ldS H17 ((b3,0).1,(b3,0).2+4) fun x24=>
 J19 (x22 == x24) H17)
 (J19 false H17)))
 (fun J10=>ift (x5 == x7)
 (ldB H4 ((b1,0).1,(b1,0).2+3) fun x13=>
 ldB H4 ((b3,0).1,(b3,0).2+3) fun x15=>
 J10 (x13 == x15) H4)
 (J10 false H4))) H2) H
theorem Qpb (C p_x p_y K H) (h:Qlr C p_x p_y K H):Qei C p_x p_y K H:=by
 refine Ye Tryz.func78 rfl Tryz.ntmps78 [(0,.agg (Qi.c p_x).toArray),(1,.agg (Qi.c p_y).toArray)] (Zo (GL.box (v:=.agg (Qi.c p_x).toArray) (cs:=Qi.c p_x) h trivial rfl rfl rfl ?_))
 intro b1 H2 h
 refine GL.box (v:=.agg (Qi.c p_y).toArray) (cs:=Qi.c p_y) h trivial rfl rfl rfl ?_
 intro b3 H4 h
 refine Za (GL.nil (Zo (Zf (Yl h fun x5 h=>?_))))
 refine Zf (Yl h fun x7 h=>?_)
 refine Zv (OV.eqlBool rfl rfl rfl) (Zm ?_)
 obtain ⟨J10,h,hR11⟩:=h
 refine GL.cut (α:=Bool) 6 J10 (fun b9=>[(16,.bool b9),(2,pv (some (b1,0))),(3,pv (some (b3,0)))]) ?_ ?_
 rcases h.em with ⟨u12,h⟩ | ⟨u12,h⟩
 refine Zu u12 Yf ?_
 obtain ⟨x13,v14,h⟩:=h
 refine Zu u12 (Yo v14) (Zu u12 Yf ?_)
 obtain ⟨x15,v16,h⟩:=h
 refine Zu u12 (Yo v16) (Zu u12 (OV.eqlBool rfl rfl rfl) (Zt u12 ?_))
 exact Yj I3 (x13 == x15) h
 refine Zk u12 (Zk u12 (Zk u12 (Zk u12 (Zk u12 (Zn u12 ?_)))))
 exact Yj I3 false h
 intro b9 H17 h
 replace h:=hR11 b9 H17 h
 refine Zm ?_
 obtain ⟨J19,h,hR20⟩:=h
 refine GL.cut (α:=Bool) 6 J19 (fun b18=>[(23,.bool b18),(2,pv (some (b1,0))),(3,pv (some (b3,0)))]) ?_ ?_
 rcases h.em with ⟨u21,h⟩ | ⟨u21,h⟩
 refine Zu u21 Yf ?_
 obtain ⟨x22,v23,h⟩:=h
 refine Zu u21 (Yo v23) (Zu u21 Yf ?_)
 obtain ⟨x24,v25,h⟩:=h
 refine Zu u21 (Yo v25) (Zu u21 (OV.sbin (a:=x22) (b:=x24) (v:=.bool (x22 == x24)) rfl rfl rfl) (Zt u21 ?_))
 exact Yj I3 (x22 == x24) h
 refine Zk u21 (Zk u21 (Zk u21 (Zk u21 (Zk u21 (Zn u21 ?_)))))
 exact Yj I3 false h
 intro b18 H26 h
 replace h:=hR20 b18 H26 h
 refine Zm ?_
 obtain ⟨J28,h,hR29⟩:=h
 refine GL.cut (α:=Bool) 6 J28 (fun b27=>[(30,.bool b27)]) ?_ ?_
 rcases h.em with ⟨u30,h⟩ | ⟨u30,h⟩
 refine Zu u30 Yf ?_
 obtain ⟨x31,v32,h⟩:=h
 refine Zu u30 (Yo v32) (Zu u30 Yf ?_)
 obtain ⟨x33,v34,h⟩:=h
 refine Zu u30 (Yo v34) (GL.call h (Yt u30) rfl QL (vs:=[slv x31,slv x33,.func (.func 76) (List.toArray []) (List.toArray [])]) rfl ?_)
 rintro _ H36 ⟨r35,rfl,h⟩
 refine Zt u30 ?_
 exact Yj I3 r35 h
 refine Zk u30 (Zk u30 (Zk u30 (Zk u30 (Zk u30 (Zn u30 ?_)))))
 exact Yj I3 false h
 intro b27 H37 h
 replace h:=hR29 b27 H37 h
 refine Za (GL.nil ?_)
 exact Y1 I3 ⟨b27,rfl,h⟩
def Qac (C:Ctx) (p_s1:Sl) (p_s2:Sl) (p_eq:Value) (K:Bool→Heap→Prop) (H:Heap):Prop:=
 ift (((Sl.len p_s1:Int):Int) != (Sl.len p_s2:Int))
 (K false H)
 (lp (α:=Int) 0 H (fun x2 J3 H4=>
 ift (decide ((x2:Int) < (Sl.len p_s1:Int)))
 (ixa p_s1 x2 fun p6=>
 ldT H4 Qk.c (p6.1,p6.2+(x2:Int).toNat*6) fun x11=>
 nw (Qk.c Qk.zero) (fun b13 H14=>
 stT (b13,0) (Qk.c x11) (fun H15=>
 ixa p_s2 x2 fun p16=>
 ldT H15 Qk.c (p16.1,p16.2+(x2:Int).toNat*6) fun x21=>
 nw (Qk.c Qk.zero) (fun b23 H24=>
 stT (b23,0) (Qk.c x21) (fun H25=>
 ldT H25 Qk.c (b13,0) fun x26=>
 ldT H25 Qk.c (b23,0) fun x28=>
 callU Tryz.prog C p_eq [.agg (Qk.c x26).toArray,.agg (Qk.c x28).toArray] H25 (fun v H31=>∃ (r30:Bool),v=.bool r30∧
 ift (!r30)
 (K false H31)
 (J3 (w .i64 (x2+1)) H31))) H24) H15) H14) H4)
 (K true H4)))
theorem QbI (C p_s1 p_s2 p_eq K H) (h:Qac C p_s1 p_s2 p_eq K H):QA C p_s1 p_s2 p_eq K H:=by
 refine Ye Tryz.func79 rfl Tryz.ntmps79 [(0,slv p_s1),(1,slv p_s2),(2,p_eq)] (Zo (Za (GL.nil (GC.seq (Zo (Zm (Zq (Zm (Zq (Zi (.bool (((Sl.len p_s1:Int):Int) != (Sl.len p_s2:Int))) (GL.nil (Yd h (fun u1 h=>?_) fun u1 h=>?_))))))))))))
 refine Zo (Za (GL.nil ?_))
 exact Y1 I3 ⟨false,rfl,h⟩
 refine GC.skip (GC.seq (Zo (Zm (Zq (Zm (GL.nil (GC.block (Yp h (fun x2=>[(17,.int .i64 x2),(1,slv p_s2),(2,p_eq),(15,slv p_s1),(16,.int .i64 (Sl.len p_s1:Int))]) ?_))))))))
 intro x2 H4 J3 h
 refine Zo (Zi (.bool (decide ((x2:Int) < (Sl.len p_s1:Int)))) (GL.nil (GC.seq (Yd h (fun u5 h=>?_) fun u5 h=>?_))))
 refine GC.skip (GC.seq (GC.block (Zo (Zm (Yx h fun p6 h=>?_)))))
 obtain ⟨x11,v12,h⟩:=h
 refine Zv (OV.loadT rfl rfl rfl v12) (GL.alloc (cs:=Qk.c Qk.zero) h trivial rfl rfl rfl ?_)
 intro b13 H14 h
 refine Za (GL.storeT (p:=(b13,0)) (vs:=Qk.c x11) h trivial rfl rfl rfl rfl ?_)
 intro H15 h
 refine GL.nil (Zo (Zm (Zm (Yx h fun p16 h=>?_))))
 obtain ⟨x21,v22,h⟩:=h
 refine Zv (OV.loadT rfl rfl rfl v22) (GL.alloc (cs:=Qk.c Qk.zero) h trivial rfl rfl rfl ?_)
 intro b23 H24 h
 refine GL.storeT (p:=(b23,0)) (vs:=Qk.c x21) h trivial rfl rfl rfl rfl ?_
 intro H25 h
 refine GL.nil (Zo (Zm ?_))
 obtain ⟨x26,v27,h⟩:=h
 refine Zv (OV.loadT rfl rfl rfl v27) ?_
 obtain ⟨x28,v29,h⟩:=h
 refine Zv (OV.loadT rfl rfl rfl v29) (GL.callU (xv:=p_eq) (vs:=[.agg (Qk.c x26).toArray,.agg (Qk.c x28).toArray]) h trivial rfl rfl rfl ?_)
 rintro _ H31 ⟨r30,rfl,h⟩
 refine Zv (OV.not rfl) (GL.nil (Yd h (fun u32 h=>?_) fun u32 h=>?_))
 refine Zo (Za (GL.nil ?_))
 exact Y1 I3 ⟨false,rfl,h⟩
 refine GC.skip_to (fun _ _ h=>h) (GC.region (Zi (.int .i64 (w .i64 (x2+1))) (Zm ?_)))
 exact Yj I3 (w .i64 (x2+1)) h
 refine GC.exit_to (fun _ _ h=>h) (Zo (Za (GL.nil ?_)))
 exact Y1 I3 ⟨true,rfl,h⟩
def Qls (C:Ctx) (p_x:Qk) (p_y:Qk) (K:Bool→Heap→Prop) (H:Heap):Prop:=
 nw (Qk.c p_x) (fun b1 H2=>
 nw (Qk.c p_y) (fun b3 H4=>
 ldS H4 ((b1,0).1,(b1,0).2+2) fun x5=>
 ldS H4 ((b3,0).1,(b3,0).2+2) fun x7=>
 jn (α:=Bool) (fun b9 H19=>
 jn (α:=Bool) (fun b20 H30=>
 jn (α:=Bool) (fun b31 H41=>
 K b31 H41)
 (fun J32=>ift b20
 (ldL H30 ((b1,0).1,(b1,0).2+5) fun x35=>
 ldL H30 ((b3,0).1,(b3,0).2+5) fun x37=>
 Qs C x35 x37 (.func (.func 84) (List.toArray []) (List.toArray []):Value) (fun r39 H40=>
 J32 r39 H40) H30)
 (J32 false H30)))
 (fun J21=>ift b9
 (ldL H19 ((b1,0).1,(b1,0).2+4) fun x24=>
 ldL H19 ((b3,0).1,(b3,0).2+4) fun x26=>
 QaQ C x24 x26 (fun r28 H29=>
 J21 r28 H29) H19)
 (J21 false H19)))
 (fun J10=>ift (x5 == x7)
 (ldL H4 ((b1,0).1,(b1,0).2+3) fun x13=>
 ldL H4 ((b3,0).1,(b3,0).2+3) fun x15=>
 Qt C x13 x15 (.func (.func 82) (List.toArray []) (List.toArray []):Value) (fun r17 H18=>
 J10 r17 H18) H4)
 (J10 false H4))) H2) H
theorem Qpc (C p_x p_y K H) (h:Qls C p_x p_y K H):Qej C p_x p_y K H:=by
 refine Ye Tryz.func80 rfl Tryz.ntmps80 [(0,.agg (Qk.c p_x).toArray),(1,.agg (Qk.c p_y).toArray)] (Zo (GL.box (v:=.agg (Qk.c p_x).toArray) (cs:=Qk.c p_x) h trivial rfl rfl rfl ?_))
 intro b1 H2 h
 refine GL.box (v:=.agg (Qk.c p_y).toArray) (cs:=Qk.c p_y) h trivial rfl rfl rfl ?_
 intro b3 H4 h
 refine Za (GL.nil (Zo (Zf (Yl h fun x5 h=>?_))))
 refine Zf (Yl h fun x7 h=>?_)
 refine Zv (OV.sbin (a:=x5) (b:=x7) (v:=.bool (x5 == x7)) rfl rfl rfl) (Zm ?_)
 obtain ⟨J10,h,hR11⟩:=h
 refine GL.cut (α:=Bool) 6 J10 (fun b9=>[(16,.bool b9),(2,pv (some (b1,0))),(3,pv (some (b3,0)))]) ?_ ?_
 rcases h.em with ⟨u12,h⟩ | ⟨u12,h⟩
 refine Zu u12 Yf ?_
 obtain ⟨x13,v14,h⟩:=h
 refine Zu u12 (Yo v14) (Zu u12 Yf ?_)
 obtain ⟨x15,v16,h⟩:=h
 refine Zu u12 (Yo v16) (GL.call h (Yt u12) rfl QK (vs:=[slv x13,slv x15,.func (.func 82) (List.toArray []) (List.toArray [])]) rfl ?_)
 rintro _ H18 ⟨r17,rfl,h⟩
 refine Zt u12 ?_
 exact Yj I3 r17 h
 refine Zk u12 (Zk u12 (Zk u12 (Zk u12 (Zk u12 (Zn u12 ?_)))))
 exact Yj I3 false h
 intro b9 H19 h
 replace h:=hR11 b9 H19 h
 refine Zm ?_
 obtain ⟨J21,h,hR22⟩:=h
 refine GL.cut (α:=Bool) 6 J21 (fun b20=>[(23,.bool b20),(2,pv (some (b1,0))),(3,pv (some (b3,0)))]) ?_ ?_
 rcases h.em with ⟨u23,h⟩ | ⟨u23,h⟩
 refine Zu u23 Yf ?_
 obtain ⟨x24,v25,h⟩:=h
 refine Zu u23 (Yo v25) (Zu u23 Yf ?_)
 obtain ⟨x26,v27,h⟩:=h
 refine Zu u23 (Yo v27) (GL.call h (Yt u23) rfl Qdo (vs:=[slv x24,slv x26]) rfl ?_)
 rintro _ H29 ⟨r28,rfl,h⟩
 refine Zt u23 ?_
 exact Yj I3 r28 h
 refine Zk u23 (Zk u23 (Zk u23 (Zk u23 (Zk u23 (Zn u23 ?_)))))
 exact Yj I3 false h
 intro b20 H30 h
 replace h:=hR22 b20 H30 h
 refine Zm ?_
 obtain ⟨J32,h,hR33⟩:=h
 refine GL.cut (α:=Bool) 6 J32 (fun b31=>[(30,.bool b31)]) ?_ ?_
 rcases h.em with ⟨u34,h⟩ | ⟨u34,h⟩
 refine Zu u34 Yf ?_
 obtain ⟨x35,v36,h⟩:=h
 refine Zu u34 (Yo v36) (Zu u34 Yf ?_)
 obtain ⟨x37,v38,h⟩:=h
 refine Zu u34 (Yo v38) (GL.call h (Yt u34) rfl QP (vs:=[slv x35,slv x37,.func (.func 84) (List.toArray []) (List.toArray [])]) rfl ?_)
 rintro _ H40 ⟨r39,rfl,h⟩
 refine Zt u34 ?_
 exact Yj I3 r39 h
 refine Zk u34 (Zk u34 (Zk u34 (Zk u34 (Zk u34 (Zn u34 ?_)))))
 exact Yj I3 false h
 intro b31 H41 h
 replace h:=hR33 b31 H41 h
 refine Za (GL.nil ?_)
 exact Y1 I3 ⟨b31,rfl,h⟩
def Qab (C:Ctx) (p_s1:Sl) (p_s2:Sl) (p_eq:Value) (K:Bool→Heap→Prop) (H:Heap):Prop:=
 ift (((Sl.len p_s1:Int):Int) != (Sl.len p_s2:Int))
 (K false H)
 (lp (α:=Int) 0 H (fun x2 J3 H4=>
 ift (decide ((x2:Int) < (Sl.len p_s1:Int)))
 (ixa p_s1 x2 fun p6=>
 ldT H4 Qa.c (p6.1,p6.2+(x2:Int).toNat*9) fun x11=>
 nw (Qa.c Qa.zero) (fun b13 H14=>
 stT (b13,0) (Qa.c x11) (fun H15=>
 ixa p_s2 x2 fun p16=>
 ldT H15 Qa.c (p16.1,p16.2+(x2:Int).toNat*9) fun x21=>
 nw (Qa.c Qa.zero) (fun b23 H24=>
 stT (b23,0) (Qa.c x21) (fun H25=>
 ldT H25 Qa.c (b13,0) fun x26=>
 ldT H25 Qa.c (b23,0) fun x28=>
 callU Tryz.prog C p_eq [.agg (Qa.c x26).toArray,.agg (Qa.c x28).toArray] H25 (fun v H31=>∃ (r30:Bool),v=.bool r30∧
 ift (!r30)
 (K false H31)
 (J3 (w .i64 (x2+1)) H31))) H24) H15) H14) H4)
 (K true H4)))
theorem QbH (C p_s1 p_s2 p_eq K H) (h:Qab C p_s1 p_s2 p_eq K H):Qt C p_s1 p_s2 p_eq K H:=by
 refine Ye Tryz.func81 rfl Tryz.ntmps81 [(0,slv p_s1),(1,slv p_s2),(2,p_eq)] (Zo (Za (GL.nil (GC.seq (Zo (Zm (Zq (Zm (Zq (Zi (.bool (((Sl.len p_s1:Int):Int) != (Sl.len p_s2:Int))) (GL.nil (Yd h (fun u1 h=>?_) fun u1 h=>?_))))))))))))
 refine Zo (Za (GL.nil ?_))
 exact Y1 I3 ⟨false,rfl,h⟩
 refine GC.skip (GC.seq (Zo (Zm (Zq (Zm (GL.nil (GC.block (Yp h (fun x2=>[(17,.int .i64 x2),(1,slv p_s2),(2,p_eq),(15,slv p_s1),(16,.int .i64 (Sl.len p_s1:Int))]) ?_))))))))
 intro x2 H4 J3 h
 refine Zo (Zi (.bool (decide ((x2:Int) < (Sl.len p_s1:Int)))) (GL.nil (GC.seq (Yd h (fun u5 h=>?_) fun u5 h=>?_))))
 refine GC.skip (GC.seq (GC.block (Zo (Zm (Yx h fun p6 h=>?_)))))
 obtain ⟨x11,v12,h⟩:=h
 refine Zv (OV.loadT rfl rfl rfl v12) (GL.alloc (cs:=Qa.c Qa.zero) h trivial rfl rfl rfl ?_)
 intro b13 H14 h
 refine Za (GL.storeT (p:=(b13,0)) (vs:=Qa.c x11) h trivial rfl rfl rfl rfl ?_)
 intro H15 h
 refine GL.nil (Zo (Zm (Zm (Yx h fun p16 h=>?_))))
 obtain ⟨x21,v22,h⟩:=h
 refine Zv (OV.loadT rfl rfl rfl v22) (GL.alloc (cs:=Qa.c Qa.zero) h trivial rfl rfl rfl ?_)
 intro b23 H24 h
 refine GL.storeT (p:=(b23,0)) (vs:=Qa.c x21) h trivial rfl rfl rfl rfl ?_
 intro H25 h
 refine GL.nil (Zo (Zm ?_))
 obtain ⟨x26,v27,h⟩:=h
 refine Zv (OV.loadT rfl rfl rfl v27) ?_
 obtain ⟨x28,v29,h⟩:=h
 refine Zv (OV.loadT rfl rfl rfl v29) (GL.callU (xv:=p_eq) (vs:=[.agg (Qa.c x26).toArray,.agg (Qa.c x28).toArray]) h trivial rfl rfl rfl ?_)
 rintro _ H31 ⟨r30,rfl,h⟩
 refine Zv (OV.not rfl) (GL.nil (Yd h (fun u32 h=>?_) fun u32 h=>?_))
 refine Zo (Za (GL.nil ?_))
 exact Y1 I3 ⟨false,rfl,h⟩
 refine GC.skip_to (fun _ _ h=>h) (GC.region (Zi (.int .i64 (w .i64 (x2+1))) (Zm ?_)))
 exact Yj I3 (w .i64 (x2+1)) h
 refine GC.exit_to (fun _ _ h=>h) (Zo (Za (GL.nil ?_)))
 exact Y1 I3 ⟨true,rfl,h⟩
def Qjo (C:Ctx) (p_a:Qa) (p_b:Qa) (K:Bool→Heap→Prop) (H:Heap):Prop:=
 nw (Qa.c p_a) (fun b1 H2=>
 nw (Qa.c p_b) (fun b3 H4=>
 ldI H4 .u8 ((b1,0).1,(b1,0).2+0) fun x5=>
 ldI H4 .u8 ((b3,0).1,(b3,0).2+0) fun x7=>
 jn (α:=Bool) (fun b9 H17=>
 jn (α:=Bool) (fun b18 H28=>
 jn (α:=Bool) (fun b29 H39=>
 K b29 H39)
 (fun J30=>ift b18
 (ldL H28 ((b1,0).1,(b1,0).2+8) fun x33=>
 ldL H28 ((b3,0).1,(b3,0).2+8) fun x35=>
 Qt C x33 x35 (.func (.func 82) (List.toArray []) (List.toArray []):Value) (fun r37 H38=>
 J30 r37 H38) H28)
 (J30 false H28)))
 (fun J19=>ift b9
 (ldT H17 Qb.c ((b1,0).1,(b1,0).2+4) fun x22=>
 ldT H17 Qb.c ((b3,0).1,(b3,0).2+4) fun x24=>
 QbN C x22 x24 (fun r26 H27=>
 J19 r26 H27) H17)
 (J19 false H17)))
 (fun J10=>ift ((x5:Int) == x7)
 (ldS H4 ((b1,0).1,(b1,0).2+3) fun x13=>
 ldS H4 ((b3,0).1,(b3,0).2+3) fun x15=>
 J10 (x13 == x15) H4)
 (J10 false H4))) H2) H
theorem QnK (C p_a p_b K H) (h:Qjo C p_a p_b K H):QcO C p_a p_b K H:=by
 refine Ye Tryz.func82 rfl Tryz.ntmps82 [(0,.agg (Qa.c p_a).toArray),(1,.agg (Qa.c p_b).toArray)] (Zo (GL.box (v:=.agg (Qa.c p_a).toArray) (cs:=Qa.c p_a) h trivial rfl rfl rfl ?_))
 intro b1 H2 h
 refine GL.box (v:=.agg (Qa.c p_b).toArray) (cs:=Qa.c p_b) h trivial rfl rfl rfl ?_
 intro b3 H4 h
 refine Za (GL.nil (Zo (Zf (Yl h fun x5 h=>?_))))
 refine Zf (Yl h fun x7 h=>?_)
 refine Zi (.bool ((x5:Int) == x7)) (Zm ?_)
 obtain ⟨J10,h,hR11⟩:=h
 refine GL.cut (α:=Bool) 6 J10 (fun b9=>[(16,.bool b9),(2,pv (some (b1,0))),(3,pv (some (b3,0)))]) ?_ ?_
 rcases h.em with ⟨u12,h⟩ | ⟨u12,h⟩
 refine Zu u12 Yf ?_
 obtain ⟨x13,v14,h⟩:=h
 refine Zu u12 (Yo v14) (Zu u12 Yf ?_)
 obtain ⟨x15,v16,h⟩:=h
 refine Zu u12 (Yo v16) (Zu u12 (OV.sbin (a:=x13) (b:=x15) (v:=.bool (x13 == x15)) rfl rfl rfl) (Zt u12 ?_))
 exact Yj I3 (x13 == x15) h
 refine Zk u12 (Zk u12 (Zk u12 (Zk u12 (Zk u12 (Zn u12 ?_)))))
 exact Yj I3 false h
 intro b9 H17 h
 replace h:=hR11 b9 H17 h
 refine Zm ?_
 obtain ⟨J19,h,hR20⟩:=h
 refine GL.cut (α:=Bool) 6 J19 (fun b18=>[(23,.bool b18),(2,pv (some (b1,0))),(3,pv (some (b3,0)))]) ?_ ?_
 rcases h.em with ⟨u21,h⟩ | ⟨u21,h⟩
 refine Zu u21 Yf ?_
 obtain ⟨x22,v23,h⟩:=h
 refine Zu u21 (OV.loadT rfl rfl rfl v23) (Zu u21 Yf ?_)
 obtain ⟨x24,v25,h⟩:=h
 refine Zu u21 (OV.loadT rfl rfl rfl v25) (GL.call h (Yt u21) rfl Qiq (vs:=[.agg (Qb.c x22).toArray,.agg (Qb.c x24).toArray]) rfl ?_)
 rintro _ H27 ⟨r26,rfl,h⟩
 refine Zt u21 ?_
 exact Yj I3 r26 h
 refine Zk u21 (Zk u21 (Zk u21 (Zk u21 (Zk u21 (Zn u21 ?_)))))
 exact Yj I3 false h
 intro b18 H28 h
 replace h:=hR20 b18 H28 h
 refine Zm ?_
 obtain ⟨J30,h,hR31⟩:=h
 refine GL.cut (α:=Bool) 6 J30 (fun b29=>[(30,.bool b29)]) ?_ ?_
 rcases h.em with ⟨u32,h⟩ | ⟨u32,h⟩
 refine Zu u32 Yf ?_
 obtain ⟨x33,v34,h⟩:=h
 refine Zu u32 (Yo v34) (Zu u32 Yf ?_)
 obtain ⟨x35,v36,h⟩:=h
 refine Zu u32 (Yo v36) (GL.call h (Yt u32) rfl QK (vs:=[slv x33,slv x35,.func (.func 82) (List.toArray []) (List.toArray [])]) rfl ?_)
 rintro _ H38 ⟨r37,rfl,h⟩
 refine Zt u32 ?_
 exact Yj I3 r37 h
 refine Zk u32 (Zk u32 (Zk u32 (Zk u32 (Zk u32 (Zn u32 ?_)))))
 exact Yj I3 false h
 intro b29 H39 h
 replace h:=hR31 b29 H39 h
 refine Za (GL.nil ?_)
 exact Y1 I3 ⟨b29,rfl,h⟩
def QR (C:Ctx) (p_s1:Sl) (p_s2:Sl) (p_eq:Value) (K:Bool→Heap→Prop) (H:Heap):Prop:=
 ift (((Sl.len p_s1:Int):Int) != (Sl.len p_s2:Int))
 (K false H)
 (lp (α:=Int) 0 H (fun x2 J3 H4=>
 ift (decide ((x2:Int) < (Sl.len p_s1:Int)))
 (ixa p_s1 x2 fun p6=>
 ldT H4 Qc.c (p6.1,p6.2+(x2:Int).toNat*5) fun x11=>
 nw (Qc.c Qc.zero) (fun b13 H14=>
 stT (b13,0) (Qc.c x11) (fun H15=>
 ixa p_s2 x2 fun p16=>
 ldT H15 Qc.c (p16.1,p16.2+(x2:Int).toNat*5) fun x21=>
 nw (Qc.c Qc.zero) (fun b23 H24=>
 stT (b23,0) (Qc.c x21) (fun H25=>
 ldT H25 Qc.c (b13,0) fun x26=>
 ldT H25 Qc.c (b23,0) fun x28=>
 callU Tryz.prog C p_eq [.agg (Qc.c x26).toArray,.agg (Qc.c x28).toArray] H25 (fun v H31=>∃ (r30:Bool),v=.bool r30∧
 ift (!r30)
 (K false H31)
 (J3 (w .i64 (x2+1)) H31))) H24) H15) H14) H4)
 (K true H4)))
theorem QaG (C p_s1 p_s2 p_eq K H) (h:QR C p_s1 p_s2 p_eq K H):Qs C p_s1 p_s2 p_eq K H:=by
 refine Ye Tryz.func83 rfl Tryz.ntmps83 [(0,slv p_s1),(1,slv p_s2),(2,p_eq)] (Zo (Za (GL.nil (GC.seq (Zo (Zm (Zq (Zm (Zq (Zi (.bool (((Sl.len p_s1:Int):Int) != (Sl.len p_s2:Int))) (GL.nil (Yd h (fun u1 h=>?_) fun u1 h=>?_))))))))))))
 refine Zo (Za (GL.nil ?_))
 exact Y1 I3 ⟨false,rfl,h⟩
 refine GC.skip (GC.seq (Zo (Zm (Zq (Zm (GL.nil (GC.block (Yp h (fun x2=>[(17,.int .i64 x2),(1,slv p_s2),(2,p_eq),(15,slv p_s1),(16,.int .i64 (Sl.len p_s1:Int))]) ?_))))))))
 intro x2 H4 J3 h
 refine Zo (Zi (.bool (decide ((x2:Int) < (Sl.len p_s1:Int)))) (GL.nil (GC.seq (Yd h (fun u5 h=>?_) fun u5 h=>?_))))
 refine GC.skip (GC.seq (GC.block (Zo (Zm (Yx h fun p6 h=>?_)))))
 obtain ⟨x11,v12,h⟩:=h
 refine Zv (OV.loadT rfl rfl rfl v12) (GL.alloc (cs:=Qc.c Qc.zero) h trivial rfl rfl rfl ?_)
 intro b13 H14 h
 refine Za (GL.storeT (p:=(b13,0)) (vs:=Qc.c x11) h trivial rfl rfl rfl rfl ?_)
 intro H15 h
 refine GL.nil (Zo (Zm (Zm (Yx h fun p16 h=>?_))))
 obtain ⟨x21,v22,h⟩:=h
 refine Zv (OV.loadT rfl rfl rfl v22) (GL.alloc (cs:=Qc.c Qc.zero) h trivial rfl rfl rfl ?_)
 intro b23 H24 h
 refine GL.storeT (p:=(b23,0)) (vs:=Qc.c x21) h trivial rfl rfl rfl rfl ?_
 intro H25 h
 refine GL.nil (Zo (Zm ?_))
 obtain ⟨x26,v27,h⟩:=h
 refine Zv (OV.loadT rfl rfl rfl v27) ?_
 obtain ⟨x28,v29,h⟩:=h
 refine Zv (OV.loadT rfl rfl rfl v29) (GL.callU (xv:=p_eq) (vs:=[.agg (Qc.c x26).toArray,.agg (Qc.c x28).toArray]) h trivial rfl rfl rfl ?_)
 rintro _ H31 ⟨r30,rfl,h⟩
 refine Zv (OV.not rfl) (GL.nil (Yd h (fun u32 h=>?_) fun u32 h=>?_))
 refine Zo (Za (GL.nil ?_))
 exact Y1 I3 ⟨false,rfl,h⟩
 refine GC.skip_to (fun _ _ h=>h) (GC.region (Zi (.int .i64 (w .i64 (x2+1))) (Zm ?_)))
 exact Yj I3 (w .i64 (x2+1)) h
 refine GC.exit_to (fun _ _ h=>h) (Zo (Za (GL.nil ?_)))
 exact Y1 I3 ⟨true,rfl,h⟩
def QgZ (C:Ctx) (p_a:Qc) (p_b:Qc) (K:Bool→Heap→Prop) (H:Heap):Prop:=
 nw (Qc.c p_a) (fun b1 H2=>
 nw (Qc.c p_b) (fun b3 H4=>
 ldI H4 .u8 ((b1,0).1,(b1,0).2+0) fun x5=>
 ldI H4 .u8 ((b3,0).1,(b3,0).2+0) fun x7=>
 jn (α:=Bool) (fun b9 H17=>
 jn (α:=Bool) (fun b18 H28=>
 K b18 H28)
 (fun J19=>ift b9
 (ldL H17 ((b1,0).1,(b1,0).2+4) fun x22=>
 ldL H17 ((b3,0).1,(b3,0).2+4) fun x24=>
 Qt C x22 x24 (.func (.func 82) (List.toArray []) (List.toArray []):Value) (fun r26 H27=>
 J19 r26 H27) H17)
 (J19 false H17)))
 (fun J10=>ift ((x5:Int) == x7)
 (ldS H4 ((b1,0).1,(b1,0).2+3) fun x13=>
 ldS H4 ((b3,0).1,(b3,0).2+3) fun x15=>
 J10 (x13 == x15) H4)
 (J10 false H4))) H2) H
theorem QlK (C p_a p_b K H) (h:QgZ C p_a p_b K H):QbG C p_a p_b K H:=by
 refine Ye Tryz.func84 rfl Tryz.ntmps84 [(0,.agg (Qc.c p_a).toArray),(1,.agg (Qc.c p_b).toArray)] (Zo (GL.box (v:=.agg (Qc.c p_a).toArray) (cs:=Qc.c p_a) h trivial rfl rfl rfl ?_))
 intro b1 H2 h
 refine GL.box (v:=.agg (Qc.c p_b).toArray) (cs:=Qc.c p_b) h trivial rfl rfl rfl ?_
 intro b3 H4 h
 refine Za (GL.nil (Zo (Zf (Yl h fun x5 h=>?_))))
 refine Zf (Yl h fun x7 h=>?_)
 refine Zi (.bool ((x5:Int) == x7)) (Zm ?_)
 obtain ⟨J10,h,hR11⟩:=h
 refine GL.cut (α:=Bool) 6 J10 (fun b9=>[(16,.bool b9),(2,pv (some (b1,0))),(3,pv (some (b3,0)))]) ?_ ?_
 rcases h.em with ⟨u12,h⟩ | ⟨u12,h⟩
 refine Zu u12 Yf ?_
 obtain ⟨x13,v14,h⟩:=h
 refine Zu u12 (Yo v14) (Zu u12 Yf ?_)
 obtain ⟨x15,v16,h⟩:=h
 refine Zu u12 (Yo v16) (Zu u12 (OV.sbin (a:=x13) (b:=x15) (v:=.bool (x13 == x15)) rfl rfl rfl) (Zt u12 ?_))
 exact Yj I3 (x13 == x15) h
 refine Zk u12 (Zk u12 (Zk u12 (Zk u12 (Zk u12 (Zn u12 ?_)))))
 exact Yj I3 false h
 intro b9 H17 h
 replace h:=hR11 b9 H17 h
 refine Zm ?_
 obtain ⟨J19,h,hR20⟩:=h
 refine GL.cut (α:=Bool) 6 J19 (fun b18=>[(23,.bool b18)]) ?_ ?_
 rcases h.em with ⟨u21,h⟩ | ⟨u21,h⟩
 refine Zu u21 Yf ?_
 obtain ⟨x22,v23,h⟩:=h
 refine Zu u21 (Yo v23) (Zu u21 Yf ?_)
 obtain ⟨x24,v25,h⟩:=h
 refine Zu u21 (Yo v25) (GL.call h (Yt u21) rfl QK (vs:=[slv x22,slv x24,.func (.func 82) (List.toArray []) (List.toArray [])]) rfl ?_)
 rintro _ H27 ⟨r26,rfl,h⟩
 refine Zt u21 ?_
 exact Yj I3 r26 h
 refine Zk u21 (Zk u21 (Zk u21 (Zk u21 (Zk u21 (Zn u21 ?_)))))
 exact Yj I3 false h
 intro b18 H28 h
 replace h:=hR20 b18 H28 h
 refine Za (GL.nil ?_)
 exact Y1 I3 ⟨b18,rfl,h⟩
def Q4 (C:Ctx) (p_s1:Sl) (p_s2:Sl) (p_eq:Value) (K:Bool→Heap→Prop) (H:Heap):Prop:=
 ift (((Sl.len p_s1:Int):Int) != (Sl.len p_s2:Int))
 (K false H)
 (lp (α:=Int) 0 H (fun x2 J3 H4=>
 ift (decide ((x2:Int) < (Sl.len p_s1:Int)))
 (ixa p_s1 x2 fun p6=>
 ldT H4 Ql.c (p6.1,p6.2+(x2:Int).toNat*4) fun x11=>
 nw (Ql.c Ql.zero) (fun b13 H14=>
 stT (b13,0) (Ql.c x11) (fun H15=>
 ixa p_s2 x2 fun p16=>
 ldT H15 Ql.c (p16.1,p16.2+(x2:Int).toNat*4) fun x21=>
 nw (Ql.c Ql.zero) (fun b23 H24=>
 stT (b23,0) (Ql.c x21) (fun H25=>
 ldT H25 Ql.c (b13,0) fun x26=>
 ldT H25 Ql.c (b23,0) fun x28=>
 callU Tryz.prog C p_eq [.agg (Ql.c x26).toArray,.agg (Ql.c x28).toArray] H25 (fun v H31=>∃ (r30:Bool),v=.bool r30∧
 ift (!r30)
 (K false H31)
 (J3 (w .i64 (x2+1)) H31))) H24) H15) H14) H4)
 (K true H4)))
theorem Qbl (C p_s1 p_s2 p_eq K H) (h:Q4 C p_s1 p_s2 p_eq K H):Qy C p_s1 p_s2 p_eq K H:=by
 refine Ye Tryz.func85 rfl Tryz.ntmps85 [(0,slv p_s1),(1,slv p_s2),(2,p_eq)] (Zo (Za (GL.nil (GC.seq (Zo (Zm (Zq (Zm (Zq (Zi (.bool (((Sl.len p_s1:Int):Int) != (Sl.len p_s2:Int))) (GL.nil (Yd h (fun u1 h=>?_) fun u1 h=>?_))))))))))))
 refine Zo (Za (GL.nil ?_))
 exact Y1 I3 ⟨false,rfl,h⟩
 refine GC.skip (GC.seq (Zo (Zm (Zq (Zm (GL.nil (GC.block (Yp h (fun x2=>[(17,.int .i64 x2),(1,slv p_s2),(2,p_eq),(15,slv p_s1),(16,.int .i64 (Sl.len p_s1:Int))]) ?_))))))))
 intro x2 H4 J3 h
 refine Zo (Zi (.bool (decide ((x2:Int) < (Sl.len p_s1:Int)))) (GL.nil (GC.seq (Yd h (fun u5 h=>?_) fun u5 h=>?_))))
 refine GC.skip (GC.seq (GC.block (Zo (Zm (Yx h fun p6 h=>?_)))))
 obtain ⟨x11,v12,h⟩:=h
 refine Zv (OV.loadT rfl rfl rfl v12) (GL.alloc (cs:=Ql.c Ql.zero) h trivial rfl rfl rfl ?_)
 intro b13 H14 h
 refine Za (GL.storeT (p:=(b13,0)) (vs:=Ql.c x11) h trivial rfl rfl rfl rfl ?_)
 intro H15 h
 refine GL.nil (Zo (Zm (Zm (Yx h fun p16 h=>?_))))
 obtain ⟨x21,v22,h⟩:=h
 refine Zv (OV.loadT rfl rfl rfl v22) (GL.alloc (cs:=Ql.c Ql.zero) h trivial rfl rfl rfl ?_)
 intro b23 H24 h
 refine GL.storeT (p:=(b23,0)) (vs:=Ql.c x21) h trivial rfl rfl rfl rfl ?_
 intro H25 h
 refine GL.nil (Zo (Zm ?_))
 obtain ⟨x26,v27,h⟩:=h
 refine Zv (OV.loadT rfl rfl rfl v27) ?_
 obtain ⟨x28,v29,h⟩:=h
 refine Zv (OV.loadT rfl rfl rfl v29) (GL.callU (xv:=p_eq) (vs:=[.agg (Ql.c x26).toArray,.agg (Ql.c x28).toArray]) h trivial rfl rfl rfl ?_)
 rintro _ H31 ⟨r30,rfl,h⟩
 refine Zv (OV.not rfl) (GL.nil (Yd h (fun u32 h=>?_) fun u32 h=>?_))
 refine Zo (Za (GL.nil ?_))
 exact Y1 I3 ⟨false,rfl,h⟩
 refine GC.skip_to (fun _ _ h=>h) (GC.region (Zi (.int .i64 (w .i64 (x2+1))) (Zm ?_)))
 exact Yj I3 (w .i64 (x2+1)) h
 refine GC.exit_to (fun _ _ h=>h) (Zo (Za (GL.nil ?_)))
 exact Y1 I3 ⟨true,rfl,h⟩
def Qlt (C:Ctx) (p_x:Ql) (p_y:Ql) (K:Bool→Heap→Prop) (H:Heap):Prop:=
 nw (Ql.c p_x) (fun b1 H2=>
 nw (Ql.c p_y) (fun b3 H4=>
 ldS H4 ((b1,0).1,(b1,0).2+2) fun x5=>
 ldS H4 ((b3,0).1,(b3,0).2+2) fun x7=>
 jn (α:=Bool) (fun b9 H19=>
 K b9 H19)
 (fun J10=>ift (x5 == x7)
 (ldL H4 ((b1,0).1,(b1,0).2+3) fun x13=>
 ldL H4 ((b3,0).1,(b3,0).2+3) fun x15=>
 Qs C x13 x15 (.func (.func 84) (List.toArray []) (List.toArray []):Value) (fun r17 H18=>
 J10 r17 H18) H4)
 (J10 false H4))) H2) H
theorem Qpd (C p_x p_y K H) (h:Qlt C p_x p_y K H):Qek C p_x p_y K H:=by
 refine Ye Tryz.func86 rfl Tryz.ntmps86 [(0,.agg (Ql.c p_x).toArray),(1,.agg (Ql.c p_y).toArray)] (Zo (GL.box (v:=.agg (Ql.c p_x).toArray) (cs:=Ql.c p_x) h trivial rfl rfl rfl ?_))
 intro b1 H2 h
 refine GL.box (v:=.agg (Ql.c p_y).toArray) (cs:=Ql.c p_y) h trivial rfl rfl rfl ?_
 intro b3 H4 h
 refine Za (GL.nil (Zo (Zf (Yl h fun x5 h=>?_))))
 refine Zf (Yl h fun x7 h=>?_)
 refine Zv (OV.sbin (a:=x5) (b:=x7) (v:=.bool (x5 == x7)) rfl rfl rfl) (Zm ?_)
 obtain ⟨J10,h,hR11⟩:=h
 refine GL.cut (α:=Bool) 6 J10 (fun b9=>[(16,.bool b9)]) ?_ ?_
 rcases h.em with ⟨u12,h⟩ | ⟨u12,h⟩
 refine Zu u12 Yf ?_
 obtain ⟨x13,v14,h⟩:=h
 refine Zu u12 (Yo v14) (Zu u12 Yf ?_)
 obtain ⟨x15,v16,h⟩:=h
 refine Zu u12 (Yo v16) (GL.call h (Yt u12) rfl QP (vs:=[slv x13,slv x15,.func (.func 84) (List.toArray []) (List.toArray [])]) rfl ?_)
 rintro _ H18 ⟨r17,rfl,h⟩
 refine Zt u12 ?_
 exact Yj I3 r17 h
 refine Zk u12 (Zk u12 (Zk u12 (Zk u12 (Zk u12 (Zn u12 ?_)))))
 exact Yj I3 false h
 intro b9 H19 h
 replace h:=hR11 b9 H19 h
 refine Za (GL.nil ?_)
 exact Y1 I3 ⟨b9,rfl,h⟩
def QmN (C:Ctx) (p_e:Qa) (K:Int→Heap→Prop) (H:Heap):Prop:=
 nw (Qa.c p_e) (fun b1 H2=>
 ldL H2 ((b1,0).1,(b1,0).2+8) fun x3=>
 QJ C x3 (.func (.func 91) (List.toArray []) (List.toArray []):Value) (fun r5 H6=>
 K (w .i64 (1+r5)) H6) H2) H
theorem Qqj (C p_e K H) (h:QmN C p_e K H):Qe2 C p_e K H:=by
 refine Ye Tryz.func91 rfl Tryz.ntmps91 [(0,.agg (Qa.c p_e).toArray)] (Zo (GL.box (v:=.agg (Qa.c p_e).toArray) (cs:=Qa.c p_e) h trivial rfl rfl rfl ?_))
 intro b1 H2 h
 refine Za (GL.nil (Zo (Zf (Yl h fun x3 h=>?_))))
 refine Zc h QcQ ?_
 rintro _ H6 ⟨r5,rfl,h⟩
 refine Zi (.int .i64 (w .i64 (1+r5))) (Za (GL.nil ?_))
 exact Y1 I3 ⟨(w .i64 (1+r5)),rfl,h⟩
def Qnv (C:Ctx) (p_e:Qa) (K:Bool→Heap→Prop) (H:Heap):Prop:=
 nw (Qa.c p_e) (fun b1 H2=>
 ldT H2 Qa.c (b1,0) fun x3=>
 Qdd C x3 false (fun r5 H6=>
 K r5 H6) H2) H
theorem QqP (C p_e K H) (h:Qnv C p_e K H):Qdc C p_e K H:=by
 refine Ye Tryz.func92 rfl Tryz.ntmps92 [(0,.agg (Qa.c p_e).toArray)] (Zo (GL.box (v:=.agg (Qa.c p_e).toArray) (cs:=Qa.c p_e) h trivial rfl rfl rfl ?_))
 intro b1 H2 h
 refine Za (GL.nil (Zo ?_))
 obtain ⟨x3,v4,h⟩:=h
 refine Zv (OV.loadT rfl rfl rfl v4) (Zc h Qkb ?_)
 rintro _ H6 ⟨r5,rfl,h⟩
 refine Za (GL.nil ?_)
 exact Y1 I3 ⟨r5,rfl,h⟩
def Qg1 (C:Ctx) (p_w:Option (Nat×Nat)) (p_e:Qa) (K:Heap→Prop) (H:Heap):Prop:=
 nw (Qa.c p_e) (fun b1 H2=>
 ldI H2 .u8 ((b1,0).1,(b1,0).2+0) fun x3=>
 ift ((x3:Int) == 1)
 (dr H2 fun Hs6=>
 nck p_w fun p8=>
 ldT Hs6 Qb.c ((b1,0).1,(b1,0).2+4) fun x10=>
 Qj0 C x10 (fun r13 H14=>
 Heap.le Hs6 H14∧
 Qj C (some (p8.1,p8.2+0)) r13 (fun r16 r17 H18=>
 Heap.le Hs6 H18∧
 K H18) H14) H2)
 (ift ((x3:Int) == 2)
 (dr H2 fun Hs20=>
 nck p_w fun p22=>
 ldS Hs20 ((b1,0).1,(b1,0).2+3) fun x24=>
 Qj C (some (p22.1,p22.2+0)) x24 (fun r27 r28 H29=>
 Heap.le Hs20 H29∧
 K H29) H2)
 (ift ((x3:Int) == 3)
 (nck p_w fun p31=>
 Qo C (some (p31.1,p31.2+0)) 95 (fun r33 H34=>
 K H34) H2)
 (ift ((x3:Int) == 4)
 (ldL H2 ((b1,0).1,(b1,0).2+8) fun x36=>
 QF C p_w x36 (.func (.func 93) (List.toArray [pv p_w]) (List.toArray []):Value) (fun H38=>
 K H38) H2)
 (ift ((x3:Int) == 5)
 (dr H2 fun Hs40=>
 nck p_w fun p42=>
 ldS Hs40 ((b1,0).1,(b1,0).2+3) fun x44=>
 Qj C (some (p42.1,p42.2+0)) x44 (fun r47 r48 H49=>
 Heap.le Hs40 H49∧
 ldL H49 ((b1,0).1,(b1,0).2+8) fun x50=>
 ift (decide (((Sl.len x50:Int):Int) > 0))
 (ldL H49 ((b1,0).1,(b1,0).2+8) fun x53=>
 QF C p_w x53 (.func (.func 93) (List.toArray [pv p_w]) (List.toArray []):Value) (fun H55=>
 K H55) H49)
 (K H49)) H2)
 (ift ((x3:Int) == 6)
 (ldT H2 Qa.c (b1,0) fun x57=>
 Qfo C p_w x57 (fun H59=>
 K H59) H2)
 (ift ((x3:Int) == 7)
 (ldT H2 Qa.c (b1,0) fun x61=>
 QeY C p_w x61 (fun H63=>
 K H63) H2)
 (ift ((x3:Int) == 8)
 (nw ([sv [40,105,102,32],sv [32,116,104,101,110,32],sv [32,101,108,115,101,32]]) (fun b65 H66=>
 lp (α:=Int) 0 H66 (fun x67 J68 H69=>
 ift (decide ((x67:Int) < (Sl.len (Sl.of (some (b65,0)) 3 3):Int)))
 (ixa (Sl.of (some (b65,0)) 3 3) x67 fun p71=>
 ldS H69 (p71.1,p71.2+(x67:Int).toNat*1) fun x76=>
 nck p_w fun p78=>
 Qj C (some (p78.1,p78.2+0)) x76 (fun r80 r81 H82=>
 ldL H82 ((b1,0).1,(b1,0).2+8) fun x83=>
 ixa x83 x67 fun p85=>
 ldT H82 Qa.c (p85.1,p85.2+(x67:Int).toNat*9) fun x90=>
 Qaj C p_w x90 (fun H92=>
 J68 (w .i64 (x67+1)) H92) H82) H69)
 (nck p_w fun p93=>
 Qo C (some (p93.1,p93.2+0)) 41 (fun r95 H96=>
 K H96) H69))) H2)
 (K H2))))))))) H
theorem QlM (C p_w p_e K H) (h:Qg1 C p_w p_e K H):Qaj C p_w p_e K H:=by
 refine Ye Tryz.func93 rfl Tryz.ntmps93 [(0,pv p_w),(1,.agg (Qa.c p_e).toArray)] (Zo (GL.box (v:=.agg (Qa.c p_e).toArray) (cs:=Qa.c p_e) h trivial rfl rfl rfl ?_))
 intro b1 H2 h
 refine GL.nil (Zo (Zf (Yl h fun x3 h=>?_)))
 refine GL.nil (GC.block (Zo (Zi (.bool ((x3:Int) == 1)) (Za (GL.nil (Yd h (fun u5 h=>?_) fun u5 h=>?_))))))
 obtain ⟨Hs6,hle7,h⟩:=h
 refine GC.any (Hs:=Hs6) (by kernel_rfl) hle7 (Zp 0 rfl Ym ?_)
 obtain ⟨p8,hp9,h⟩:=h
 refine Zp 1 rfl (OV.nilCheck (q:=p_w) rfl hp9) (Zp 2 rfl Yf (Zp 3 rfl Yf ?_))
 obtain ⟨x10,v11,h⟩:=h
 refine Zp 4 rfl (OV.loadT rfl rfl rfl v11) (GA.eff 5 rfl (by kernel_rfl) (Zc h QqD ?_))
 rintro _ H14 ⟨r13,rfl,h⟩
 obtain ⟨hle12,h⟩:=h
 refine GA.back hle12 (GA.eff 6 rfl (by kernel_rfl) (Zc h Qm ?_))
 rintro _ H18 ⟨r16,r17,rfl,h⟩
 obtain ⟨hle15,h⟩:=h
 refine GA.back hle15 (GA.done (by kernel_rfl) ?_)
 exact GL.ends (fun _ _ hf hs=>QC rfl hf hs ⟨rfl,h⟩)
 refine Zo (Zi (.bool ((x3:Int) == 2)) (Za (GL.nil (Yd h (fun u19 h=>?_) fun u19 h=>?_))))
 obtain ⟨Hs20,hle21,h⟩:=h
 refine GC.any (Hs:=Hs20) (by kernel_rfl) hle21 (Zp 0 rfl Ym ?_)
 obtain ⟨p22,hp23,h⟩:=h
 refine Zp 1 rfl (OV.nilCheck (q:=p_w) rfl hp23) (Zp 2 rfl Yf (Zp 3 rfl Yf ?_))
 obtain ⟨x24,v25,h⟩:=h
 refine Zp 4 rfl (Yo v25) (GA.eff 5 rfl (by kernel_rfl) (Zc h Qm ?_))
 rintro _ H29 ⟨r27,r28,rfl,h⟩
 obtain ⟨hle26,h⟩:=h
 refine GA.back hle26 (GA.done (by kernel_rfl) ?_)
 exact GL.ends (fun _ _ hf hs=>QC rfl hf hs ⟨rfl,h⟩)
 refine Zo (Zi (.bool ((x3:Int) == 3)) (Za (GL.nil (Yd h (fun u30 h=>?_) fun u30 h=>?_))))
 refine GC.region (Zm ?_)
 obtain ⟨p31,hp32,h⟩:=h
 refine Zv (OV.nilCheck (q:=p_w) rfl hp32) (Zf (Zc h Qq ?_))
 rintro _ H34 ⟨r33,rfl,h⟩
 exact GL.ends (fun _ _ hf hs=>QC rfl hf hs ⟨rfl,h⟩)
 refine Zo (Zi (.bool ((x3:Int) == 4)) (Za (GL.nil (Yd h (fun u35 h=>?_) fun u35 h=>?_))))
 refine GC.region (Zm (Zf (Yl h fun x36 h=>?_)))
 refine Zm (Zv (OV.makeFunc (vs:=[pv p_w]) (us:=[]) rfl rfl) (Zc h Q2 ?_))
 rintro _ H38 ⟨rfl,h⟩
 exact GL.ends (fun _ _ hf hs=>QC rfl hf hs ⟨rfl,h⟩)
 refine Zo (Zi (.bool ((x3:Int) == 5)) (Za (GL.nil (Yd h (fun u39 h=>?_) fun u39 h=>?_))))
 refine GC.seq ?_
 obtain ⟨Hs40,hle41,h⟩:=h
 refine GC.any (Hs:=Hs40) (by kernel_rfl) hle41 (Zp 0 rfl Ym ?_)
 obtain ⟨p42,hp43,h⟩:=h
 refine Zp 1 rfl (OV.nilCheck (q:=p_w) rfl hp43) (Zp 2 rfl Yf (Zp 3 rfl Yf ?_))
 obtain ⟨x44,v45,h⟩:=h
 refine Zp 4 rfl (Yo v45) (GA.eff 5 rfl (by kernel_rfl) (Zc h Qm ?_))
 rintro _ H49 ⟨r47,r48,rfl,h⟩
 obtain ⟨hle46,h⟩:=h
 refine GA.back hle46 (GA.done (by kernel_rfl) (GL.nil (Zo (Zf (Yl h fun x50 h=>?_)))))
 refine Zq (Zi (.bool (decide (((Sl.len x50:Int):Int) > 0))) (GL.nil (Yd h (fun u52 h=>?_) fun u52 h=>?_)))
 refine GC.region (Zm (Zf (Yl h fun x53 h=>?_)))
 refine Zm (Zv (OV.makeFunc (vs:=[pv p_w]) (us:=[]) rfl rfl) (Zc h Q2 ?_))
 rintro _ H55 ⟨rfl,h⟩
 exact GL.ends (fun _ _ hf hs=>QC rfl hf hs ⟨rfl,h⟩)
 exact GC.ends (fun _ _ hf hs=>QC rfl hf hs ⟨rfl,h⟩)
 refine Zo (Zi (.bool ((x3:Int) == 6)) (Za (GL.nil (Yd h (fun u56 h=>?_) fun u56 h=>?_))))
 refine GC.region (Zm ?_)
 obtain ⟨x57,v58,h⟩:=h
 refine Zv (OV.loadT rfl rfl rfl v58) (Zc h QlY ?_)
 rintro _ H59 ⟨rfl,h⟩
 exact GL.ends (fun _ _ hf hs=>QC rfl hf hs ⟨rfl,h⟩)
 refine Zo (Zi (.bool ((x3:Int) == 7)) (Za (GL.nil (Yd h (fun u60 h=>?_) fun u60 h=>?_))))
 refine GC.region (Zm ?_)
 obtain ⟨x61,v62,h⟩:=h
 refine Zv (OV.loadT rfl rfl rfl v62) (Zc h QkO ?_)
 rintro _ H63 ⟨rfl,h⟩
 exact GL.ends (fun _ _ hf hs=>QC rfl hf hs ⟨rfl,h⟩)
 refine Zo (Zi (.bool ((x3:Int) == 8)) (Za (GL.nil (Yd h (fun u64 h=>?_) fun u64 h=>?_))))
 refine GC.seq (Zo (GL.buildSlice (cs:=[sv [40,105,102,32],sv [32,116,104,101,110,32],sv [32,101,108,115,101,32]]) h trivial rfl (vs:=[(0,sv [40,105,102,32]),(1,sv [32,116,104,101,110,32]),(2,sv [32,101,108,115,101,32])]) rfl ⟨9,fun _=>by kernel_rfl⟩ ?_))
 intro b65 H66 h
 refine Zq (Zm (GL.nil (GC.block (Yp h (fun x67=>[(71,.int .i64 x67),(0,pv p_w),(3,pv (some (b1,0))),(69,slv (Sl.of (some (b65,0)) 3 3)),(70,.int .i64 (Sl.len (Sl.of (some (b65,0)) 3 3):Int))]) ?_))))
 intro x67 H69 J68 h
 refine Zo (Zi (.bool (decide ((x67:Int) < (Sl.len (Sl.of (some (b65,0)) 3 3):Int)))) (GL.nil (GC.seq (Yd h (fun u70 h=>?_) fun u70 h=>?_))))
 refine GC.skip (GC.seq (GC.block (Zo (Zm (Yx h fun p71 h=>?_)))))
 refine Yl h fun x76 h=>?_
 refine Za (Za (GL.nil (Zo (Zm ?_))))
 obtain ⟨p78,hp79,h⟩:=h
 refine Zv (OV.nilCheck (q:=p_w) rfl hp79) (Zf (Zm (Zc h Qm ?_)))
 rintro _ H82 ⟨r80,r81,rfl,h⟩
 refine GL.nil (GC.region (Zm (Zf (Yl h fun x83 h=>?_))))
 refine Zm (Yx h fun p85 h=>?_)
 obtain ⟨x90,v91,h⟩:=h
 refine Zv (OV.loadT rfl rfl rfl v91) (Zc h Qaa ?_)
 rintro _ H92 ⟨rfl,h⟩
 refine GL.nil_to (fun _ _ h=>h) (GC.region (Zi (.int .i64 (w .i64 (x67+1))) (Zm ?_)))
 exact Yj I3 (w .i64 (x67+1)) h
 refine GC.exit_to (fun _ _ h=>h) (GC.region (Zm ?_))
 obtain ⟨p93,hp94,h⟩:=h
 refine Zv (OV.nilCheck (q:=p_w) rfl hp94) (Zf (Zc h Qq ?_))
 rintro _ H96 ⟨r95,rfl,h⟩
 exact GL.ends (fun _ _ hf hs=>QC rfl hf hs ⟨rfl,h⟩)
 exact GC.ends (fun _ _ hf hs=>QC rfl hf hs ⟨rfl,h⟩)
def Qmy (C:Ctx) (p_a:Qb) (p_b:Qb) (K:Bool→Heap→Prop) (H:Heap):Prop:=
 nw (Qb.c p_a) (fun b1 H2=>
 nw (Qb.c p_b) (fun b3 H4=>
 ldI H4 .u8 ((b1,0).1,(b1,0).2+0) fun x5=>
 ldI H4 .u8 ((b3,0).1,(b3,0).2+0) fun x7=>
 jn (α:=Bool) (fun b9 H17=>
 jn (α:=Bool) (fun b18 H26=>
 jn (α:=Bool) (fun b27 H37=>
 K b27 H37)
 (fun J28=>ift b18
 (ldL H26 ((b1,0).1,(b1,0).2+3) fun x31=>
 ldL H26 ((b3,0).1,(b3,0).2+3) fun x33=>
 QgJ C x31 x33 (fun r35 H36=>
 J28 r35 H36) H26)
 (J28 false H26)))
 (fun J19=>ift b9
 (ldS H17 ((b1,0).1,(b1,0).2+2) fun x22=>
 ldS H17 ((b3,0).1,(b3,0).2+2) fun x24=>
 J19 (x22 == x24) H17)
 (J19 false H17)))
 (fun J10=>ift ((x5:Int) == x7)
 (ldI H4 .i64 ((b1,0).1,(b1,0).2+1) fun x13=>
 ldI H4 .i64 ((b3,0).1,(b3,0).2+1) fun x15=>
 J10 ((x13:Int) == x15) H4)
 (J10 false H4))) H2) H
theorem Qp4 (C p_a p_b K H) (h:Qmy C p_a p_b K H):QbY C p_a p_b K H:=by
 refine Ye Tryz.func94 rfl Tryz.ntmps94 [(0,.agg (Qb.c p_a).toArray),(1,.agg (Qb.c p_b).toArray)] (Zo (GL.box (v:=.agg (Qb.c p_a).toArray) (cs:=Qb.c p_a) h trivial rfl rfl rfl ?_))
 intro b1 H2 h
 refine GL.box (v:=.agg (Qb.c p_b).toArray) (cs:=Qb.c p_b) h trivial rfl rfl rfl ?_
 intro b3 H4 h
 refine Za (GL.nil (Zo (Zf (Yl h fun x5 h=>?_))))
 refine Zf (Yl h fun x7 h=>?_)
 refine Zi (.bool ((x5:Int) == x7)) (Zm ?_)
 obtain ⟨J10,h,hR11⟩:=h
 refine GL.cut (α:=Bool) 6 J10 (fun b9=>[(16,.bool b9),(2,pv (some (b1,0))),(3,pv (some (b3,0)))]) ?_ ?_
 rcases h.em with ⟨u12,h⟩ | ⟨u12,h⟩
 refine Zu u12 Yf ?_
 obtain ⟨x13,v14,h⟩:=h
 refine Zu u12 (Yo v14) (Zu u12 Yf ?_)
 obtain ⟨x15,v16,h⟩:=h
 refine Zu u12 (Yo v16) (Zu u12 (OV.ibin (v:=.bool ((x13:Int) == x15)) rfl rfl rfl) (Zt u12 ?_))
 exact Yj I3 ((x13:Int) == x15) h
 refine Zk u12 (Zk u12 (Zk u12 (Zk u12 (Zk u12 (Zn u12 ?_)))))
 exact Yj I3 false h
 intro b9 H17 h
 replace h:=hR11 b9 H17 h
 refine Zm ?_
 obtain ⟨J19,h,hR20⟩:=h
 refine GL.cut (α:=Bool) 6 J19 (fun b18=>[(23,.bool b18),(2,pv (some (b1,0))),(3,pv (some (b3,0)))]) ?_ ?_
 rcases h.em with ⟨u21,h⟩ | ⟨u21,h⟩
 refine Zu u21 Yf ?_
 obtain ⟨x22,v23,h⟩:=h
 refine Zu u21 (Yo v23) (Zu u21 Yf ?_)
 obtain ⟨x24,v25,h⟩:=h
 refine Zu u21 (Yo v25) (Zu u21 (OV.sbin (a:=x22) (b:=x24) (v:=.bool (x22 == x24)) rfl rfl rfl) (Zt u21 ?_))
 exact Yj I3 (x22 == x24) h
 refine Zk u21 (Zk u21 (Zk u21 (Zk u21 (Zk u21 (Zn u21 ?_)))))
 exact Yj I3 false h
 intro b18 H26 h
 replace h:=hR20 b18 H26 h
 refine Zm ?_
 obtain ⟨J28,h,hR29⟩:=h
 refine GL.cut (α:=Bool) 6 J28 (fun b27=>[(30,.bool b27)]) ?_ ?_
 rcases h.em with ⟨u30,h⟩ | ⟨u30,h⟩
 refine Zu u30 Yf ?_
 obtain ⟨x31,v32,h⟩:=h
 refine Zu u30 (Yo v32) (Zu u30 Yf ?_)
 obtain ⟨x33,v34,h⟩:=h
 refine Zu u30 (Yo v34) (GL.call h (Yt u30) rfl QnN (vs:=[slv x31,slv x33]) rfl ?_)
 rintro _ H36 ⟨r35,rfl,h⟩
 refine Zt u30 ?_
 exact Yj I3 r35 h
 refine Zk u30 (Zk u30 (Zk u30 (Zk u30 (Zk u30 (Zn u30 ?_)))))
 exact Yj I3 false h
 intro b27 H37 h
 replace h:=hR29 b27 H37 h
 refine Za (GL.nil ?_)
 exact Y1 I3 ⟨b27,rfl,h⟩
def Qld (C:Ctx) (p_l:Sl) (p_most:Int) (K:Int→Heap→Prop) (H:Heap):Prop:=
 lp (α:=Int×Int) (0,0) H (fun x1 J2 H3=>
 ift ((decide ((x1.2:Int) < (Sl.len p_l:Int))) && (decide ((x1.1:Int) < p_most)))
 (ixa p_l x1.2 fun p6=>
 ldS H3 ((p6.1,p6.2+(x1.2:Int).toNat*2).1,(p6.1,p6.2+(x1.2:Int).toNat*2).2+0) fun x11=>
 ixa p_l x1.2 fun p13=>
 ldL H3 ((p13.1,p13.2+(x1.2:Int).toNat*2).1,(p13.1,p13.2+(x1.2:Int).toNat*2).2+1) fun x18=>
 QaW C x18 (w .i64 (p_most - (w .i64 ((w .i64 (x1.1+1))+(w .i64 (Int.tdiv (List.length x11:Int) 50)))))) (fun r20 H21=>
 J2 ((w .i64 ((w .i64 ((w .i64 (x1.1+1))+(w .i64 (Int.tdiv (List.length x11:Int) 50))))+r20)),(w .i64 (x1.2+1))) H21) H3)
 (K x1.1 H3))
theorem QoX (C p_l p_most K H) (h:Qld C p_l p_most K H):QaW C p_l p_most K H:=by
 refine Ye Tryz.func96 rfl Tryz.ntmps96 [(0,slv p_l),(1,.int .i64 p_most)] (Zo (Za (GL.nil (Zo (Za (GL.nil (GC.seq (Zo (Za (GL.nil (GC.block (Yp h (fun x1=>[(5,.int .i64 x1.1),(6,.int .i64 x1.2),(0,slv p_l),(1,.int .i64 p_most)]) ?_))))))))))))
 intro x1 H3 J2 h
 refine GC.seq (Zo (Zm (Zm (Zq (Zi (.bool (decide ((x1.2:Int) < (Sl.len p_l:Int)))) (Zm (GL.cut0 4 [(15,.bool ((decide ((x1.2:Int) < (Sl.len p_l:Int))) && (decide ((x1.1:Int) < p_most)))),(0,slv p_l),(1,.int .i64 p_most),(5,.int .i64 x1.1),(6,.int .i64 x1.2)] ?_ ?_)))))))
 rcases Zb (decide ((x1.2:Int) < (Sl.len p_l:Int))) with u4 | u4
 refine Zu u4 Ym (Zu u4 Ym (Zu u4 (OV.ibin (v:=.bool (decide ((x1.1:Int) < p_most))) rfl rfl rfl) (Zt u4 ?_)))
 exact GL.jump0 (fun _ _ h=>h) () rfl ⟨(by rw [u4]; rfl),rfl,rfl,rfl,rfl,trivial⟩
 refine Zk u4 (Zk u4 (Zk u4 (Zn u4 ?_)))
 exact GL.jump0 (fun _ _ h=>h) () rfl ⟨(by rw [u4]; rfl),rfl,rfl,rfl,rfl,trivial⟩
 refine GL.nil (Yd h (fun u5 h=>?_) fun u5 h=>?_)
 refine GC.skip (GC.seq (GC.block (Zo (Zm (Zi (.int .i64 (w .i64 (x1.1+1))) (Zm (Zm (Yx h fun p6 h=>?_))))))))
 refine Zf (Yl h fun x11 h=>?_)
 refine Zr (Zv (OV.quo rfl rfl (by decide)) (Zi (.int .i64 (w .i64 ((w .i64 (x1.1+1))+(w .i64 (Int.tdiv (List.length x11:Int) 50))))) (Za (GL.nil (GC.region (Zm (Zm (Zm (Yx h fun p13 h=>?_)))))))))
 refine Zf (Yl h fun x18 h=>?_)
 refine Zm (Zm (Zi (.int .i64 (w .i64 (p_most - (w .i64 ((w .i64 (x1.1+1))+(w .i64 (Int.tdiv (List.length x11:Int) 50))))))) (Zc h QkY ?_)))
 rintro _ H21 ⟨r20,rfl,h⟩
 refine Zi (.int .i64 (w .i64 ((w .i64 ((w .i64 (x1.1+1))+(w .i64 (Int.tdiv (List.length x11:Int) 50))))+r20))) (Za (GL.nil_to (fun _ _ h=>h) (GC.region (Zm (Zi (.int .i64 (w .i64 (x1.2+1))) (Za ?_))))))
 exact Yj I3 ((w .i64 ((w .i64 ((w .i64 (x1.1+1))+(w .i64 (Int.tdiv (List.length x11:Int) 50))))+r20)),(w .i64 (x1.2+1))) h
 refine GC.exit_to (fun _ _ h=>h) (Zo (Zm (Za (GL.nil ?_))))
 exact Y1 I3 ⟨x1.1,rfl,h⟩
def Qlu (C:Ctx) (p_e:Qa) (v0:Nat×Nat) (v1:Nat×Nat) (K:Heap→Prop) (H:Heap):Prop:=
 nw (Qa.c p_e) (fun b1 H2=>
 ldI H2 .u8 ((b1,0).1,(b1,0).2+0) fun x3=>
 ift ((x3:Int) == 2)
 (ldL H2 v0 fun x6=>
 ldS H2 ((b1,0).1,(b1,0).2+3) fun x8=>
 Qbn C x6 x8 (fun r10 H11=>
 ift (!r10)
 (ldL H11 v0 fun x13=>
 ldS H11 ((b1,0).1,(b1,0).2+3) fun x15=>
 apd ([sv []]) 16 x13 ([sv x15]) 1 (fun r17 H18=>
 st v0 (slv r17) (fun H19=>
 K H19) H18) H11)
 (K H11)) H2)
 (ldL H2 ((b1,0).1,(b1,0).2+8) fun x20=>
 lp (α:=Int) 0 H2 (fun x22 J23 H24=>
 ift (decide ((x22:Int) < (Sl.len x20:Int)))
 (ixa x20 x22 fun p26=>
 ldT H24 Qa.c (p26.1,p26.2+(x22:Int).toNat*9) fun x31=>
 nw (Qa.c Qa.zero) (fun b33 H34=>
 stT (b33,0) (Qa.c x31) (fun H35=>
 ldV H35 v1 fun x36=>
 ldT H35 Qa.c (b33,0) fun x38=>
 callU Tryz.prog C x36 [.agg (Qa.c x38).toArray] H35 (fun v H40=>v=.tuple #[]∧
 J23 (w .i64 (x22+1)) H40)) H34) H24)
 (K H24)))) H
theorem Qpe (C p_e v0 v1 K H) (h:Qlu C p_e v0 v1 K H):Ql9 C p_e v0 v1 K H:=by
 refine Ye Tryz.func97 rfl Tryz.ntmps97 [(0,.agg (Qa.c p_e).toArray),(1,pv (some v0)),(2,pv (some v1))] (Zo (GL.box (v:=.agg (Qa.c p_e).toArray) (cs:=Qa.c p_e) h trivial rfl rfl rfl ?_))
 intro b1 H2 h
 refine GL.nil (GC.seq (Zo (Zf (Yl h fun x3 h=>?_))))
 refine Zi (.bool ((x3:Int) == 2)) (GL.nil (Yd h (fun u5 h=>?_) fun u5 h=>?_))
 refine GC.seq (Zo (Yl h fun x6 h=>?_))
 refine Zf (Yl h fun x8 h=>?_)
 refine Zc h QfG ?_
 rintro _ H11 ⟨r10,rfl,h⟩
 refine Zv (OV.not rfl) (GL.nil (Yd h (fun u12 h=>?_) fun u12 h=>?_))
 refine GC.region (Yl h fun x13 h=>?_)
 refine Zf (Yl h fun x15 h=>?_)
 refine GL.appendLit (s:=x13) (ys:=[sv x15]) (zc:=[sv []]) (bytes:=16) h trivial rfl (fun _=>trivial) rfl (fun _=>rfl) (fun _=>rfl) (vs:=[(0,sv x15)]) rfl ⟨9,fun _=>by kernel_rfl⟩ ⟨⟨_,_,_,rfl,rfl,rfl,rfl,rfl,rfl⟩⟩ rfl rfl ?_
 intro _ r17 H18 h
 refine GL.store (p:=v0) (v:=slv r17) h trivial rfl rfl rfl rfl ?_
 intro H19 h
 refine GL.nil ?_
 exact GC.ret (fun _ _ hf hs=>QC rfl hf hs ⟨rfl,h⟩)
 refine GC.skip ?_
 exact GC.ret (fun _ _ hf hs=>QC rfl hf hs ⟨rfl,h⟩)
 refine GC.skip (Zo (Zf (Yl h fun x20 h=>?_)))
 refine Zq (Zm (GL.nil (GC.block (Yp h (fun x22=>[(22,.int .i64 x22),(2,pv (some v1)),(20,slv x20),(21,.int .i64 (Sl.len x20:Int))]) ?_))))
 intro x22 H24 J23 h
 refine Zo (Zi (.bool (decide ((x22:Int) < (Sl.len x20:Int)))) (GL.nil (GC.seq (Yd h (fun u25 h=>?_) fun u25 h=>?_))))
 refine GC.skip (GC.seq (GC.block (Zo (Yx h fun p26 h=>?_))))
 obtain ⟨x31,hr32,h⟩:=h
 refine Zv (OV.loadT rfl rfl rfl hr32) (GL.alloc (cs:=Qa.c Qa.zero) h trivial rfl rfl rfl ?_)
 intro b33 H34 h
 refine GL.storeT (p:=(b33,0)) (vs:=Qa.c x31) h trivial rfl rfl rfl rfl ?_
 intro H35 h
 refine GL.nil (GC.region (Yl h fun x36 h=>?_))
 obtain ⟨x38,hr39,h⟩:=h
 refine Zv (OV.loadT rfl rfl rfl hr39) (GL.callU (xv:=x36) (vs:=[.agg (Qa.c x38).toArray]) h trivial rfl rfl rfl ?_)
 rintro _ H40 ⟨rfl,h⟩
 refine GL.nil_to (fun _ _ h=>h) (GC.region (Zi (.int .i64 (w .i64 (x22+1))) (Zm ?_)))
 exact Yj I3 (w .i64 (x22+1)) h
 exact GC.exit_ends (fun _ _ hf hs=>QC rfl hf hs ⟨rfl,h⟩)
def QcA (C:Ctx) (p_s:Sl) (p_v:Str) (K:Bool→Heap→Prop) (H:Heap):Prop:=
 QdL C p_s p_v (fun r1 H2=>
 K (decide ((r1:Int) ≥ 0)) H2) H
theorem QfF (C p_s p_v K H) (h:QcA C p_s p_v K H):Qbn C p_s p_v K H:=by
 refine Ye Tryz.func98 rfl Tryz.ntmps98 [(0,slv p_s),(1,sv p_v)] (Zo (Za (GL.nil (Zo (Zm (Zm (Zc h Qgg ?_)))))))
 rintro _ H2 ⟨r1,rfl,h⟩
 refine Zi (.bool (decide ((r1:Int) ≥ 0))) (Za (GL.nil ?_))
 exact Y1 I3 ⟨(decide ((r1:Int) ≥ 0)),rfl,h⟩
def Qhr (C:Ctx) (p_w:Option (Nat×Nat)) (p_is:Bool) (K:Heap→Prop) (H:Heap):Prop:=
 ift p_is
 (nck p_w fun p2=>
 Qj C (some (p2.1,p2.2+0)) [112,117,98,32] (fun r4 r5 H6=>
 K H6) H)
 (K H)
theorem Ql6 (C p_w p_is K H) (h:Qhr C p_w p_is K H):Qeq C p_w p_is K H:=by
 refine Ye Tryz.func99 rfl Tryz.ntmps99 [(0,pv p_w),(1,.bool p_is)] (Zo (Zm (GL.nil (Yd h (fun u1 h=>?_) fun u1 h=>?_))))
 refine GC.region (Zm ?_)
 obtain ⟨p2,hp3,h⟩:=h
 refine Zv (OV.nilCheck (q:=p_w) rfl hp3) (Zf (Zc h Qm ?_))
 rintro _ H6 ⟨r4,r5,rfl,h⟩
 exact GL.ends (fun _ _ hf hs=>QC rfl hf hs ⟨rfl,h⟩)
 exact GC.ends (fun _ _ hf hs=>QC rfl hf hs ⟨rfl,h⟩)
def QfB (C:Ctx) (p_w:Option (Nat×Nat)) (p_l:Sl) (p_write:Value) (K:Heap→Prop) (H:Heap):Prop:=
 nck p_w fun p1=>
 Qo C (some (p1.1,p1.2+0)) 40 (fun r3 H4=>
 Qhd C p_w p_l [44,32] p_write (fun H5=>
 nck p_w fun p6=>
 Qo C (some (p6.1,p6.2+0)) 41 (fun r8 H9=>
 K H9) H5) H4) H
theorem QiO (C p_w p_l p_write K H) (h:QfB C p_w p_l p_write K H):QdF C p_w p_l p_write K H:=by
 refine Ye Tryz.func100 rfl Tryz.ntmps100 [(0,pv p_w),(1,slv p_l),(2,p_write)] (Zo (Zm ?_))
 obtain ⟨p1,hp2,h⟩:=h
 refine Zv (OV.nilCheck (q:=p_w) rfl hp2) (Zf (Zc h Qq ?_))
 rintro _ H4 ⟨r3,rfl,h⟩
 refine GL.nil (Zo (Zm (Zm (Zm (Zc h QlW ?_)))))
 rintro _ H5 ⟨rfl,h⟩
 refine GL.nil (GC.region (Zm ?_))
 obtain ⟨p6,hp7,h⟩:=h
 refine Zv (OV.nilCheck (q:=p_w) rfl hp7) (Zf (Zc h Qq ?_))
 rintro _ H9 ⟨r8,rfl,h⟩
 exact GL.ends (fun _ _ hf hs=>QC rfl hf hs ⟨rfl,h⟩)
def Qfd (C:Ctx) (p_s:Str) (v0:Nat×Nat) (K:Heap→Prop) (H:Heap):Prop:=
 ldP H v0 fun x1=>
 nck x1 fun p3=>
 Qj C (some (p3.1,p3.2+0)) p_s (fun r5 r6 H7=>
 K H7) H
theorem Qh7 (C p_s v0 K H) (h:Qfd C p_s v0 K H):Qfp C p_s v0 K H:=by
 refine Ye Tryz.func101 rfl Tryz.ntmps101 [(0,sv p_s),(1,pv (some v0))] (GC.region (Yl h fun x1 h=>?_))
 obtain ⟨p3,hp4,h⟩:=h
 refine Zv (OV.nilCheck (q:=x1) rfl hp4) (Zf (Zm (Zc h Qm ?_)))
 rintro _ H7 ⟨r5,r6,rfl,h⟩
 exact GL.ends (fun _ _ hf hs=>QC rfl hf hs ⟨rfl,h⟩)
def Qfa (C:Ctx) (p_w:Option (Nat×Nat)) (p_l:Sl) (p_between:Str) (p_write:Value) (K:Heap→Prop) (H:Heap):Prop:=
 lp (α:=Int) 0 H (fun x1 J2 H3=>
 ift (decide ((x1:Int) < (Sl.len p_l:Int)))
 (ixa p_l x1 fun p5=>
 ldT H3 Qh.c (p5.1,p5.2+(x1:Int).toNat*2) fun x10=>
 nw (Qh.c Qh.zero) (fun b12 H13=>
 stT (b12,0) (Qh.c x10) (fun H14=>
 jn (α:=Unit) (fun x16 H17=>
 ldT H17 Qh.c (b12,0) fun x25=>
 callU Tryz.prog C p_write [.agg (Qh.c x25).toArray] H17 (fun v H27=>v=.tuple #[]∧
 J2 (w .i64 (x1+1)) H27))
 (fun J15=>ift (decide ((x1:Int) > 0))
 (nck p_w fun p20=>
 Qj C (some (p20.1,p20.2+0)) p_between (fun r22 r23 H24=>
 J15 () H24) H14)
 (J15 () H14))) H13) H3)
 (K H3))
theorem Qh4 (C p_w p_l p_between p_write K H) (h:Qfa C p_w p_l p_between p_write K H):Qde C p_w p_l p_between p_write K H:=by
 refine Ye Tryz.func102 rfl Tryz.ntmps102 [(0,pv p_w),(1,slv p_l),(2,sv p_between),(3,p_write)] (Zo (Zm (Zq (Zm (GL.nil (GC.block (Yp h (fun x1=>[(12,.int .i64 x1),(0,pv p_w),(2,sv p_between),(3,p_write),(10,slv p_l),(11,.int .i64 (Sl.len p_l:Int))]) ?_)))))))
 intro x1 H3 J2 h
 refine Zo (Zi (.bool (decide ((x1:Int) < (Sl.len p_l:Int)))) (GL.nil (GC.seq (Yd h (fun u4 h=>?_) fun u4 h=>?_))))
 refine GC.skip (GC.seq (GC.block (Zo (Zm (Yx h fun p5 h=>?_)))))
 obtain ⟨x10,v11,h⟩:=h
 refine Zv (OV.loadT rfl rfl rfl v11) (GL.alloc (cs:=Qh.c Qh.zero) h trivial rfl rfl rfl ?_)
 intro b12 H13 h
 refine Za (GL.storeT (p:=(b12,0)) (vs:=Qh.c x10) h trivial rfl rfl rfl rfl ?_)
 intro H14 h
 refine GL.nil ?_
 obtain ⟨J15,h,hR18⟩:=h
 refine GC.join (α:=Unit) J15 (fun _=>[(0,pv p_w),(2,sv p_between),(3,p_write),(9,pv (some (b12,0))),(10,slv p_l),(11,.int .i64 (Sl.len p_l:Int)),(12,.int .i64 x1)]) ?_ ?_
 refine Zo (Zm (Zi (.bool (decide ((x1:Int) > 0))) (GL.nil (Yd h (fun u19 h=>?_) fun u19 h=>?_))))
 refine GC.region (Zm ?_)
 obtain ⟨p20,hp21,h⟩:=h
 refine Zv (OV.nilCheck (q:=p_w) rfl hp21) (Zf (Zm (Zc h Qm ?_)))
 rintro _ H24 ⟨r22,r23,rfl,h⟩
 exact Yj I3 () h
 exact Yk I3 () h
 intro x16 H17 h
 replace h:=hR18 x16 H17 h
 refine GC.region (Zm ?_)
 obtain ⟨x25,v26,h⟩:=h
 refine Zv (OV.loadT rfl rfl rfl v26) (GL.callU (xv:=p_write) (vs:=[.agg (Qh.c x25).toArray]) h trivial rfl rfl rfl ?_)
 rintro _ H27 ⟨rfl,h⟩
 refine GL.nil_to (fun _ _ h=>h) (GC.region (Zi (.int .i64 (w .i64 (x1+1))) (Zm ?_)))
 exact Yj I3 (w .i64 (x1+1)) h
 exact GC.exit_ends (fun _ _ hf hs=>QC rfl hf hs ⟨rfl,h⟩)
def Qfe (C:Ctx) (p_c:Qh) (v0:Nat×Nat) (K:Heap→Prop) (H:Heap):Prop:=
 nw (Qh.c p_c) (fun b1 H2=>
 dr H2 fun Hs3=>
 ldP Hs3 v0 fun x5=>
 nck x5 fun p7=>
 ldS Hs3 ((b1,0).1,(b1,0).2+0) fun x9=>
 Qj C (some (p7.1,p7.2+0)) x9 (fun r12 r13 H14=>
 Heap.le Hs3 H14∧
 ldL H14 ((b1,0).1,(b1,0).2+1) fun x15=>
 ift (decide (((Sl.len x15:Int):Int) > 0))
 (ldP H14 v0 fun x18=>
 ldL H14 ((b1,0).1,(b1,0).2+1) fun x20=>
 ldP H14 v0 fun x22=>
 Qai C x18 x20 (.func (.func 105) (List.toArray [pv x22]) (List.toArray []):Value) (fun H24=>
 K H24) H14)
 (K H14)) H2) H
theorem Qh8 (C p_c v0 K H) (h:Qfe C p_c v0 K H):Qfq C p_c v0 K H:=by
 refine Ye Tryz.func103 rfl Tryz.ntmps103 [(0,.agg (Qh.c p_c).toArray),(1,pv (some v0))] (Zo (GL.box (v:=.agg (Qh.c p_c).toArray) (cs:=Qh.c p_c) h trivial rfl rfl rfl ?_))
 intro b1 H2 h
 refine GL.nil (GC.seq ?_)
 obtain ⟨Hs3,hle4,h⟩:=h
 refine GC.any (Hs:=Hs3) (by kernel_rfl) hle4 ?_
 obtain ⟨x5,hr6,h⟩:=h
 refine Zp 0 rfl (Yo hr6) ?_
 obtain ⟨p7,hp8,h⟩:=h
 refine Zp 1 rfl (OV.nilCheck (q:=x5) rfl hp8) (Zp 2 rfl Yf (Zp 3 rfl Yf ?_))
 obtain ⟨x9,hr10,h⟩:=h
 refine Zp 4 rfl (Yo hr10) (GA.eff 5 rfl (by kernel_rfl) (Zc h Qm ?_))
 rintro _ H14 ⟨r12,r13,rfl,h⟩
 obtain ⟨hle11,h⟩:=h
 refine GA.back hle11 (GA.done (by kernel_rfl) (GL.nil (Zo (Zf (Yl h fun x15 h=>?_)))))
 refine Zq (Zi (.bool (decide (((Sl.len x15:Int):Int) > 0))) (GL.nil (Yd h (fun u17 h=>?_) fun u17 h=>?_)))
 refine GC.region (Yl h fun x18 h=>?_)
 refine Zf (Yl h fun x20 h=>?_)
 refine Yl h fun x22 h=>?_
 refine Zv (OV.makeFunc (vs:=[pv x22]) (us:=[]) rfl rfl) (Zc h Qdp ?_)
 rintro _ H24 ⟨rfl,h⟩
 exact GL.ends (fun _ _ hf hs=>QC rfl hf hs ⟨rfl,h⟩)
 exact GC.ends (fun _ _ hf hs=>QC rfl hf hs ⟨rfl,h⟩)
def Qdt (C:Ctx) (p_w:Option (Nat×Nat)) (p_l:Sl) (p_write:Value) (K:Heap→Prop) (H:Heap):Prop:=
 nck p_w fun p1=>
 Qo C (some (p1.1,p1.2+0)) 40 (fun r3 H4=>
 QcN C p_w p_l [44,32] p_write (fun H5=>
 nck p_w fun p6=>
 Qo C (some (p6.1,p6.2+0)) 41 (fun r8 H9=>
 K H9) H5) H4) H
theorem Qgc (C p_w p_l p_write K H) (h:Qdt C p_w p_l p_write K H):Qai C p_w p_l p_write K H:=by
 refine Ye Tryz.func104 rfl Tryz.ntmps104 [(0,pv p_w),(1,slv p_l),(2,p_write)] (Zo (Zm ?_))
 obtain ⟨p1,hp2,h⟩:=h
 refine Zv (OV.nilCheck (q:=p_w) rfl hp2) (Zf (Zc h Qq ?_))
 rintro _ H4 ⟨r3,rfl,h⟩
 refine GL.nil (Zo (Zm (Zm (Zm (Zc h QhR ?_)))))
 rintro _ H5 ⟨rfl,h⟩
 refine GL.nil (GC.region (Zm ?_))
 obtain ⟨p6,hp7,h⟩:=h
 refine Zv (OV.nilCheck (q:=p_w) rfl hp7) (Zf (Zc h Qq ?_))
 rintro _ H9 ⟨r8,rfl,h⟩
 exact GL.ends (fun _ _ hf hs=>QC rfl hf hs ⟨rfl,h⟩)
def QfE (C:Ctx) (p_w:Option (Nat×Nat)) (p_f:Qd) (K:Heap→Prop) (H:Heap):Prop:=
 nw (Qd.c p_f) (fun b1 H2=>
 jn (α:=Unit) (fun x4 H5=>
 ldT H5 Qe.c ((b1,0).1,(b1,0).2+1) fun x15=>
 QfP C p_w x15 (fun H17=>
 K H17) H5)
 (fun J3=>ldS H2 ((b1,0).1,(b1,0).2+0) fun x7=>
 ift (!(x7 == ([]:Str)))
 (ldS H2 ((b1,0).1,(b1,0).2+0) fun x10=>
 nw ([sv x10,sv [58,32]]) (fun b12 H13=>
 QH C p_w (Sl.of (some (b12,0)) 2 2) (fun H14=>
 J3 () H14) H13) H2)
 (J3 () H2))) H
theorem QiR (C p_w p_f K H) (h:QfE C p_w p_f K H):QfH C p_w p_f K H:=by
 refine Ye Tryz.func105 rfl Tryz.ntmps105 [(0,pv p_w),(1,.agg (Qd.c p_f).toArray)] (Zo (GL.box (v:=.agg (Qd.c p_f).toArray) (cs:=Qd.c p_f) h trivial rfl rfl rfl ?_))
 intro b1 H2 h
 refine GL.nil ?_
 obtain ⟨J3,h,hR6⟩:=h
 refine GC.join (α:=Unit) J3 (fun _=>[(0,pv p_w),(3,pv (some (b1,0)))]) ?_ ?_
 refine Zo (Zf (Yl h fun x7 h=>?_))
 refine Zv (OV.sbin (a:=x7) (b:=([]:Str)) (v:=.bool (!(x7 == ([]:Str)))) rfl rfl rfl) (GL.nil (Yd h (fun u9 h=>?_) fun u9 h=>?_))
 refine GC.region (Zm (Zf (Yl h fun x10 h=>?_)))
 refine GL.buildSlice (cs:=[sv x10,sv [58,32]]) h trivial rfl (vs:=[(0,sv x10),(1,sv [58,32])]) rfl ⟨9,fun _=>by kernel_rfl⟩ ?_
 intro b12 H13 h
 refine Zc h QV ?_
 rintro _ H14 ⟨rfl,h⟩
 exact Yj I3 () h
 exact Yk I3 () h
 intro x4 H5 h
 replace h:=hR6 x4 H5 h
 refine GC.region (Zm (Zf ?_))
 obtain ⟨x15,v16,h⟩:=h
 refine Zv (OV.loadT rfl rfl rfl v16) (Zc h Qhk ?_)
 rintro _ H17 ⟨rfl,h⟩
 exact GL.ends (fun _ _ hf hs=>QC rfl hf hs ⟨rfl,h⟩)
def QdP (C:Ctx) (p_b:Option (Nat×Nat)) (p_c:Int) (K:Value→Heap→Prop) (H:Heap):Prop:=
 Qa0 C p_b (fun H1=>
 nck p_b fun p2=>
 ldL H1 (p2.1,p2.2+1) fun x4=>
 apdG 5 ([.int .u8 0]) 1 x4 ([.int .u8 p_c]) 1 (fun r6 H7=>
 nck p_b fun p8=>
 sttG (p8.1,p8.2+1) (slv r6) (fun H10=>
 K .nilIface H10) H7) H1) H
theorem Qgt (C p_b p_c K H) (h:QdP C p_b p_c K H):Qo C p_b p_c K H:=by
 refine Ye Tryz.func106 rfl Tryz.ntmps106 [(0,pv p_b),(1,.int .u8 p_c)] (Zo (Za (GL.nil (Zo (Zm (Zc h QdM ?_))))))
 rintro _ H1 ⟨rfl,h⟩
 refine GL.nil (Zo (Zm (Zm ?_)))
 obtain ⟨p2,hp3,h⟩:=h
 refine Zv (OV.nilCheck (q:=p_b) rfl hp3) (Zf (Yl h fun x4 h=>?_))
 refine Zm (GL.appendGLit (e:=5) (s:=x4) (ys:=[.int .u8 p_c]) (zc:=[.int .u8 0]) (bytes:=1) h trivial rfl (fun _=>trivial) rfl (fun _=>rfl) (fun _=>rfl) (vs:=[(0,.int .u8 p_c)]) rfl ⟨5,fun _=>by kernel_rfl⟩ ⟨⟨_,_,rfl,rfl,rfl,rfl,rfl,rfl⟩⟩ rfl rfl ?_)
 intro _ r6 H7 h
 obtain ⟨p8,hp9,h⟩:=h
 refine Zv (OV.nilCheck (q:=p_b) rfl hp9) (Zf (GL.storeG (p:=(p8.1,p8.2+1)) (v:=slv r6) h trivial rfl rfl rfl rfl ?_))
 intro H10 h
 refine GL.nil (Zo (Za (GL.nil ?_)))
 exact Y1 I3 ⟨.nilIface,rfl,h⟩
def Qcy (C:Ctx) (p_w:Option (Nat×Nat)) (p_l:Sl) (p_write:Value) (K:Heap→Prop) (H:Heap):Prop:=
 nck p_w fun p1=>
 Qo C (some (p1.1,p1.2+0)) 40 (fun r3 H4=>
 Qa8 C p_w p_l [44,32] p_write (fun H5=>
 nck p_w fun p6=>
 Qo C (some (p6.1,p6.2+0)) 41 (fun r8 H9=>
 K H9) H5) H4) H
theorem QeK (C p_w p_l p_write K H) (h:Qcy C p_w p_l p_write K H):QF C p_w p_l p_write K H:=by
 refine Ye Tryz.func107 rfl Tryz.ntmps107 [(0,pv p_w),(1,slv p_l),(2,p_write)] (Zo (Zm ?_))
 obtain ⟨p1,hp2,h⟩:=h
 refine Zv (OV.nilCheck (q:=p_w) rfl hp2) (Zf (Zc h Qq ?_))
 rintro _ H4 ⟨r3,rfl,h⟩
 refine GL.nil (Zo (Zm (Zm (Zm (Zc h Qf1 ?_)))))
 rintro _ H5 ⟨rfl,h⟩
 refine GL.nil (GC.region (Zm ?_))
 obtain ⟨p6,hp7,h⟩:=h
 refine Zv (OV.nilCheck (q:=p_w) rfl hp7) (Zf (Zc h Qq ?_))
 rintro _ H9 ⟨r8,rfl,h⟩
 exact GL.ends (fun _ _ hf hs=>QC rfl hf hs ⟨rfl,h⟩)
def Qf8 (C:Ctx) (p_e:Qa) (v0:Nat×Nat) (v1:Nat×Nat) (v2:Nat×Nat) (K:Heap→Prop) (H:Heap):Prop:=
 nw (Qa.c p_e) (fun b1 H2=>
 ldL H2 (v0.1,v0.2+4) fun x3=>
 ldI H2 .i64 v1 fun x5=>
 ixa x3 x5 fun p7=>
 ldS H2 (p7.1,p7.2+(x5:Int).toNat*1) fun x12=>
 ldI H2 .i64 v1 fun x14=>
 st v1 (.int .i64 (w .i64 (x14+1))) (fun H16=>
 ift (x12 == ([]:Str))
 (ldP H16 v2 fun x18=>
 ldT H16 Qa.c (b1,0) fun x20=>
 Qaj C x18 x20 (fun H22=>
 K H22) H16)
 (ldP H16 v2 fun x23=>
 nw ([sv x12,sv [40]]) (fun b25 H26=>
 QH C x23 (Sl.of (some (b25,0)) 2 2) (fun H27=>
 ldP H27 v2 fun x28=>
 ldT H27 Qa.c (b1,0) fun x30=>
 Qaj C x28 x30 (fun H32=>
 ldP H32 v2 fun x33=>
 nck x33 fun p35=>
 Qo C (some (p35.1,p35.2+0)) 41 (fun r37 H38=>
 K H38) H32) H27) H26) H16)) H2) H
theorem QjU (C p_e v0 v1 v2 K H) (h:Qf8 C p_e v0 v1 v2 K H):QeE C p_e v0 v1 v2 K H:=by
 refine Ye Tryz.func108 rfl Tryz.ntmps108 [(0,.agg (Qa.c p_e).toArray),(1,pv (some v0)),(2,pv (some v1)),(3,pv (some v2))] (Zo (GL.box (v:=.agg (Qa.c p_e).toArray) (cs:=Qa.c p_e) h trivial rfl rfl rfl ?_))
 intro b1 H2 h
 refine GL.nil (Zo (Zf (Yl h fun x3 h=>?_)))
 refine Yl h fun x5 h=>?_
 refine Yx h fun p7 h=>?_
 refine Yl h fun x12 h=>?_
 refine Za (GL.nil (Zo (Yl h fun x14 h=>?_)))
 refine Zi (.int .i64 (w .i64 (x14+1))) (GL.store (p:=v1) (v:=.int .i64 (w .i64 (x14+1))) h trivial rfl rfl rfl rfl ?_)
 intro H16 h
 refine GL.nil (GC.seq (Zo (Zm (Zv (OV.sbin (a:=x12) (b:=([]:Str)) (v:=.bool (x12 == ([]:Str))) rfl rfl rfl) (GL.nil (Yd h (fun u17 h=>?_) fun u17 h=>?_))))))
 refine Zo (Yl h fun x18 h=>?_)
 obtain ⟨x20,hr21,h⟩:=h
 refine Zv (OV.loadT rfl rfl rfl hr21) (Zc h Qaa ?_)
 rintro _ H22 ⟨rfl,h⟩
 refine GL.nil ?_
 exact GC.ret (fun _ _ hf hs=>QC rfl hf hs ⟨rfl,h⟩)
 refine GC.skip (Zo (Yl h fun x23 h=>?_))
 refine Zm (GL.buildSlice (cs:=[sv x12,sv [40]]) h trivial rfl (vs:=[(0,sv x12),(1,sv [40])]) rfl ⟨9,fun _=>by kernel_rfl⟩ ?_)
 intro b25 H26 h
 refine Zc h QV ?_
 rintro _ H27 ⟨rfl,h⟩
 refine GL.nil (Zo (Yl h fun x28 h=>?_))
 obtain ⟨x30,hr31,h⟩:=h
 refine Zv (OV.loadT rfl rfl rfl hr31) (Zc h Qaa ?_)
 rintro _ H32 ⟨rfl,h⟩
 refine GL.nil (GC.region (Yl h fun x33 h=>?_))
 obtain ⟨p35,hp36,h⟩:=h
 refine Zv (OV.nilCheck (q:=x33) rfl hp36) (Zf (Zc h Qq ?_))
 rintro _ H38 ⟨r37,rfl,h⟩
 exact GL.ends (fun _ _ hf hs=>QC rfl hf hs ⟨rfl,h⟩)
def QdQ (C:Ctx) (p_b:Option (Nat×Nat)) (K:Heap→Prop) (H:Heap):Prop:=
 nck p_b fun p1=>
 ldP H (p1.1,p1.2+0) fun x3=>
 ift (Option.isNone x3)
 (∃ p7,p_b=some p7∧cvU p7 (
 cvT Tryz.prog 85 2 p7 (
 nck p_b fun p10=>
 sttG (p10.1,p10.2+0) (pv (some p7)) (fun H12=>
 K H12) H) H) H)
 (nck p_b fun p13=>
 ldP H (p13.1,p13.2+0) fun x15=>
 ∃ p17,x15=some p17∧p_b=some p17∧
 ift false
 (False)
 (K H))
theorem Qgu (C p_b K H) (h:QdQ C p_b K H):Qa0 C p_b K H:=by
 refine Ye Tryz.func109 rfl Tryz.ntmps109 [(0,pv p_b)] (Zo (Zm ?_))
 obtain ⟨p1,hp2,h⟩:=h
 refine Zv (OV.nilCheck (q:=p_b) rfl hp2) (Zf (Yl h fun x3 h=>?_))
 refine Zv (OV.eqlNil (p:=x3) rfl rfl rfl) (GL.nil (Yd h (fun u5 h=>?_) fun u5 h=>?_))
 refine GC.region (Zm (Zm ?_))
 obtain ⟨p7,hp8,hu6,h⟩:=h
 refine Zv (OV.cvU (q:=p_b) (p:=p7) hp8 hu6 rfl rfl rfl ⟨_,rfl,by decide⟩) (Zv (OV.ext QhI (vs:=[pv (some p7)]) (v:=pv (some p7)) rfl (fun w=>QuL _ w)) ?_)
 obtain ⟨hu9,h⟩:=h
 refine Zv (OV.cvT (len:=2) (p:=p7) hu9 rfl rfl rfl ⟨_,rfl⟩) ?_
 obtain ⟨p10,hp11,h⟩:=h
 refine Zv (OV.nilCheck (q:=p_b) rfl hp11) (Zf (GL.storeG (p:=(p10.1,p10.2+0)) (v:=pv (some p7)) h trivial rfl rfl rfl rfl ?_))
 intro H12 h
 exact GL.ends (fun _ _ hf hs=>QC rfl hf hs ⟨rfl,h⟩)
 refine Zo (Zm ?_)
 obtain ⟨p13,hp14,h⟩:=h
 refine Zv (OV.nilCheck (q:=p_b) rfl hp14) (Zf (Yl h fun x15 h=>?_))
 refine Zm ?_
 obtain ⟨p17,hp18,hq19,h⟩:=h
 refine Zv (OV.neqSame (p:=x15) (q:=p_b) rfl rfl hp18 hq19 rfl rfl) (GL.nil (Yd h (fun u20 h=>?_) fun u20 h=>?_))
 exact GC.never h
 exact GC.ends (fun _ _ hf hs=>QC rfl hf hs ⟨rfl,h⟩)
def Qiy (C:Ctx) (p_t:Qe) (K:Str→Heap→Prop) (H:Heap):Prop:=
 nw (Qe.c p_t) (fun b1 H2=>
 lp (α:=Str×Int) ([],0) H2 (fun x3 J4 H5=>
 ldL H5 ((b1,0).1,(b1,0).2+1) fun x6=>
 ift (decide ((x3.2:Int) < (Sl.len x6:Int)))
 (jn (α:=Str) (fun x10 H11=>
 ldL H11 ((b1,0).1,(b1,0).2+1) fun x15=>
 ixa x15 x3.2 fun p17=>
 ldT H11 Qe.c (p17.1,p17.2+(x3.2:Int).toNat*2) fun x22=>
 Qba C x22 (fun r24 H25=>
 catOk x10 r24∧
 J4 ((x10++r24),(w .i64 (x3.2+1))) H25) H11)
 (fun J9=>ift (decide ((x3.2:Int) > 0))
 (catOk x3.1 ([44,32]:Str)∧
 J9 (x3.1++([44,32]:Str)) H5)
 (J9 x3.1 H5)))
 (ldS H5 ((b1,0).1,(b1,0).2+0) fun x27=>
 ift (x27 == ([116,117,112,108,101]:Str))
 (catOk ([40]:Str) x3.1∧
 catOk (([40]:Str)++x3.1) ([41]:Str)∧
 K ((([40]:Str)++x3.1)++([41]:Str)) H5)
 (ldL H5 ((b1,0).1,(b1,0).2+1) fun x32=>
 ift (((Sl.len x32:Int):Int) == 0)
 (ldS H5 ((b1,0).1,(b1,0).2+0) fun x35=>
 K x35 H5)
 (ldS H5 ((b1,0).1,(b1,0).2+0) fun x37=>
 catOk x37 ([40]:Str)∧
 catOk (x37++([40]:Str)) x3.1∧
 catOk ((x37++([40]:Str))++x3.1) ([41]:Str)∧
 K (((x37++([40]:Str))++x3.1)++([41]:Str)) H5))))) H
theorem QmX (C p_t K H) (h:Qiy C p_t K H):Qba C p_t K H:=by
 refine Ye Tryz.func110 rfl Tryz.ntmps110 [(0,.agg (Qe.c p_t).toArray)] (Zo (GL.box (v:=.agg (Qe.c p_t).toArray) (cs:=Qe.c p_t) h trivial rfl rfl rfl ?_))
 intro b1 H2 h
 refine Za (GL.nil (Zo (Za (GL.nil (GC.seq (Zo (Za (GL.nil (GC.block (Yp h (fun x3=>[(3,sv x3.1),(4,.int .i64 x3.2),(1,pv (some (b1,0)))]) ?_))))))))))
 intro x3 H5 J4 h
 refine GC.seq (Zo (Zm (Zf (Yl h fun x6 h=>?_))))
 refine Zq (Zi (.bool (decide ((x3.2:Int) < (Sl.len x6:Int)))) (GL.nil (Yd h (fun u8 h=>?_) fun u8 h=>?_)))
 refine GC.skip (GC.seq (GC.block ?_))
 obtain ⟨J9,h,hR12⟩:=h
 refine GC.join (α:=Str) J9 (fun x10=>[(3,sv x10),(1,pv (some (b1,0))),(4,.int .i64 x3.2)]) ?_ ?_
 refine Zo (Zm (Zi (.bool (decide ((x3.2:Int) > 0))) (GL.nil (Yd h (fun u13 h=>?_) fun u13 h=>?_))))
 refine GC.region (Zm ?_)
 obtain ⟨hl14,h⟩:=h
 refine Zv (OV.cat (a:=x3.1) (b:=([44,32]:Str)) rfl rfl hl14) (Za ?_)
 exact Yj I3 (x3.1++([44,32]:Str)) h
 exact Yk I3 x3.1 h
 intro x10 H11 h
 replace h:=hR12 x10 H11 h
 refine GC.region (Zm (Zf (Yl h fun x15 h=>?_)))
 refine Zm (Yx h fun p17 h=>?_)
 obtain ⟨x22,v23,h⟩:=h
 refine Zv (OV.loadT rfl rfl rfl v23) (Zc h Qie ?_)
 rintro _ H25 ⟨r24,rfl,h⟩
 obtain ⟨hl26,h⟩:=h
 refine Zv (OV.cat (a:=x10) (b:=r24) rfl rfl hl26) (Za (GL.nil_to (fun _ _ h=>h) (GC.region (Zm (Zi (.int .i64 (w .i64 (x3.2+1))) (Za ?_))))))
 exact Yj I3 ((x10++r24),(w .i64 (x3.2+1))) h
 refine GC.exit_to (fun _ _ h=>h) (GC.seq (Zo (Zf ?_)))
 refine Yl h fun x27 h=>?_
 refine Zv (OV.sbin (a:=x27) (b:=([116,117,112,108,101]:Str)) (v:=.bool (x27 == ([116,117,112,108,101]:Str))) rfl rfl rfl) (GL.nil (Yd h (fun u29 h=>?_) fun u29 h=>?_))
 refine Zo (Zm ?_)
 obtain ⟨hl30,h⟩:=h
 refine Zv (OV.cat (a:=([40]:Str)) (b:=x3.1) rfl rfl hl30) ?_
 obtain ⟨hl31,h⟩:=h
 refine Zv (OV.cat (a:=(([40]:Str)++x3.1)) (b:=([41]:Str)) rfl rfl hl31) (Za (GL.nil ?_))
 exact Y1 I3 ⟨((([40]:Str)++x3.1)++([41]:Str)),rfl,h⟩
 refine GC.skip (GC.seq (Zo (Zf (Yl h fun x32 h=>?_))))
 refine Zq (Zi (.bool (((Sl.len x32:Int):Int) == 0)) (GL.nil (Yd h (fun u34 h=>?_) fun u34 h=>?_)))
 refine Zo (Zf (Yl h fun x35 h=>?_))
 refine Za (GL.nil ?_)
 exact Y1 I3 ⟨x35,rfl,h⟩
 refine GC.skip (Zo (Zf (Yl h fun x37 h=>?_)))
 obtain ⟨hl39,h⟩:=h
 refine Zv (OV.cat (a:=x37) (b:=([40]:Str)) rfl rfl hl39) (Zm ?_)
 obtain ⟨hl40,h⟩:=h
 refine Zv (OV.cat (a:=(x37++([40]:Str))) (b:=x3.1) rfl rfl hl40) ?_
 obtain ⟨hl41,h⟩:=h
 refine Zv (OV.cat (a:=((x37++([40]:Str))++x3.1)) (b:=([41]:Str)) rfl rfl hl41) (Za (GL.nil ?_))
 exact Y1 I3 ⟨(((x37++([40]:Str))++x3.1)++([41]:Str)),rfl,h⟩
def Qiv (C:Ctx) (p_e:Qa) (K:Str→Heap→Prop) (H:Heap):Prop:=
 nw (Qa.c p_e) (fun b1 H2=>
 ldI H2 .u8 ((b1,0).1,(b1,0).2+0) fun x3=>
 ift ((x3:Int) == 1)
 (ldT H2 Qb.c ((b1,0).1,(b1,0).2+4) fun x6=>
 Qd2 C x6 (fun r8 H9=>
 K r8 H9) H2)
 (ift ((x3:Int) == 2)
 (ldS H2 ((b1,0).1,(b1,0).2+3) fun x11=>
 K x11 H2)
 (ift ((x3:Int) == 3)
 (K [95] H2)
 (ift ((x3:Int) == 4)
 (ldL H2 ((b1,0).1,(b1,0).2+8) fun x15=>
 Qby C x15 (fun r17 H18=>
 catOk ([40]:Str) r17∧
 catOk (([40]:Str)++r17) ([41]:Str)∧
 K ((([40]:Str)++r17)++([41]:Str)) H18) H2)
 (ift ((x3:Int) == 5)
 (ldL H2 ((b1,0).1,(b1,0).2+8) fun x22=>
 ift (((Sl.len x22:Int):Int) == 0)
 (ldS H2 ((b1,0).1,(b1,0).2+3) fun x25=>
 K x25 H2)
 (dr H2 fun Hs27=>
 ldS Hs27 ((b1,0).1,(b1,0).2+3) fun x29=>
 catOk x29 ([40]:Str)∧
 ldL Hs27 ((b1,0).1,(b1,0).2+8) fun x32=>
 Qby C x32 (fun r35 H36=>
 Heap.le Hs27 H36∧
 catOk (x29++([40]:Str)) r35∧
 catOk ((x29++([40]:Str))++r35) ([41]:Str)∧
 K (((x29++([40]:Str))++r35)++([41]:Str)) H36) H2))
 (ift ((x3:Int) == 7)
 (ldL H2 ((b1,0).1,(b1,0).2+8) fun x40=>
 ixa x40 0 fun p42=>
 ldT H2 Qa.c (p42.1,p42.2+(0:Int).toNat*9) fun x47=>
 nw (Qa.c Qa.zero) (fun b49 H50=>
 stT (b49,0) (Qa.c x47) (fun H51=>
 ldI H51 .u8 ((b49,0).1,(b49,0).2+0) fun x52=>
 jn (α:=Bool) (fun b54 H60=>
 jn (α:=Bool) (fun b61 H76=>
 ift b61
 (dr H76 fun Hs78=>
 ldT Hs78 Qa.c (b49,0) fun x80=>
 ldS Hs78 ((b1,0).1,(b1,0).2+3) fun x82=>
 QD C x80 (fun r85 H86=>
 Heap.le Hs78 H86∧
 catOk ([40]:Str) r85∧
 catOk (([40]:Str)++r85) ([41,46]:Str)∧
 catOk ((([40]:Str)++r85)++([41,46]:Str)) x82∧
 K (((([40]:Str)++r85)++([41,46]:Str))++x82) H86) H76)
 (dr H76 fun Hs90=>
 ldT Hs90 Qa.c (b49,0) fun x92=>
 ldS Hs90 ((b1,0).1,(b1,0).2+3) fun x94=>
 QD C x92 (fun r97 H98=>
 Heap.le Hs90 H98∧
 catOk r97 ([46]:Str)∧
 catOk (r97++([46]:Str)) x94∧
 K ((r97++([46]:Str))++x94) H98) H76))
 (fun J62=>ift b54
 (J62 true H60)
 (ldI H60 .u8 ((b49,0).1,(b49,0).2+0) fun x65=>
 jn (α:=Bool) (fun b67 H75=>
 J62 b67 H75)
 (fun J68=>ift ((x65:Int) == 6)
 (ldS H60 ((b49,0).1,(b49,0).2+3) fun x71=>
 Qcd C x71 (fun r73 H74=>
 J68 r73 H74) H60)
 (J68 false H60)))))
 (fun J55=>ift ((x52:Int) == 1)
 (J55 true H51)
 (ldI H51 .u8 ((b49,0).1,(b49,0).2+0) fun x58=>
 J55 ((x58:Int) == 5) H51))) H50) H2)
 (ift ((x3:Int) == 8)
 (dr H2 fun Hs102=>
 ldL Hs102 ((b1,0).1,(b1,0).2+8) fun x104=>
 ixa x104 0 fun p106=>
 ldT Hs102 Qa.c (p106.1,p106.2+(0:Int).toNat*9) fun x111=>
 ldL Hs102 ((b1,0).1,(b1,0).2+8) fun x113=>
 ixa x113 1 fun p115=>
 ldT Hs102 Qa.c (p115.1,p115.2+(1:Int).toNat*9) fun x120=>
 ldL Hs102 ((b1,0).1,(b1,0).2+8) fun x122=>
 ixa x122 2 fun p124=>
 ldT Hs102 Qa.c (p124.1,p124.2+(2:Int).toNat*9) fun x129=>
 QD C x111 (fun r132 H133=>
 Heap.le Hs102 H133∧
 catOk ([40,105,102,32]:Str) r132∧
 catOk (([40,105,102,32]:Str)++r132) ([32,116,104,101,110,32]:Str)∧
 QD C x120 (fun r137 H138=>
 Heap.le Hs102 H138∧
 catOk ((([40,105,102,32]:Str)++r132)++([32,116,104,101,110,32]:Str)) r137∧
 catOk (((([40,105,102,32]:Str)++r132)++([32,116,104,101,110,32]:Str))++r137) ([32,101,108,115,101,32]:Str)∧
 QD C x129 (fun r142 H143=>
 Heap.le Hs102 H143∧
 catOk ((((([40,105,102,32]:Str)++r132)++([32,116,104,101,110,32]:Str))++r137)++([32,101,108,115,101,32]:Str)) r142∧
 catOk (((((([40,105,102,32]:Str)++r132)++([32,116,104,101,110,32]:Str))++r137)++([32,101,108,115,101,32]:Str))++r142) ([41]:Str)∧
 K ((((((([40,105,102,32]:Str)++r132)++([32,116,104,101,110,32]:Str))++r137)++([32,101,108,115,101,32]:Str))++r142)++([41]:Str)) H143) H138) H133) H2)
 (ldS H2 ((b1,0).1,(b1,0).2+3) fun x146=>
 Qcd C x146 (fun r148 H149=>
 ift r148
 (dr H149 fun Hs151=>
 ldS Hs151 ((b1,0).1,(b1,0).2+3) fun x153=>
 catOk x153 ([40]:Str)∧
 ldL Hs151 ((b1,0).1,(b1,0).2+8) fun x156=>
 ixa x156 0 fun p158=>
 ldT Hs151 Qa.c (p158.1,p158.2+(0:Int).toNat*9) fun x163=>
 QD C x163 (fun r166 H167=>
 Heap.le Hs151 H167∧
 catOk (x153++([40]:Str)) r166∧
 catOk ((x153++([40]:Str))++r166) ([41]:Str)∧
 K (((x153++([40]:Str))++r166)++([41]:Str)) H167) H149)
 (ldS H149 ((b1,0).1,(b1,0).2+3) fun x170=>
 ift (x170 == ([110,111,116]:Str))
 (ldL H149 ((b1,0).1,(b1,0).2+8) fun x173=>
 ixa x173 0 fun p175=>
 ldT H149 Qa.c (p175.1,p175.2+(0:Int).toNat*9) fun x180=>
 QD C x180 (fun r182 H183=>
 catOk ([40,110,111,116,32]:Str) r182∧
 catOk (([40,110,111,116,32]:Str)++r182) ([41]:Str)∧
 K ((([40,110,111,116,32]:Str)++r182)++([41]:Str)) H183) H149)
 (dr H149 fun Hs186=>
 ldL Hs186 ((b1,0).1,(b1,0).2+8) fun x188=>
 ixa x188 0 fun p190=>
 ldT Hs186 Qa.c (p190.1,p190.2+(0:Int).toNat*9) fun x195=>
 ldS Hs186 ((b1,0).1,(b1,0).2+3) fun x197=>
 ldL Hs186 ((b1,0).1,(b1,0).2+8) fun x199=>
 ixa x199 1 fun p201=>
 ldT Hs186 Qa.c (p201.1,p201.2+(1:Int).toNat*9) fun x206=>
 QD C x195 (fun r209 H210=>
 Heap.le Hs186 H210∧
 catOk ([40]:Str) r209∧
 catOk (([40]:Str)++r209) ([32]:Str)∧
 catOk ((([40]:Str)++r209)++([32]:Str)) x197∧
 catOk (((([40]:Str)++r209)++([32]:Str))++x197) ([32]:Str)∧
 QD C x206 (fun r216 H217=>
 Heap.le Hs186 H217∧
 catOk ((((([40]:Str)++r209)++([32]:Str))++x197)++([32]:Str)) r216∧
 catOk (((((([40]:Str)++r209)++([32]:Str))++x197)++([32]:Str))++r216) ([41]:Str)∧
 K ((((((([40]:Str)++r209)++([32]:Str))++x197)++([32]:Str))++r216)++([41]:Str)) H217) H210) H149))) H2)))))))) H
theorem QmU (C p_e K H) (h:Qiv C p_e K H):QD C p_e K H:=by
 refine Ye Tryz.func111 rfl Tryz.ntmps111 [(0,.agg (Qa.c p_e).toArray)] (Zo (GL.box (v:=.agg (Qa.c p_e).toArray) (cs:=Qa.c p_e) h trivial rfl rfl rfl ?_))
 intro b1 H2 h
 refine Za (GL.nil (GC.seq (Zo (Zf (Yl h fun x3 h=>?_)))))
 refine GL.nil (GC.block (Zo (Zi (.bool ((x3:Int) == 1)) (Za (GL.nil (Yd h (fun u5 h=>?_) fun u5 h=>?_))))))
 refine Zo (Zf ?_)
 obtain ⟨x6,v7,h⟩:=h
 refine Zv (OV.loadT rfl rfl rfl v7) (Zc h Qqy ?_)
 rintro _ H9 ⟨r8,rfl,h⟩
 refine Za (GL.nil ?_)
 exact Y1 I3 ⟨r8,rfl,h⟩
 refine Zo (Zi (.bool ((x3:Int) == 2)) (Za (GL.nil (Yd h (fun u10 h=>?_) fun u10 h=>?_))))
 refine Zo (Zf (Yl h fun x11 h=>?_))
 refine Za (GL.nil ?_)
 exact Y1 I3 ⟨x11,rfl,h⟩
 refine Zo (Zi (.bool ((x3:Int) == 3)) (Za (GL.nil (Yd h (fun u13 h=>?_) fun u13 h=>?_))))
 refine Zo (Za (GL.nil ?_))
 exact Y1 I3 ⟨[95],rfl,h⟩
 refine Zo (Zi (.bool ((x3:Int) == 4)) (Za (GL.nil (Yd h (fun u14 h=>?_) fun u14 h=>?_))))
 refine Zo (Zf (Yl h fun x15 h=>?_))
 refine Zc h QfT ?_
 rintro _ H18 ⟨r17,rfl,h⟩
 obtain ⟨hl19,h⟩:=h
 refine Zv (OV.cat (a:=([40]:Str)) (b:=r17) rfl rfl hl19) ?_
 obtain ⟨hl20,h⟩:=h
 refine Zv (OV.cat (a:=(([40]:Str)++r17)) (b:=([41]:Str)) rfl rfl hl20) (Za (GL.nil ?_))
 exact Y1 I3 ⟨((([40]:Str)++r17)++([41]:Str)),rfl,h⟩
 refine Zo (Zi (.bool ((x3:Int) == 5)) (Za (GL.nil (Yd h (fun u21 h=>?_) fun u21 h=>?_))))
 refine GC.seq (Zo (Zf (Yl h fun x22 h=>?_)))
 refine Zq (Zi (.bool (((Sl.len x22:Int):Int) == 0)) (GL.nil (Yd h (fun u24 h=>?_) fun u24 h=>?_)))
 refine Zo (Zf (Yl h fun x25 h=>?_))
 refine Za (GL.nil ?_)
 exact Y1 I3 ⟨x25,rfl,h⟩
 refine GC.skip (GC.seq ?_)
 obtain ⟨Hs27,hle28,h⟩:=h
 refine GC.any (Hs:=Hs27) (by kernel_rfl) hle28 (Zp 0 rfl Yf ?_)
 obtain ⟨x29,v30,h⟩:=h
 refine Zp 1 rfl (Yo v30) ?_
 obtain ⟨hl31,h⟩:=h
 refine Zp 2 rfl (OV.cat (a:=x29) (b:=([40]:Str)) rfl rfl hl31) (Zp 3 rfl Yf ?_)
 obtain ⟨x32,v33,h⟩:=h
 refine Zp 4 rfl (Yo v33) (GA.eff 5 rfl (by kernel_rfl) (Zc h QfT ?_))
 rintro _ H36 ⟨r35,rfl,h⟩
 obtain ⟨hle34,h⟩:=h
 refine GA.back hle34 ?_
 obtain ⟨hl37,h⟩:=h
 refine Zp 6 rfl (OV.cat (a:=(x29++([40]:Str))) (b:=r35) rfl rfl hl37) ?_
 obtain ⟨hl38,h⟩:=h
 refine Zp 7 rfl (OV.cat (a:=((x29++([40]:Str))++r35)) (b:=([41]:Str)) rfl rfl hl38) (Zp 8 rfl Ya (GA.done (by kernel_rfl) (GL.nil ?_)))
 exact Y1 I3 ⟨(((x29++([40]:Str))++r35)++([41]:Str)),rfl,h⟩
 refine Zo (Zi (.bool ((x3:Int) == 7)) (Za (GL.nil (Yd h (fun u39 h=>?_) fun u39 h=>?_))))
 refine Zo (Zf (Yl h fun x40 h=>?_))
 refine Yx h fun p42 h=>?_
 obtain ⟨x47,v48,h⟩:=h
 refine Zv (OV.loadT rfl rfl rfl v48) (GL.alloc (cs:=Qa.c Qa.zero) h trivial rfl rfl rfl ?_)
 intro b49 H50 h
 refine GL.storeT (p:=(b49,0)) (vs:=Qa.c x47) h trivial rfl rfl rfl rfl ?_
 intro H51 h
 refine GL.nil (GC.seq (Zo (Zf (Yl h fun x52 h=>?_))))
 refine Zi (.bool ((x52:Int) == 1)) (Zm ?_)
 obtain ⟨J55,h,hR56⟩:=h
 refine GL.cut (α:=Bool) 4 J55 (fun b54=>[(53,.bool b54),(1,pv (some (b1,0))),(3,pv (some (b49,0)))]) ?_ ?_
 rcases h.em with ⟨u57,h⟩ | ⟨u57,h⟩
 refine Zk u57 (Zk u57 (Zk u57 (Zt u57 ?_)))
 exact Yj I3 true h
 refine Zu u57 Yf ?_
 obtain ⟨x58,v59,h⟩:=h
 refine Zu u57 (Yo v59) (Zu u57 (OV.ibin (v:=.bool ((x58:Int) == 5)) rfl rfl rfl) (Zn u57 ?_))
 exact Yj I3 ((x58:Int) == 5) h
 intro b54 H60 h
 replace h:=hR56 b54 H60 h
 refine Zm ?_
 obtain ⟨J62,h,hR63⟩:=h
 refine GL.cut (α:=Bool) 9 J62 (fun b61=>[(63,.bool b61),(1,pv (some (b1,0))),(3,pv (some (b49,0)))]) ?_ ?_
 rcases h.em with ⟨u64,h⟩ | ⟨u64,h⟩
 refine Zk u64 (Zk u64 (Zk u64 (Zk u64 (GL.skip ⟨_,rfl,.inr rfl⟩ rfl (GL.skip ⟨_,rfl,.inr rfl⟩ rfl (GL.skip ⟨_,rfl,.inr rfl⟩ rfl (Zk u64 (Zt u64 ?_))))))))
 exact Yj I3 true h
 refine Zu u64 Yf ?_
 obtain ⟨x65,v66,h⟩:=h
 refine Zu u64 (Yo v66) (Zu u64 (OV.ibin (v:=.bool ((x65:Int) == 6)) rfl rfl rfl) (Zu u64 Ym ?_))
 obtain ⟨J68,h,hR69⟩:=h
 refine GL.cut (α:=Bool) 4 J68 (fun b67=>[(62,.bool b67),(1,pv (some (b1,0))),(3,pv (some (b49,0))),(54,.bool b54)]) ?_ ?_
 rcases h.em with ⟨u70,h⟩ | ⟨u70,h⟩
 refine Zu u70 Yf ?_
 obtain ⟨x71,v72,h⟩:=h
 refine Zu u70 (Yo v72) (GL.call h (Yt u70) rfl QfR (vs:=[sv x71]) rfl ?_)
 rintro _ H74 ⟨r73,rfl,h⟩
 refine Zu u64 (OV.pickT rfl u70 rfl) ?_
 exact Yj I3 r73 h
 refine Zk u70 (Zk u70 (Zk u70 (Zu u64 (OV.pickF rfl u70 rfl) ?_)))
 exact Yj I3 false h
 intro b67 H75 h
 replace h:=hR69 b67 H75 h
 refine Zn u64 ?_
 exact Yj I3 b67 h
 intro b61 H76 h
 replace h:=hR63 b61 H76 h
 refine GL.nil (Yd h (fun u77 h=>?_) fun u77 h=>?_)
 refine GC.seq ?_
 obtain ⟨Hs78,hle79,h⟩:=h
 refine GC.any (Hs:=Hs78) (by kernel_rfl) hle79 ?_
 obtain ⟨x80,v81,h⟩:=h
 refine Zp 0 rfl (OV.loadT rfl rfl rfl v81) (Zp 4 rfl Yf ?_)
 obtain ⟨x82,v83,h⟩:=h
 refine Zp 5 rfl (Yo v83) (GA.eff 1 rfl (by kernel_rfl) (Zc h QI ?_))
 rintro _ H86 ⟨r85,rfl,h⟩
 obtain ⟨hle84,h⟩:=h
 refine GA.back hle84 ?_
 obtain ⟨hl87,h⟩:=h
 refine Zp 2 rfl (OV.cat (a:=([40]:Str)) (b:=r85) rfl rfl hl87) ?_
 obtain ⟨hl88,h⟩:=h
 refine Zp 3 rfl (OV.cat (a:=(([40]:Str)++r85)) (b:=([41,46]:Str)) rfl rfl hl88) ?_
 obtain ⟨hl89,h⟩:=h
 refine Zp 6 rfl (OV.cat (a:=((([40]:Str)++r85)++([41,46]:Str))) (b:=x82) rfl rfl hl89) (Zp 7 rfl Ya (GA.done (by kernel_rfl) (GL.nil ?_)))
 exact Y1 I3 ⟨(((([40]:Str)++r85)++([41,46]:Str))++x82),rfl,h⟩
 refine GC.skip (GC.seq ?_)
 obtain ⟨Hs90,hle91,h⟩:=h
 refine GC.any (Hs:=Hs90) (by kernel_rfl) hle91 ?_
 obtain ⟨x92,v93,h⟩:=h
 refine Zp 0 rfl (OV.loadT rfl rfl rfl v93) (Zp 3 rfl Yf ?_)
 obtain ⟨x94,v95,h⟩:=h
 refine Zp 4 rfl (Yo v95) (GA.eff 1 rfl (by kernel_rfl) (Zc h QI ?_))
 rintro _ H98 ⟨r97,rfl,h⟩
 obtain ⟨hle96,h⟩:=h
 refine GA.back hle96 ?_
 obtain ⟨hl99,h⟩:=h
 refine Zp 2 rfl (OV.cat (a:=r97) (b:=([46]:Str)) rfl rfl hl99) ?_
 obtain ⟨hl100,h⟩:=h
 refine Zp 5 rfl (OV.cat (a:=(r97++([46]:Str))) (b:=x94) rfl rfl hl100) (Zp 6 rfl Ya (GA.done (by kernel_rfl) (GL.nil ?_)))
 exact Y1 I3 ⟨((r97++([46]:Str))++x94),rfl,h⟩
 refine Zo (Zi (.bool ((x3:Int) == 8)) (Za (GL.nil (Yd h (fun u101 h=>?_) fun u101 h=>?_))))
 refine GC.seq ?_
 obtain ⟨Hs102,hle103,h⟩:=h
 refine GC.any (Hs:=Hs102) (by kernel_rfl) hle103 (Zp 0 rfl Yf ?_)
 obtain ⟨x104,v105,h⟩:=h
 refine Zp 1 rfl (Yo v105) ?_
 obtain ⟨p106,ha107,hb108,u109,hd110,h⟩:=h
 refine Zp 2 rfl (OV.indexAddr rfl rfl rfl rfl ha107 hb108 u109 hd110) ?_
 obtain ⟨x111,v112,h⟩:=h
 refine Zp 3 rfl (OV.loadT rfl rfl rfl v112) (Zp 7 rfl Yf ?_)
 obtain ⟨x113,v114,h⟩:=h
 refine Zp 8 rfl (Yo v114) ?_
 obtain ⟨p115,ha116,hb117,u118,hd119,h⟩:=h
 refine Zp 9 rfl (OV.indexAddr rfl rfl rfl rfl ha116 hb117 u118 hd119) ?_
 obtain ⟨x120,v121,h⟩:=h
 refine Zp 10 rfl (OV.loadT rfl rfl rfl v121) (Zp 14 rfl Yf ?_)
 obtain ⟨x122,v123,h⟩:=h
 refine Zp 15 rfl (Yo v123) ?_
 obtain ⟨p124,ha125,hb126,u127,hd128,h⟩:=h
 refine Zp 16 rfl (OV.indexAddr rfl rfl rfl rfl ha125 hb126 u127 hd128) ?_
 obtain ⟨x129,v130,h⟩:=h
 refine Zp 17 rfl (OV.loadT rfl rfl rfl v130) (GA.eff 4 rfl (by kernel_rfl) (Zc h QI ?_))
 rintro _ H133 ⟨r132,rfl,h⟩
 obtain ⟨hle131,h⟩:=h
 refine GA.back hle131 ?_
 obtain ⟨hl134,h⟩:=h
 refine Zp 5 rfl (OV.cat (a:=([40,105,102,32]:Str)) (b:=r132) rfl rfl hl134) ?_
 obtain ⟨hl135,h⟩:=h
 refine Zp 6 rfl (OV.cat (a:=(([40,105,102,32]:Str)++r132)) (b:=([32,116,104,101,110,32]:Str)) rfl rfl hl135) (GA.eff 11 rfl (by kernel_rfl) (Zc h QI ?_))
 rintro _ H138 ⟨r137,rfl,h⟩
 obtain ⟨hle136,h⟩:=h
 refine GA.back hle136 ?_
 obtain ⟨hl139,h⟩:=h
 refine Zp 12 rfl (OV.cat (a:=((([40,105,102,32]:Str)++r132)++([32,116,104,101,110,32]:Str))) (b:=r137) rfl rfl hl139) ?_
 obtain ⟨hl140,h⟩:=h
 refine Zp 13 rfl (OV.cat (a:=(((([40,105,102,32]:Str)++r132)++([32,116,104,101,110,32]:Str))++r137)) (b:=([32,101,108,115,101,32]:Str)) rfl rfl hl140) (GA.eff 18 rfl (by kernel_rfl) (Zc h QI ?_))
 rintro _ H143 ⟨r142,rfl,h⟩
 obtain ⟨hle141,h⟩:=h
 refine GA.back hle141 ?_
 obtain ⟨hl144,h⟩:=h
 refine Zp 19 rfl (OV.cat (a:=((((([40,105,102,32]:Str)++r132)++([32,116,104,101,110,32]:Str))++r137)++([32,101,108,115,101,32]:Str))) (b:=r142) rfl rfl hl144) ?_
 obtain ⟨hl145,h⟩:=h
 refine Zp 20 rfl (OV.cat (a:=(((((([40,105,102,32]:Str)++r132)++([32,116,104,101,110,32]:Str))++r137)++([32,101,108,115,101,32]:Str))++r142)) (b:=([41]:Str)) rfl rfl hl145) (Zp 21 rfl Ya (GA.done (by kernel_rfl) (GL.nil ?_)))
 exact Y1 I3 ⟨((((((([40,105,102,32]:Str)++r132)++([32,116,104,101,110,32]:Str))++r137)++([32,101,108,115,101,32]:Str))++r142)++([41]:Str)),rfl,h⟩
 refine GC.skip_to (fun _ _ h=>h) (GC.seq (Zo (Zf ?_)))
 refine Yl h fun x146 h=>?_
 refine Zc h QfR ?_
 rintro _ H149 ⟨r148,rfl,h⟩
 refine GL.nil (Yd h (fun u150 h=>?_) fun u150 h=>?_)
 refine GC.seq ?_
 obtain ⟨Hs151,hle152,h⟩:=h
 refine GC.any (Hs:=Hs151) (by kernel_rfl) hle152 (Zp 0 rfl Yf ?_)
 obtain ⟨x153,v154,h⟩:=h
 refine Zp 1 rfl (Yo v154) ?_
 obtain ⟨hl155,h⟩:=h
 refine Zp 2 rfl (OV.cat (a:=x153) (b:=([40]:Str)) rfl rfl hl155) (Zp 3 rfl Yf ?_)
 obtain ⟨x156,v157,h⟩:=h
 refine Zp 4 rfl (Yo v157) ?_
 obtain ⟨p158,ha159,hb160,u161,hd162,h⟩:=h
 refine Zp 5 rfl (OV.indexAddr rfl rfl rfl rfl ha159 hb160 u161 hd162) ?_
 obtain ⟨x163,v164,h⟩:=h
 refine Zp 6 rfl (OV.loadT rfl rfl rfl v164) (GA.eff 7 rfl (by kernel_rfl) (Zc h QI ?_))
 rintro _ H167 ⟨r166,rfl,h⟩
 obtain ⟨hle165,h⟩:=h
 refine GA.back hle165 ?_
 obtain ⟨hl168,h⟩:=h
 refine Zp 8 rfl (OV.cat (a:=(x153++([40]:Str))) (b:=r166) rfl rfl hl168) ?_
 obtain ⟨hl169,h⟩:=h
 refine Zp 9 rfl (OV.cat (a:=((x153++([40]:Str))++r166)) (b:=([41]:Str)) rfl rfl hl169) (Zp 10 rfl Ya (GA.done (by kernel_rfl) (GL.nil ?_)))
 exact Y1 I3 ⟨(((x153++([40]:Str))++r166)++([41]:Str)),rfl,h⟩
 refine GC.skip (GC.seq (Zo (Zf (Yl h fun x170 h=>?_))))
 refine Zv (OV.sbin (a:=x170) (b:=([110,111,116]:Str)) (v:=.bool (x170 == ([110,111,116]:Str))) rfl rfl rfl) (GL.nil (Yd h (fun u172 h=>?_) fun u172 h=>?_))
 refine Zo (Zf (Yl h fun x173 h=>?_))
 refine Yx h fun p175 h=>?_
 obtain ⟨x180,v181,h⟩:=h
 refine Zv (OV.loadT rfl rfl rfl v181) (Zc h QI ?_)
 rintro _ H183 ⟨r182,rfl,h⟩
 obtain ⟨hl184,h⟩:=h
 refine Zv (OV.cat (a:=([40,110,111,116,32]:Str)) (b:=r182) rfl rfl hl184) ?_
 obtain ⟨hl185,h⟩:=h
 refine Zv (OV.cat (a:=(([40,110,111,116,32]:Str)++r182)) (b:=([41]:Str)) rfl rfl hl185) (Za (GL.nil ?_))
 exact Y1 I3 ⟨((([40,110,111,116,32]:Str)++r182)++([41]:Str)),rfl,h⟩
 refine GC.skip (GC.seq ?_)
 obtain ⟨Hs186,hle187,h⟩:=h
 refine GC.any (Hs:=Hs186) (by kernel_rfl) hle187 (Zp 0 rfl Yf ?_)
 obtain ⟨x188,v189,h⟩:=h
 refine Zp 1 rfl (Yo v189) ?_
 obtain ⟨p190,ha191,hb192,u193,hd194,h⟩:=h
 refine Zp 2 rfl (OV.indexAddr rfl rfl rfl rfl ha191 hb192 u193 hd194) ?_
 obtain ⟨x195,v196,h⟩:=h
 refine Zp 3 rfl (OV.loadT rfl rfl rfl v196) (Zp 7 rfl Yf ?_)
 obtain ⟨x197,v198,h⟩:=h
 refine Zp 8 rfl (Yo v198) (Zp 11 rfl Yf ?_)
 obtain ⟨x199,v200,h⟩:=h
 refine Zp 12 rfl (Yo v200) ?_
 obtain ⟨p201,ha202,hb203,u204,hd205,h⟩:=h
 refine Zp 13 rfl (OV.indexAddr rfl rfl rfl rfl ha202 hb203 u204 hd205) ?_
 obtain ⟨x206,v207,h⟩:=h
 refine Zp 14 rfl (OV.loadT rfl rfl rfl v207) (GA.eff 4 rfl (by kernel_rfl) (Zc h QI ?_))
 rintro _ H210 ⟨r209,rfl,h⟩
 obtain ⟨hle208,h⟩:=h
 refine GA.back hle208 ?_
 obtain ⟨hl211,h⟩:=h
 refine Zp 5 rfl (OV.cat (a:=([40]:Str)) (b:=r209) rfl rfl hl211) ?_
 obtain ⟨hl212,h⟩:=h
 refine Zp 6 rfl (OV.cat (a:=(([40]:Str)++r209)) (b:=([32]:Str)) rfl rfl hl212) ?_
 obtain ⟨hl213,h⟩:=h
 refine Zp 9 rfl (OV.cat (a:=((([40]:Str)++r209)++([32]:Str))) (b:=x197) rfl rfl hl213) ?_
 obtain ⟨hl214,h⟩:=h
 refine Zp 10 rfl (OV.cat (a:=(((([40]:Str)++r209)++([32]:Str))++x197)) (b:=([32]:Str)) rfl rfl hl214) (GA.eff 15 rfl (by kernel_rfl) (Zc h QI ?_))
 rintro _ H217 ⟨r216,rfl,h⟩
 obtain ⟨hle215,h⟩:=h
 refine GA.back hle215 ?_
 obtain ⟨hl218,h⟩:=h
 refine Zp 16 rfl (OV.cat (a:=((((([40]:Str)++r209)++([32]:Str))++x197)++([32]:Str))) (b:=r216) rfl rfl hl218) ?_
 obtain ⟨hl219,h⟩:=h
 refine Zp 17 rfl (OV.cat (a:=(((((([40]:Str)++r209)++([32]:Str))++x197)++([32]:Str))++r216)) (b:=([41]:Str)) rfl rfl hl219) (Zp 18 rfl Ya (GA.done (by kernel_rfl) (GL.nil ?_)))
 exact Y1 I3 ⟨((((((([40]:Str)++r209)++([32]:Str))++x197)++([32]:Str))++r216)++([41]:Str)),rfl,h⟩
def Qll (C:Ctx) (p_l:Sl) (K:Str→Heap→Prop) (H:Heap):Prop:=
 lp (α:=Str×Int) ([],0) H (fun x1 J2 H3=>
 ift (decide ((x1.2:Int) < (Sl.len p_l:Int)))
 (jn (α:=Str) (fun x6 H7=>
 ixa p_l x1.2 fun p11=>
 ldT H7 Qa.c (p11.1,p11.2+(x1.2:Int).toNat*9) fun x16=>
 QD C x16 (fun r18 H19=>
 catOk x6 r18∧
 J2 ((x6++r18),(w .i64 (x1.2+1))) H19) H7)
 (fun J5=>ift (decide ((x1.2:Int) > 0))
 (catOk x1.1 ([44,32]:Str)∧
 J5 (x1.1++([44,32]:Str)) H3)
 (J5 x1.1 H3)))
 (K x1.1 H3))
theorem Qo5 (C p_l K H) (h:Qll C p_l K H):Qby C p_l K H:=by
 refine Ye Tryz.func112 rfl Tryz.ntmps112 [(0,slv p_l)] (Zo (Za (GL.nil (Zo (Za (GL.nil (GC.seq (Zo (Za (GL.nil (GC.block (Yp h (fun x1=>[(3,sv x1.1),(4,.int .i64 x1.2),(0,slv p_l)]) ?_))))))))))))
 intro x1 H3 J2 h
 refine GC.seq (Zo (Zm (Zm (Zq (Zi (.bool (decide ((x1.2:Int) < (Sl.len p_l:Int)))) (GL.nil (Yd h (fun u4 h=>?_) fun u4 h=>?_)))))))
 refine GC.skip (GC.seq (GC.block ?_))
 obtain ⟨J5,h,hR8⟩:=h
 refine GC.join (α:=Str) J5 (fun x6=>[(3,sv x6),(0,slv p_l),(4,.int .i64 x1.2)]) ?_ ?_
 refine Zo (Zm (Zi (.bool (decide ((x1.2:Int) > 0))) (GL.nil (Yd h (fun u9 h=>?_) fun u9 h=>?_))))
 refine GC.region (Zm ?_)
 obtain ⟨hl10,h⟩:=h
 refine Zv (OV.cat (a:=x1.1) (b:=([44,32]:Str)) rfl rfl hl10) (Za ?_)
 exact Yj I3 (x1.1++([44,32]:Str)) h
 exact Yk I3 x1.1 h
 intro x6 H7 h
 replace h:=hR8 x6 H7 h
 refine GC.region (Zm (Zm (Zm (Yx h fun p11 h=>?_))))
 obtain ⟨x16,v17,h⟩:=h
 refine Zv (OV.loadT rfl rfl rfl v17) (Zc h QI ?_)
 rintro _ H19 ⟨r18,rfl,h⟩
 obtain ⟨hl20,h⟩:=h
 refine Zv (OV.cat (a:=x6) (b:=r18) rfl rfl hl20) (Za (GL.nil_to (fun _ _ h=>h) (GC.region (Zm (Zi (.int .i64 (w .i64 (x1.2+1))) (Za ?_))))))
 exact Yj I3 ((x6++r18),(w .i64 (x1.2+1))) h
 refine GC.exit_to (fun _ _ h=>h) (Zo (Zm (Za (GL.nil ?_))))
 exact Y1 I3 ⟨x1.1,rfl,h⟩
def Qed (C:Ctx) (p_l:Sl) (p_depth:Value) (K:Int→Heap→Prop) (H:Heap):Prop:=
 lp (α:=Int×Int) (0,0) H (fun x1 J2 H3=>
 ift (decide ((x1.2:Int) < (Sl.len p_l:Int)))
 (ixa p_l x1.2 fun p5=>
 ldT H3 Qf.c (p5.1,p5.2+(x1.2:Int).toNat*6) fun x10=>
 nw (Qf.c Qf.zero) (fun b12 H13=>
 stT (b12,0) (Qf.c x10) (fun H14=>
 ldT H14 Qf.c (b12,0) fun x15=>
 callU Tryz.prog C p_depth [.agg (Qf.c x15).toArray] H14 (fun v H18=>∃ (r17:Int),v=.int .i64 r17∧
 J2 ((if r17 > x1.1 then r17 else x1.1:Int),(w .i64 (x1.2+1))) H18)) H13) H3)
 (K x1.1 H3))
theorem QgH (C p_l p_depth K H) (h:Qed C p_l p_depth K H):QX C p_l p_depth K H:=by
 refine Ye Tryz.func113 rfl Tryz.ntmps113 [(0,slv p_l),(1,p_depth)] (Zo (Za (GL.nil (Zo (Za (GL.nil (GC.seq (Zo (Zm (Zq (Zm (GL.nil (GC.block (Yp h (fun x1=>[(5,.int .i64 x1.1),(10,.int .i64 x1.2),(1,p_depth),(8,slv p_l),(9,.int .i64 (Sl.len p_l:Int))]) ?_))))))))))))))
 intro x1 H3 J2 h
 refine Zo (Zi (.bool (decide ((x1.2:Int) < (Sl.len p_l:Int)))) (GL.nil (GC.seq (Yd h (fun u4 h=>?_) fun u4 h=>?_))))
 refine GC.skip (GC.seq (GC.block (Zo (Yx h fun p5 h=>?_))))
 obtain ⟨x10,v11,h⟩:=h
 refine Zv (OV.loadT rfl rfl rfl v11) (GL.alloc (cs:=Qf.c Qf.zero) h trivial rfl rfl rfl ?_)
 intro b12 H13 h
 refine GL.storeT (p:=(b12,0)) (vs:=Qf.c x10) h trivial rfl rfl rfl rfl ?_
 intro H14 h
 refine GL.nil (GC.region (Zm (Zm ?_)))
 obtain ⟨x15,v16,h⟩:=h
 refine Zv (OV.loadT rfl rfl rfl v16) (GL.callU (xv:=p_depth) (vs:=[.agg (Qf.c x15).toArray]) h trivial rfl rfl rfl ?_)
 rintro _ H18 ⟨r17,rfl,h⟩
 refine Zv (OV.maxI rfl rfl) (Za (GL.nil_to (fun _ _ h=>h) (GC.region (Zi (.int .i64 (w .i64 (x1.2+1))) (Zm ?_)))))
 exact Yj I3 ((if r17 > x1.1 then r17 else x1.1:Int),(w .i64 (x1.2+1))) h
 refine GC.exit_to (fun _ _ h=>h) (Zo (Zm (Za (GL.nil ?_))))
 exact Y1 I3 ⟨x1.1,rfl,h⟩
def Qlv (C:Ctx) (p_t:Qf) (K:Int→Heap→Prop) (H:Heap):Prop:=
 nw (Qf.c p_t) (fun b1 H2=>
 ldL H2 ((b1,0).1,(b1,0).2+5) fun x3=>
 QW C x3 (.func (.func 116) (List.toArray []) (List.toArray []):Value) (fun r5 H6=>
 K r5 H6) H2) H
theorem Qpf (C p_t K H) (h:Qlv C p_t K H):Qel C p_t K H:=by
 refine Ye Tryz.func114 rfl Tryz.ntmps114 [(0,.agg (Qf.c p_t).toArray)] (Zo (GL.box (v:=.agg (Qf.c p_t).toArray) (cs:=Qf.c p_t) h trivial rfl rfl rfl ?_))
 intro b1 H2 h
 refine Za (GL.nil (Zo (Zf (Yl h fun x3 h=>?_))))
 refine Zc h QgS ?_
 rintro _ H6 ⟨r5,rfl,h⟩
 refine Za (GL.nil ?_)
 exact Y1 I3 ⟨r5,rfl,h⟩
def Qeb (C:Ctx) (p_l:Sl) (p_depth:Value) (K:Int→Heap→Prop) (H:Heap):Prop:=
 lp (α:=Int×Int) (0,0) H (fun x1 J2 H3=>
 ift (decide ((x1.2:Int) < (Sl.len p_l:Int)))
 (ixa p_l x1.2 fun p5=>
 ldT H3 Qh.c (p5.1,p5.2+(x1.2:Int).toNat*2) fun x10=>
 nw (Qh.c Qh.zero) (fun b12 H13=>
 stT (b12,0) (Qh.c x10) (fun H14=>
 ldT H14 Qh.c (b12,0) fun x15=>
 callU Tryz.prog C p_depth [.agg (Qh.c x15).toArray] H14 (fun v H18=>∃ (r17:Int),v=.int .i64 r17∧
 J2 ((if r17 > x1.1 then r17 else x1.1:Int),(w .i64 (x1.2+1))) H18)) H13) H3)
 (K x1.1 H3))
theorem QgF (C p_l p_depth K H) (h:Qeb C p_l p_depth K H):QW C p_l p_depth K H:=by
 refine Ye Tryz.func115 rfl Tryz.ntmps115 [(0,slv p_l),(1,p_depth)] (Zo (Za (GL.nil (Zo (Za (GL.nil (GC.seq (Zo (Zm (Zq (Zm (GL.nil (GC.block (Yp h (fun x1=>[(5,.int .i64 x1.1),(10,.int .i64 x1.2),(1,p_depth),(8,slv p_l),(9,.int .i64 (Sl.len p_l:Int))]) ?_))))))))))))))
 intro x1 H3 J2 h
 refine Zo (Zi (.bool (decide ((x1.2:Int) < (Sl.len p_l:Int)))) (GL.nil (GC.seq (Yd h (fun u4 h=>?_) fun u4 h=>?_))))
 refine GC.skip (GC.seq (GC.block (Zo (Yx h fun p5 h=>?_))))
 obtain ⟨x10,v11,h⟩:=h
 refine Zv (OV.loadT rfl rfl rfl v11) (GL.alloc (cs:=Qh.c Qh.zero) h trivial rfl rfl rfl ?_)
 intro b12 H13 h
 refine GL.storeT (p:=(b12,0)) (vs:=Qh.c x10) h trivial rfl rfl rfl rfl ?_
 intro H14 h
 refine GL.nil (GC.region (Zm (Zm ?_)))
 obtain ⟨x15,v16,h⟩:=h
 refine Zv (OV.loadT rfl rfl rfl v16) (GL.callU (xv:=p_depth) (vs:=[.agg (Qh.c x15).toArray]) h trivial rfl rfl rfl ?_)
 rintro _ H18 ⟨r17,rfl,h⟩
 refine Zv (OV.maxI rfl rfl) (Za (GL.nil_to (fun _ _ h=>h) (GC.region (Zi (.int .i64 (w .i64 (x1.2+1))) (Zm ?_)))))
 exact Yj I3 ((if r17 > x1.1 then r17 else x1.1:Int),(w .i64 (x1.2+1))) h
 refine GC.exit_to (fun _ _ h=>h) (Zo (Zm (Za (GL.nil ?_))))
 exact Y1 I3 ⟨x1.1,rfl,h⟩
def Qjl (C:Ctx) (p_c:Qh) (K:Int→Heap→Prop) (H:Heap):Prop:=
 nw (Qh.c p_c) (fun b1 H2=>
 ldL H2 ((b1,0).1,(b1,0).2+1) fun x3=>
 QE C x3 (.func (.func 118) (List.toArray []) (List.toArray []):Value) (fun r5 H6=>
 K r5 H6) H2) H
theorem QnH (C p_c K H) (h:Qjl C p_c K H):QcL C p_c K H:=by
 refine Ye Tryz.func116 rfl Tryz.ntmps116 [(0,.agg (Qh.c p_c).toArray)] (Zo (GL.box (v:=.agg (Qh.c p_c).toArray) (cs:=Qh.c p_c) h trivial rfl rfl rfl ?_))
 intro b1 H2 h
 refine Za (GL.nil (Zo (Zf (Yl h fun x3 h=>?_))))
 refine Zc h QdO ?_
 rintro _ H6 ⟨r5,rfl,h⟩
 refine Za (GL.nil ?_)
 exact Y1 I3 ⟨r5,rfl,h⟩
def QdS (C:Ctx) (p_l:Sl) (p_depth:Value) (K:Int→Heap→Prop) (H:Heap):Prop:=
 lp (α:=Int×Int) (0,0) H (fun x1 J2 H3=>
 ift (decide ((x1.2:Int) < (Sl.len p_l:Int)))
 (ixa p_l x1.2 fun p5=>
 ldT H3 Qd.c (p5.1,p5.2+(x1.2:Int).toNat*3) fun x10=>
 nw (Qd.c Qd.zero) (fun b12 H13=>
 stT (b12,0) (Qd.c x10) (fun H14=>
 ldT H14 Qd.c (b12,0) fun x15=>
 callU Tryz.prog C p_depth [.agg (Qd.c x15).toArray] H14 (fun v H18=>∃ (r17:Int),v=.int .i64 r17∧
 J2 ((if r17 > x1.1 then r17 else x1.1:Int),(w .i64 (x1.2+1))) H18)) H13) H3)
 (K x1.1 H3))
theorem Qgw (C p_l p_depth K H) (h:QdS C p_l p_depth K H):QE C p_l p_depth K H:=by
 refine Ye Tryz.func117 rfl Tryz.ntmps117 [(0,slv p_l),(1,p_depth)] (Zo (Za (GL.nil (Zo (Za (GL.nil (GC.seq (Zo (Zm (Zq (Zm (GL.nil (GC.block (Yp h (fun x1=>[(5,.int .i64 x1.1),(10,.int .i64 x1.2),(1,p_depth),(8,slv p_l),(9,.int .i64 (Sl.len p_l:Int))]) ?_))))))))))))))
 intro x1 H3 J2 h
 refine Zo (Zi (.bool (decide ((x1.2:Int) < (Sl.len p_l:Int)))) (GL.nil (GC.seq (Yd h (fun u4 h=>?_) fun u4 h=>?_))))
 refine GC.skip (GC.seq (GC.block (Zo (Yx h fun p5 h=>?_))))
 obtain ⟨x10,v11,h⟩:=h
 refine Zv (OV.loadT rfl rfl rfl v11) (GL.alloc (cs:=Qd.c Qd.zero) h trivial rfl rfl rfl ?_)
 intro b12 H13 h
 refine GL.storeT (p:=(b12,0)) (vs:=Qd.c x10) h trivial rfl rfl rfl rfl ?_
 intro H14 h
 refine GL.nil (GC.region (Zm (Zm ?_)))
 obtain ⟨x15,v16,h⟩:=h
 refine Zv (OV.loadT rfl rfl rfl v16) (GL.callU (xv:=p_depth) (vs:=[.agg (Qd.c x15).toArray]) h trivial rfl rfl rfl ?_)
 rintro _ H18 ⟨r17,rfl,h⟩
 refine Zv (OV.maxI rfl rfl) (Za (GL.nil_to (fun _ _ h=>h) (GC.region (Zi (.int .i64 (w .i64 (x1.2+1))) (Zm ?_)))))
 exact Yj I3 ((if r17 > x1.1 then r17 else x1.1:Int),(w .i64 (x1.2+1))) h
 refine GC.exit_to (fun _ _ h=>h) (Zo (Zm (Za (GL.nil ?_))))
 exact Y1 I3 ⟨x1.1,rfl,h⟩
def Qhq (C:Ctx) (p_f:Qd) (K:Int→Heap→Prop) (H:Heap):Prop:=
 nw (Qd.c p_f) (fun b1 H2=>
 ldT H2 Qe.c ((b1,0).1,(b1,0).2+1) fun x3=>
 QbO C x3 (fun r5 H6=>
 K r5 H6) H2) H
theorem Ql5 (C p_f K H) (h:Qhq C p_f K H):Qb5 C p_f K H:=by
 refine Ye Tryz.func118 rfl Tryz.ntmps118 [(0,.agg (Qd.c p_f).toArray)] (Zo (GL.box (v:=.agg (Qd.c p_f).toArray) (cs:=Qd.c p_f) h trivial rfl rfl rfl ?_))
 intro b1 H2 h
 refine Za (GL.nil (Zo (Zf ?_)))
 obtain ⟨x3,v4,h⟩:=h
 refine Zv (OV.loadT rfl rfl rfl v4) (Zc h Qir ?_)
 rintro _ H6 ⟨r5,rfl,h⟩
 refine Za (GL.nil ?_)
 exact Y1 I3 ⟨r5,rfl,h⟩
end
end Sx
end
