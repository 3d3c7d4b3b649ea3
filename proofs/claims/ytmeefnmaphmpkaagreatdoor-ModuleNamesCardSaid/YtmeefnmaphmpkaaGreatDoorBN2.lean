/-
  Texts of this family, one behind the other: Sh2, Sh3, Sh4.
-/
import Derived.Test.YtmeefnmaphmpkaaGreatDoorBN1
noncomputable section
set_option linter.unusedVariables false
set_option linter.unusedSimpArgs false
set_option maxRecDepth 10000
namespace Sx
section
set_option maxRecDepth 100000
open Go Go.Proofs
def QfQ (C:Ctx) (p_l:Sl) (K:Qa→Qe→Int→Heap→Prop) (H:Heap):Prop:=
 nw (Qa.c Qa.zero) (fun b1 H2=>
 nw (Qe.c Qe.zero) (fun b3 H4=>
 nw ([.int .i64 0]) (fun b5 H6=>
 ift (((Sl.len p_l:Int):Int) == 0)
 (stT (b1,0) (Qa.c (⟨[],Sl.nil,Sl.nil,Sl.nil,Sl.nil,Sl.nil⟩:Qa)) (fun H8=>
 stT (b3,0) (Qe.c (⟨[],Qj.zero⟩:Qe)) (fun H9=>
 st (b5,0) (.int .i64 1) (fun H10=>
 ldT H10 Qa.c (b1,0) fun x11=>ldT H10 Qe.c (b3,0) fun x13=>ldI H10 .i64 (b5,0) fun x15=>
 K x11 x13 x15 H10) H9) H8) H6)
 (ift (decide (((Sl.len p_l:Int):Int) > 8))
 (stT (b1,0) (Qa.c (⟨[],Sl.nil,Sl.nil,Sl.nil,Sl.nil,Sl.nil⟩:Qa)) (fun H18=>
 stT (b3,0) (Qe.c (⟨[],Qj.zero⟩:Qe)) (fun H19=>
 st (b5,0) (.int .i64 3) (fun H20=>
 ldT H20 Qa.c (b1,0) fun x21=>ldT H20 Qe.c (b3,0) fun x23=>ldI H20 .i64 (b5,0) fun x25=>
 K x21 x23 x25 H20) H19) H18) H6)
 (∃ E27:Value→Heap→Prop,(∀ v29 H30,E27 v29 H30→SpecD Tryz.prog C 21 [pv (some (b1,0)),pv (some (b3,0)),pv (some (b5,0))] (.panicking [⟨v29,false,false⟩]) H30 (fun u H31=>settle u=.returning∧
 ldT H31 Qa.c (b1,0) fun x32=>ldT H31 Qe.c (b3,0) fun x33=>ldI H31 .i64 (b5,0) fun x34=>
 K x32 x33 x34 H31))∧
 mkM (fun b35 H36=>
 nw (QU.c (⟨p_l,(some b35)⟩:QU)) (fun b37 H38=>
 QbF C E27 (some (b37,0)) (fun H39=>
 Qbu C E27 (some (b37,0)) (fun H40=>
 lp (α:=Int) 0 H40 (fun x41 J42 H43=>
 ift (decide ((x41:Int) < (Sl.len p_l:Int)))
 (ixa p_l x41 fun p45=>
 ldT H43 Qa.c (p45.1,p45.2+(x41:Int).toNat*6) fun x50=>
 nw (Qa.c Qa.zero) (fun b52 H53=>
 stT (b52,0) (Qa.c x50) (fun H54=>
 ldT H54 Qa.c (b52,0) fun x55=>
 Qb6 C E27 (some (b37,0)) x55 (fun H57=>
 J42 (w .i64 (x41+1)) H57) H54) H53) H43)
 (QbG C E27 (some (b37,0)) (fun H58=>
 ixa p_l 0 fun p59=>
 ldS H58 ((p59.1,p59.2+(0:Int).toNat*6).1,(p59.1,p59.2+(0:Int).toNat*6).2+0) fun x64=>
 st ((b1,0).1,(b1,0).2+0) (sv x64) (fun H66=>
 lp (α:=Int) 0 H66 (fun x67 J68 H69=>
 ift (decide ((x67:Int) < (Sl.len p_l:Int)))
 (ixa p_l x67 fun p71=>
 ldT H69 Qa.c (p71.1,p71.2+(x67:Int).toNat*6) fun x76=>
 nw (Qa.c Qa.zero) (fun b78 H79=>
 stT (b78,0) (Qa.c x76) (fun H80=>
 ldT H80 Qa.c (b78,0) fun x81=>
 Qcn C E27 (some (b37,0)) (some (b1,0)) x81 (fun H83=>
 J68 (w .i64 (x67+1)) H83) H80) H79) H69)
 (ldT H69 Qa.c (b1,0) fun x84=>
 stT (b1,0) (Qa.c x84) (fun H86=>
 stT (b3,0) (Qe.c (⟨[],Qj.zero⟩:Qe)) (fun H87=>
 st (b5,0) (.int .i64 0) (fun H88=>
 SpecD Tryz.prog C 21 [pv (some (b1,0)),pv (some (b3,0)),pv (some (b5,0))] .returning H88 (fun u H89=>u=.returning∧
 ldT H89 Qa.c (b1,0) fun x90=>ldT H89 Qe.c (b3,0) fun x91=>ldI H89 .i64 (b5,0) fun x92=>
 K x90 x91 x92 H89)) H87) H86) H69))) H58) H43))) H39) H38) H36) H6))) H4) H2) H
theorem QiI (C p_l K H) (h:QfQ C p_l K H):QdX C p_l K H:=by
 refine Spec.enterD Tryz.func12 rfl Tryz.ntmps12 rfl (GC.sub [(0,slv p_l)] ⟨rfl,trivial⟩ (Zo (GL.alloc (cs:=Qa.c Qa.zero) h trivial rfl rfl rfl ?_)))
 intro b1 H2 h
 refine GL.alloc (cs:=Qe.c Qe.zero) h trivial rfl rfl rfl ?_
 intro b3 H4 h
 refine GL.alloc (cs:=[.int .i64 0]) h trivial rfl rfl rfl ?_
 intro b5 H6 h
 refine GL.nil (GC.seq (GC.block (Zo (Zm (Zq (Zi (.bool (((Sl.len p_l:Int):Int) == 0)) (Za (GL.nil (Yd h (fun u7 h=>?_) fun u7 h=>?_)))))))))
 refine Zo (Zv (OV.build (vs:=[]) (v:=.agg (Qa.c (⟨[],Sl.nil,Sl.nil,Sl.nil,Sl.nil,Sl.nil⟩:Qa)).toArray) rfl (fun _=>by kernel_rfl)) (Zv (OV.build (vs:=[]) (v:=.agg (Qe.c (⟨[],Qj.zero⟩:Qe)).toArray) rfl (fun _=>by kernel_rfl)) (GL.storeT (p:=(b1,0)) (vs:=Qa.c (⟨[],Sl.nil,Sl.nil,Sl.nil,Sl.nil,Sl.nil⟩:Qa)) h trivial rfl rfl rfl rfl ?_)))
 intro H8 h
 refine GL.storeT (p:=(b3,0)) (vs:=Qe.c (⟨[],Qj.zero⟩:Qe)) h trivial rfl rfl rfl rfl ?_
 intro H9 h
 refine GL.store (p:=(b5,0)) (v:=.int .i64 1) h trivial rfl rfl rfl rfl ?_
 intro H10 h
 refine GL.nil ?_
 obtain ⟨x11,v12,h⟩:=h
 obtain ⟨x13,v14,h⟩:=h
 obtain ⟨x15,v16,h⟩:=h
 exact GC.ret (fun _ _ hf hs=>postD hf (Qmr rfl (RV.cellT (p:=(b1,0)) (cs:=Qa.c x11) rfl rfl rfl v12) (RV.cellT (p:=(b3,0)) (cs:=Qe.c x13) rfl rfl rfl v14) (RV.cell (p:=(b5,0)) rfl rfl v16) hf hs ⟨x11,x13,x15,rfl,h⟩))
 refine Zo (Zm (Zq (Zi (.bool (decide (((Sl.len p_l:Int):Int) > 8))) (Za (GL.nil (Yd h (fun u17 h=>?_) fun u17 h=>?_))))))
 refine Zo (Zv (OV.build (vs:=[]) (v:=.agg (Qa.c (⟨[],Sl.nil,Sl.nil,Sl.nil,Sl.nil,Sl.nil⟩:Qa)).toArray) rfl (fun _=>by kernel_rfl)) (Zv (OV.build (vs:=[]) (v:=.agg (Qe.c (⟨[],Qj.zero⟩:Qe)).toArray) rfl (fun _=>by kernel_rfl)) (GL.storeT (p:=(b1,0)) (vs:=Qa.c (⟨[],Sl.nil,Sl.nil,Sl.nil,Sl.nil,Sl.nil⟩:Qa)) h trivial rfl rfl rfl rfl ?_)))
 intro H18 h
 refine GL.storeT (p:=(b3,0)) (vs:=Qe.c (⟨[],Qj.zero⟩:Qe)) h trivial rfl rfl rfl rfl ?_
 intro H19 h
 refine GL.store (p:=(b5,0)) (v:=.int .i64 3) h trivial rfl rfl rfl rfl ?_
 intro H20 h
 refine GL.nil ?_
 obtain ⟨x21,v22,h⟩:=h
 obtain ⟨x23,v24,h⟩:=h
 obtain ⟨x25,v26,h⟩:=h
 exact GC.ret (fun _ _ hf hs=>postD hf (Qmr rfl (RV.cellT (p:=(b1,0)) (cs:=Qa.c x21) rfl rfl rfl v22) (RV.cellT (p:=(b3,0)) (cs:=Qe.c x23) rfl rfl rfl v24) (RV.cell (p:=(b5,0)) rfl rfl v26) hf hs ⟨x21,x23,x25,rfl,h⟩))
 refine GC.skip_to I3 (Zo (Zv (OV.makeFunc (vs:=[]) (us:=[pv (some (b1,0)),pv (some (b3,0)),pv (some (b5,0))]) rfl rfl) ?_))
 obtain ⟨E27,hE28,h⟩:=h
 refine GL.defer (f:=21) (cs:=[pv (some (b1,0)),pv (some (b3,0)),pv (some (b5,0))]) trivial rfl (GL.nil (Zo (Zm (GL.makeMap h trivial rfl ?_))))
 intro b35 H36 h
 refine Zv (OV.build (vs:=[(0,slv p_l),(1,mv (some b35))]) (v:=.agg (QU.c (⟨p_l,(some b35)⟩:QU)).toArray) rfl (fun _=>by kernel_rfl)) (GL.box (v:=.agg (QU.c (⟨p_l,(some b35)⟩:QU)).toArray) (cs:=QU.c (⟨p_l,(some b35)⟩:QU)) h trivial rfl rfl rfl ?_)
 intro b37 H38 h
 refine Za (GL.nil (Zo (Zm (GL.callP h (Qiw Qa.c Qe.c rfl rfl rfl rfl rfl (fun _=>rfl) rfl (fun _=>rfl) rfl QaF hE28) trivial rfl QfD (vs:=[pv (some (b37,0))]) rfl ?_))))
 rintro _ H39 ⟨rfl,h⟩
 refine GL.nil (Zo (Zm (GL.callP h (Qiw Qa.c Qe.c rfl rfl rfl rfl rfl (fun _=>rfl) rfl (fun _=>rfl) rfl QaF hE28) trivial rfl Qe4 (vs:=[pv (some (b37,0))]) rfl ?_)))
 rintro _ H40 ⟨rfl,h⟩
 refine GL.nil (GC.seq (Zo (Zm (Zq (Zm (GL.nil (GC.block (Yp h (fun x41=>[(33,.int .i64 x41),(0,slv p_l),(2,pv (some (b1,0))),(3,pv (some (b3,0))),(4,pv (some (b5,0))),(5,pv (some (b37,0))),(31,slv p_l),(32,.int .i64 (Sl.len p_l:Int))]) ?_))))))))
 intro x41 H43 J42 h
 refine Zo (Zi (.bool (decide ((x41:Int) < (Sl.len p_l:Int)))) (GL.nil (GC.seq (Yd h (fun u44 h=>?_) fun u44 h=>?_))))
 refine GC.skip (GC.seq (GC.block (Zo (Yx h fun p45 h=>?_))))
 obtain ⟨x50,v51,h⟩:=h
 refine Zv (OV.loadT rfl rfl rfl v51) (GL.alloc (cs:=Qa.c Qa.zero) h trivial rfl rfl rfl ?_)
 intro b52 H53 h
 refine GL.storeT (p:=(b52,0)) (vs:=Qa.c x50) h trivial rfl rfl rfl rfl ?_
 intro H54 h
 refine GL.nil (GC.region (Zm ?_))
 obtain ⟨x55,v56,h⟩:=h
 refine Zv (OV.loadT rfl rfl rfl v56) (GL.callP h (Qiw Qa.c Qe.c rfl rfl rfl rfl rfl (fun _=>rfl) rfl (fun _=>rfl) rfl QaF hE28) trivial rfl Qgb (vs:=[pv (some (b37,0)),.agg (Qa.c x55).toArray]) rfl ?_)
 rintro _ H57 ⟨rfl,h⟩
 refine GL.nil_to I3 (GC.region (Zi (.int .i64 (w .i64 (x41+1))) (Zm ?_)))
 exact Yj I3 (w .i64 (x41+1)) h
 refine GC.exit_to I3 (Zo (Zm (GL.callP h (Qiw Qa.c Qe.c rfl rfl rfl rfl rfl (fun _=>rfl) rfl (fun _=>rfl) rfl QaF hE28) trivial rfl QfE (vs:=[pv (some (b37,0))]) rfl ?_)))
 rintro _ H58 ⟨rfl,h⟩
 refine GL.nil (Zo (Zm (Yx h fun p59 h=>?_)))
 refine Zf (Yl h fun x64 h=>?_)
 refine Zf (GL.store (p:=((b1,0).1,(b1,0).2+0)) (v:=sv x64) h trivial rfl rfl rfl rfl ?_)
 intro H66 h
 refine GL.nil (GC.seq (Zo (Zm (Zq (Zm (GL.nil (GC.block (Yp h (fun x67=>[(50,.int .i64 x67),(2,pv (some (b1,0))),(3,pv (some (b3,0))),(4,pv (some (b5,0))),(5,pv (some (b37,0))),(48,slv p_l),(49,.int .i64 (Sl.len p_l:Int))]) ?_))))))))
 intro x67 H69 J68 h
 refine Zo (Zi (.bool (decide ((x67:Int) < (Sl.len p_l:Int)))) (GL.nil (GC.seq (Yd h (fun u70 h=>?_) fun u70 h=>?_))))
 refine GC.skip (GC.seq (GC.block (Zo (Yx h fun p71 h=>?_))))
 obtain ⟨x76,v77,h⟩:=h
 refine Zv (OV.loadT rfl rfl rfl v77) (GL.alloc (cs:=Qa.c Qa.zero) h trivial rfl rfl rfl ?_)
 intro b78 H79 h
 refine GL.storeT (p:=(b78,0)) (vs:=Qa.c x76) h trivial rfl rfl rfl rfl ?_
 intro H80 h
 refine GL.nil (GC.region (Zm ?_))
 obtain ⟨x81,v82,h⟩:=h
 refine Zv (OV.loadT rfl rfl rfl v82) (GL.callP h (Qiw Qa.c Qe.c rfl rfl rfl rfl rfl (fun _=>rfl) rfl (fun _=>rfl) rfl QaF hE28) trivial rfl QgE (vs:=[pv (some (b37,0)),pv (some (b1,0)),.agg (Qa.c x81).toArray]) rfl ?_)
 rintro _ H83 ⟨rfl,h⟩
 refine GL.nil_to I3 (GC.region (Zi (.int .i64 (w .i64 (x67+1))) (Zm ?_)))
 exact Yj I3 (w .i64 (x67+1)) h
 refine GC.exit_to I3 (Zo ?_)
 obtain ⟨x84,v85,h⟩:=h
 refine Zv (OV.loadT rfl rfl rfl v85) (Zv (OV.build (vs:=[]) (v:=.agg (Qe.c (⟨[],Qj.zero⟩:Qe)).toArray) rfl (fun _=>by kernel_rfl)) (GL.storeT (p:=(b1,0)) (vs:=Qa.c x84) h trivial rfl rfl rfl rfl ?_))
 intro H86 h
 refine GL.storeT (p:=(b3,0)) (vs:=Qe.c (⟨[],Qj.zero⟩:Qe)) h trivial rfl rfl rfl rfl ?_
 intro H87 h
 refine GL.store (p:=(b5,0)) (v:=.int .i64 0) h trivial rfl rfl rfl rfl ?_
 intro H88 h
 refine GL.nil ?_
 exact GC.ret (fun _ _ hf hs=>Qp6 Qa.c Qe.c rfl rfl rfl rfl rfl (fun _=>rfl) rfl (fun _=>rfl) rfl QaF hf hs h)
def QhI (C:Ctx) (K:Bool→Heap→Prop) (H:Heap):Prop:=
 nw ((Qf.c (⟨[120],(⟨[105,110,116],Sl.nil⟩:Qd)⟩:Qf))++[]) (fun b1 H2=>
 nw ((Qh.c (⟨2,Qj.zero,[88],Qm.zero,Sl.nil⟩:Qh))++[]) (fun b3 H4=>
 nw ((Qn.c (⟨Qj.zero,[98,97,115,101]⟩:Qn))++[]) (fun b5 H6=>
 nw ((Qg.c (⟨Qj.zero,false,false,[112],(Sl.of (some (b1,0)) 1 1)⟩:Qg))++[]) (fun b7 H8=>
 nw ([sv []]) (fun b9 H10=>
 nw ((Qk.c (⟨1,Qj.zero,[98,97,115,101,46,101],(Sl.of (some (b3,0)) 1 1)⟩:Qk))++[]) (fun b11 H12=>
 nw ((Qi.c (⟨Qj.zero,[112],(Sl.of (some (b3,0)) 1 1),(Sl.of (some (b9,0)) 1 1),(Sl.of (some (b11,0)) 1 1)⟩:Qi))++[]) (fun b13 H14=>
 nw ((Qg.c (⟨Qj.zero,true,true,[101],(Sl.of (some (b1,0)) 1 1)⟩:Qg))++[]) (fun b15 H16=>
 nw ((Qa.c (⟨[103,114,97,112,104],(Sl.of (some (b5,0)) 1 1),Sl.nil,(Sl.of (some (b7,0)) 1 1),(Sl.of (some (b13,0)) 1 1),Sl.nil⟩:Qa))++(Qa.c (⟨[98,97,115,101],Sl.nil,Sl.nil,(Sl.of (some (b15,0)) 1 1),Sl.nil,Sl.nil⟩:Qa))++[]) (fun b17 H18=>
 QdX C (Sl.of (some (b17,0)) 2 2) (fun r19 r20 r21 H22=>
 nw (Qa.c Qa.zero) (fun b23 H24=>
 nw (Qe.c Qe.zero) (fun b25 H26=>
 stT (b23,0) (Qa.c r19) (fun H27=>
 stT (b25,0) (Qe.c r20) (fun H28=>
 jn (α:=Bool) (fun b29 H35=>
 jn (α:=Bool) (fun b36 H42=>
 jn (α:=Bool) (fun b43 H49=>
 jn (α:=Bool) (fun b50 H56=>
 jn (α:=Bool) (fun b57 H70=>
 jn (α:=Bool) (fun b71 H84=>
 jn (α:=Bool) (fun b85 H98=>
 jn (α:=Bool) (fun b99 H105=>
 jn (α:=Bool) (fun b106 H119=>
 jn (α:=Bool) (fun b120 H140=>
 jn (α:=Bool) (fun b141 H154=>
 K b141 H154)
 (fun J142=>ift b120
 (ldL H140 ((b23,0).1,(b23,0).2+4) fun x145=>
 ixa x145 0 fun p147=>
 ldL H140 ((p147.1,p147.2+(0:Int).toNat*6).1,(p147.1,p147.2+(0:Int).toNat*6).2+3) fun x152=>
 J142 (((Sl.len x152:Int):Int) == 1) H140)
 (J142 false H140)))
 (fun J121=>ift b106
 (ldL H119 ((b23,0).1,(b23,0).2+4) fun x124=>
 ixa x124 0 fun p126=>
 ldL H119 ((p126.1,p126.2+(0:Int).toNat*6).1,(p126.1,p126.2+(0:Int).toNat*6).2+5) fun x131=>
 ixa x131 0 fun p133=>
 ldS H119 ((p133.1,p133.2+(0:Int).toNat*5).1,(p133.1,p133.2+(0:Int).toNat*5).2+3) fun x138=>
 J121 (x138 == ([98,97,115,101,46,101]:Str)) H119)
 (J121 false H119)))
 (fun J107=>ift b99
 (ldL H105 ((b23,0).1,(b23,0).2+4) fun x110=>
 ixa x110 0 fun p112=>
 ldS H105 ((p112.1,p112.2+(0:Int).toNat*6).1,(p112.1,p112.2+(0:Int).toNat*6).2+2) fun x117=>
 J107 (x117 == ([103,114,97,112,104,46,112]:Str)) H105)
 (J107 false H105)))
 (fun J100=>ift b85
 (ldL H98 ((b23,0).1,(b23,0).2+4) fun x103=>
 J100 (((Sl.len x103:Int):Int) == 1) H98)
 (J100 false H98)))
 (fun J86=>ift b71
 (ldL H84 ((b23,0).1,(b23,0).2+3) fun x89=>
 ixa x89 1 fun p91=>
 ldB H84 ((p91.1,p91.2+(1:Int).toNat*6).1,(p91.1,p91.2+(1:Int).toNat*6).2+3) fun x96=>
 J86 x96 H84)
 (J86 false H84)))
 (fun J72=>ift b57
 (ldL H70 ((b23,0).1,(b23,0).2+3) fun x75=>
 ixa x75 1 fun p77=>
 ldS H70 ((p77.1,p77.2+(1:Int).toNat*6).1,(p77.1,p77.2+(1:Int).toNat*6).2+4) fun x82=>
 J72 (x82 == ([98,97,115,101,46,101]:Str)) H70)
 (J72 false H70)))
 (fun J58=>ift b50
 (ldL H56 ((b23,0).1,(b23,0).2+3) fun x61=>
 ixa x61 0 fun p63=>
 ldS H56 ((p63.1,p63.2+(0:Int).toNat*6).1,(p63.1,p63.2+(0:Int).toNat*6).2+4) fun x68=>
 J58 (x68 == ([103,114,97,112,104,46,112]:Str)) H56)
 (J58 false H56)))
 (fun J51=>ift b43
 (ldL H49 ((b23,0).1,(b23,0).2+3) fun x54=>
 J51 (((Sl.len x54:Int):Int) == 2) H49)
 (J51 false H49)))
 (fun J44=>ift b36
 (ldL H42 ((b23,0).1,(b23,0).2+1) fun x47=>
 J44 (((Sl.len x47:Int):Int) == 0) H42)
 (J44 false H42)))
 (fun J37=>ift b29
 (ldS H35 ((b23,0).1,(b23,0).2+0) fun x40=>
 J37 (x40 == ([103,114,97,112,104]:Str)) H35)
 (J37 false H35)))
 (fun J30=>ift ((r21:Int) == 0)
 (ldT H28 Qe.c (b25,0) fun x33=>
 J30 (csEq (Qe.c x33) (Qe.c (⟨[],Qj.zero⟩:Qe))) H28)
 (J30 false H28))) H27) H26) H24) H22) H18) H16) H14) H12) H10) H8) H6) H4) H2) H
theorem Qkm (C:Ctx) (K:Bool→Heap→Prop) (H:Heap) (h:QhI C  K H):Qic C  K H:=by
 refine Spec.enter Tryz.func13 rfl Tryz.ntmps13 rfl (GC.sub [] trivial (Zo (Za (GL.nil (Zo (Zv (OV.build (vs:=[(0,sv [105,110,116])]) (v:=.agg (Qd.c (⟨[105,110,116],Sl.nil⟩:Qd)).toArray) rfl (fun _=>by kernel_rfl)) (Zv (OV.build (vs:=[(0,sv [120]),(1,.agg (Qd.c (⟨[105,110,116],Sl.nil⟩:Qd)).toArray)]) (v:=.agg (Qf.c (⟨[120],(⟨[105,110,116],Sl.nil⟩:Qd)⟩:Qf)).toArray) rfl (fun _=>by kernel_rfl)) (GL.buildSlice (cs:=(Qf.c (⟨[120],(⟨[105,110,116],Sl.nil⟩:Qd)⟩:Qf))++[]) h trivial rfl (vs:=[(0,.agg (Qf.c (⟨[120],(⟨[105,110,116],Sl.nil⟩:Qd)⟩:Qf)).toArray)]) rfl ⟨31,fun _=>by kernel_rfl⟩ ?_))))))))
 intro b1 H2 h
 refine Za (GL.nil (Zo (Zv (OV.build (vs:=[(0,.int .u8 2),(2,sv [88])]) (v:=.agg (Qh.c (⟨2,Qj.zero,[88],Qm.zero,Sl.nil⟩:Qh)).toArray) rfl (fun _=>by kernel_rfl)) (GL.buildSlice (cs:=(Qh.c (⟨2,Qj.zero,[88],Qm.zero,Sl.nil⟩:Qh))++[]) h trivial rfl (vs:=[(0,.agg (Qh.c (⟨2,Qj.zero,[88],Qm.zero,Sl.nil⟩:Qh)).toArray)]) rfl ⟨40,fun _=>by kernel_rfl⟩ ?_))))
 intro b3 H4 h
 refine Za (GL.nil (Zo (Zv (OV.build (vs:=[(1,sv [98,97,115,101])]) (v:=.agg (Qn.c (⟨Qj.zero,[98,97,115,101]⟩:Qn)).toArray) rfl (fun _=>by kernel_rfl)) (GL.buildSlice (cs:=(Qn.c (⟨Qj.zero,[98,97,115,101]⟩:Qn))++[]) h trivial rfl (vs:=[(0,.agg (Qn.c (⟨Qj.zero,[98,97,115,101]⟩:Qn)).toArray)]) rfl ⟨48,fun _=>by kernel_rfl⟩ ?_))))
 intro b5 H6 h
 refine Zm (Zv (OV.build (vs:=[(3,sv [112]),(4,slv (Sl.of (some (b1,0)) 1 1))]) (v:=.agg (Qg.c (⟨Qj.zero,false,false,[112],(Sl.of (some (b1,0)) 1 1)⟩:Qg)).toArray) rfl (fun _=>by kernel_rfl)) (GL.buildSlice (cs:=(Qg.c (⟨Qj.zero,false,false,[112],(Sl.of (some (b1,0)) 1 1)⟩:Qg))++[]) h trivial rfl (vs:=[(0,.agg (Qg.c (⟨Qj.zero,false,false,[112],(Sl.of (some (b1,0)) 1 1)⟩:Qg)).toArray)]) rfl ⟨29,fun _=>by kernel_rfl⟩ ?_))
 intro b7 H8 h
 refine Zm (GL.buildSlice (cs:=[sv []]) h trivial rfl (vs:=[(0,sv [])]) rfl ⟨9,fun _=>by kernel_rfl⟩ ?_)
 intro b9 H10 h
 refine Zm (Zv (OV.build (vs:=[(0,.int .u8 1),(2,sv [98,97,115,101,46,101]),(3,slv (Sl.of (some (b3,0)) 1 1))]) (v:=.agg (Qk.c (⟨1,Qj.zero,[98,97,115,101,46,101],(Sl.of (some (b3,0)) 1 1)⟩:Qk)).toArray) rfl (fun _=>by kernel_rfl)) (GL.buildSlice (cs:=(Qk.c (⟨1,Qj.zero,[98,97,115,101,46,101],(Sl.of (some (b3,0)) 1 1)⟩:Qk))++[]) h trivial rfl (vs:=[(0,.agg (Qk.c (⟨1,Qj.zero,[98,97,115,101,46,101],(Sl.of (some (b3,0)) 1 1)⟩:Qk)).toArray)]) rfl ⟨35,fun _=>by kernel_rfl⟩ ?_))
 intro b11 H12 h
 refine Zv (OV.build (vs:=[(1,sv [112]),(2,slv (Sl.of (some (b3,0)) 1 1)),(3,slv (Sl.of (some (b9,0)) 1 1)),(4,slv (Sl.of (some (b11,0)) 1 1))]) (v:=.agg (Qi.c (⟨Qj.zero,[112],(Sl.of (some (b3,0)) 1 1),(Sl.of (some (b9,0)) 1 1),(Sl.of (some (b11,0)) 1 1)⟩:Qi)).toArray) rfl (fun _=>by kernel_rfl)) (GL.buildSlice (cs:=(Qi.c (⟨Qj.zero,[112],(Sl.of (some (b3,0)) 1 1),(Sl.of (some (b9,0)) 1 1),(Sl.of (some (b11,0)) 1 1)⟩:Qi))++[]) h trivial rfl (vs:=[(0,.agg (Qi.c (⟨Qj.zero,[112],(Sl.of (some (b3,0)) 1 1),(Sl.of (some (b9,0)) 1 1),(Sl.of (some (b11,0)) 1 1)⟩:Qi)).toArray)]) rfl ⟨45,fun _=>by kernel_rfl⟩ ?_)
 intro b13 H14 h
 refine Zv (OV.build (vs:=[(0,sv [103,114,97,112,104]),(1,slv (Sl.of (some (b5,0)) 1 1)),(3,slv (Sl.of (some (b7,0)) 1 1)),(4,slv (Sl.of (some (b13,0)) 1 1))]) (v:=.agg (Qa.c (⟨[103,114,97,112,104],(Sl.of (some (b5,0)) 1 1),Sl.nil,(Sl.of (some (b7,0)) 1 1),(Sl.of (some (b13,0)) 1 1),Sl.nil⟩:Qa)).toArray) rfl (fun _=>by kernel_rfl)) (Zm (Zv (OV.build (vs:=[(1,.bool true),(2,.bool true),(3,sv [101]),(4,slv (Sl.of (some (b1,0)) 1 1))]) (v:=.agg (Qg.c (⟨Qj.zero,true,true,[101],(Sl.of (some (b1,0)) 1 1)⟩:Qg)).toArray) rfl (fun _=>by kernel_rfl)) (GL.buildSlice (cs:=(Qg.c (⟨Qj.zero,true,true,[101],(Sl.of (some (b1,0)) 1 1)⟩:Qg))++[]) h trivial rfl (vs:=[(0,.agg (Qg.c (⟨Qj.zero,true,true,[101],(Sl.of (some (b1,0)) 1 1)⟩:Qg)).toArray)]) rfl ⟨29,fun _=>by kernel_rfl⟩ ?_)))
 intro b15 H16 h
 refine Zv (OV.build (vs:=[(0,sv [98,97,115,101]),(3,slv (Sl.of (some (b15,0)) 1 1))]) (v:=.agg (Qa.c (⟨[98,97,115,101],Sl.nil,Sl.nil,(Sl.of (some (b15,0)) 1 1),Sl.nil,Sl.nil⟩:Qa)).toArray) rfl (fun _=>by kernel_rfl)) (GL.buildSlice (cs:=(Qa.c (⟨[103,114,97,112,104],(Sl.of (some (b5,0)) 1 1),Sl.nil,(Sl.of (some (b7,0)) 1 1),(Sl.of (some (b13,0)) 1 1),Sl.nil⟩:Qa))++(Qa.c (⟨[98,97,115,101],Sl.nil,Sl.nil,(Sl.of (some (b15,0)) 1 1),Sl.nil,Sl.nil⟩:Qa))++[]) h trivial rfl (vs:=[(0,.agg (Qa.c (⟨[103,114,97,112,104],(Sl.of (some (b5,0)) 1 1),Sl.nil,(Sl.of (some (b7,0)) 1 1),(Sl.of (some (b13,0)) 1 1),Sl.nil⟩:Qa)).toArray),(1,.agg (Qa.c (⟨[98,97,115,101],Sl.nil,Sl.nil,(Sl.of (some (b15,0)) 1 1),Sl.nil,Sl.nil⟩:Qa)).toArray)]) rfl ⟨55,fun _=>by kernel_rfl⟩ ?_)
 intro b17 H18 h
 refine Zc h QfA ?_
 rintro _ H22 ⟨r19,r20,r21,rfl,h⟩
 refine Zm (Yv (.agg (Qa.c r19).toArray) rfl rfl (Yv (.agg (Qe.c r20).toArray) rfl rfl (Yv (.int .i64 r21) rfl rfl (GL.alloc (cs:=Qa.c Qa.zero) h trivial rfl rfl rfl ?_))))
 intro b23 H24 h
 refine GL.alloc (cs:=Qe.c Qe.zero) h trivial rfl rfl rfl ?_
 intro b25 H26 h
 refine GL.storeT (p:=(b23,0)) (vs:=Qa.c r19) h trivial rfl rfl rfl rfl ?_
 intro H27 h
 refine GL.storeT (p:=(b25,0)) (vs:=Qe.c r20) h trivial rfl rfl rfl rfl ?_
 intro H28 h
 refine Za (GL.nil (Zo (Zm (Zi (.bool ((r21:Int) == 0)) (Zm ?_)))))
 obtain ⟨J30,h,hR31⟩:=h
 refine GL.cut (α:=Bool) 4 J30 (fun b29=>[(40,.bool b29),(3,pv (some (b23,0)))]) ?_ ?_
 rcases h.em with ⟨hc32,h⟩ | ⟨hc32,h⟩
 obtain ⟨x33,v34,h⟩:=h
 refine Zu hc32 (OV.loadT rfl rfl rfl v34) (Zu hc32 (OV.build (vs:=[]) (v:=.agg (Qe.c (⟨[],Qj.zero⟩:Qe)).toArray) rfl (fun _=>by kernel_rfl)) (Zu hc32 (OV.eqlT (a:=Qe.c x33) (b:=Qe.c (⟨[],Qj.zero⟩:Qe)) [.str,.int .i64,.int .i64] rfl rfl (by kernel_rfl) (by kernel_rfl) (by kernel_rfl) (Qfw _) (Qfw _) (fun _=>by kernel_rfl)) (Zt hc32 ?_)))
 exact Yj I3 (csEq (Qe.c x33) (Qe.c (⟨[],Qj.zero⟩:Qe))) h
 refine Zk hc32 (Zk hc32 (Zk hc32 (Zn hc32 ?_)))
 exact Yj I3 false h
 intro b29 H35 h
 replace h:=hR31 b29 H35 h
 refine Zm ?_
 obtain ⟨J37,h,hR38⟩:=h
 refine GL.cut (α:=Bool) 4 J37 (fun b36=>[(45,.bool b36),(3,pv (some (b23,0)))]) ?_ ?_
 rcases h.em with ⟨hc39,h⟩ | ⟨hc39,h⟩
 refine Zu hc39 Yf ?_
 obtain ⟨x40,v41,h⟩:=h
 refine Zu hc39 (Yo v41) (Zu hc39 (OV.sbin (a:=x40) (b:=([103,114,97,112,104]:Str)) (v:=.bool (x40 == ([103,114,97,112,104]:Str))) rfl rfl rfl) (Zt hc39 ?_))
 exact Yj I3 (x40 == ([103,114,97,112,104]:Str)) h
 refine Zk hc39 (Zk hc39 (Zk hc39 (Zn hc39 ?_)))
 exact Yj I3 false h
 intro b36 H42 h
 replace h:=hR38 b36 H42 h
 refine Zm ?_
 obtain ⟨J44,h,hR45⟩:=h
 refine GL.cut (α:=Bool) 5 J44 (fun b43=>[(51,.bool b43),(3,pv (some (b23,0)))]) ?_ ?_
 rcases h.em with ⟨hc46,h⟩ | ⟨hc46,h⟩
 refine Zu hc46 Yf ?_
 obtain ⟨x47,v48,h⟩:=h
 refine Zu hc46 (Yo v48) (Zu hc46 (OV.lenSl rfl rfl) (Zu hc46 (OV.ibin (v:=.bool (((Sl.len x47:Int):Int) == 0)) rfl rfl rfl) (Zt hc46 ?_)))
 exact Yj I3 (((Sl.len x47:Int):Int) == 0) h
 refine Zk hc46 (Zk hc46 (Zk hc46 (Zk hc46 (Zn hc46 ?_))))
 exact Yj I3 false h
 intro b43 H49 h
 replace h:=hR45 b43 H49 h
 refine Zm ?_
 obtain ⟨J51,h,hR52⟩:=h
 refine GL.cut (α:=Bool) 5 J51 (fun b50=>[(57,.bool b50),(3,pv (some (b23,0)))]) ?_ ?_
 rcases h.em with ⟨hc53,h⟩ | ⟨hc53,h⟩
 refine Zu hc53 Yf ?_
 obtain ⟨x54,v55,h⟩:=h
 refine Zu hc53 (Yo v55) (Zu hc53 (OV.lenSl rfl rfl) (Zu hc53 (OV.ibin (v:=.bool (((Sl.len x54:Int):Int) == 2)) rfl rfl rfl) (Zt hc53 ?_)))
 exact Yj I3 (((Sl.len x54:Int):Int) == 2) h
 refine Zk hc53 (Zk hc53 (Zk hc53 (Zk hc53 (Zn hc53 ?_))))
 exact Yj I3 false h
 intro b50 H56 h
 replace h:=hR52 b50 H56 h
 refine Zm ?_
 obtain ⟨J58,h,hR59⟩:=h
 refine GL.cut (α:=Bool) 7 J58 (fun b57=>[(65,.bool b57),(3,pv (some (b23,0)))]) ?_ ?_
 rcases h.em with ⟨hc60,h⟩ | ⟨hc60,h⟩
 refine Zu hc60 Yf ?_
 obtain ⟨x61,v62,h⟩:=h
 refine Zu hc60 (Yo v62) ?_
 obtain ⟨p63,ha64,hb65,hc66,hd67,h⟩:=h
 refine Zu hc60 (OV.indexAddr rfl rfl rfl rfl ha64 hb65 hc66 hd67) (Zu hc60 Yf ?_)
 obtain ⟨x68,v69,h⟩:=h
 refine Zu hc60 (Yo v69) (Zu hc60 (OV.sbin (a:=x68) (b:=([103,114,97,112,104,46,112]:Str)) (v:=.bool (x68 == ([103,114,97,112,104,46,112]:Str))) rfl rfl rfl) (Zt hc60 ?_))
 exact Yj I3 (x68 == ([103,114,97,112,104,46,112]:Str)) h
 refine Zk hc60 (Zk hc60 (Zk hc60 (Zk hc60 (Zk hc60 (Zk hc60 (Zn hc60 ?_))))))
 exact Yj I3 false h
 intro b57 H70 h
 replace h:=hR59 b57 H70 h
 refine Zm ?_
 obtain ⟨J72,h,hR73⟩:=h
 refine GL.cut (α:=Bool) 7 J72 (fun b71=>[(73,.bool b71),(3,pv (some (b23,0)))]) ?_ ?_
 rcases h.em with ⟨hc74,h⟩ | ⟨hc74,h⟩
 refine Zu hc74 Yf ?_
 obtain ⟨x75,v76,h⟩:=h
 refine Zu hc74 (Yo v76) ?_
 obtain ⟨p77,ha78,hb79,hc80,hd81,h⟩:=h
 refine Zu hc74 (OV.indexAddr rfl rfl rfl rfl ha78 hb79 hc80 hd81) (Zu hc74 Yf ?_)
 obtain ⟨x82,v83,h⟩:=h
 refine Zu hc74 (Yo v83) (Zu hc74 (OV.sbin (a:=x82) (b:=([98,97,115,101,46,101]:Str)) (v:=.bool (x82 == ([98,97,115,101,46,101]:Str))) rfl rfl rfl) (Zt hc74 ?_))
 exact Yj I3 (x82 == ([98,97,115,101,46,101]:Str)) h
 refine Zk hc74 (Zk hc74 (Zk hc74 (Zk hc74 (Zk hc74 (Zk hc74 (Zn hc74 ?_))))))
 exact Yj I3 false h
 intro b71 H84 h
 replace h:=hR73 b71 H84 h
 refine Zm ?_
 obtain ⟨J86,h,hR87⟩:=h
 refine GL.cut (α:=Bool) 6 J86 (fun b85=>[(80,.bool b85),(3,pv (some (b23,0)))]) ?_ ?_
 rcases h.em with ⟨hc88,h⟩ | ⟨hc88,h⟩
 refine Zu hc88 Yf ?_
 obtain ⟨x89,v90,h⟩:=h
 refine Zu hc88 (Yo v90) ?_
 obtain ⟨p91,ha92,hb93,hc94,hd95,h⟩:=h
 refine Zu hc88 (OV.indexAddr rfl rfl rfl rfl ha92 hb93 hc94 hd95) (Zu hc88 Yf ?_)
 obtain ⟨x96,v97,h⟩:=h
 refine Zu hc88 (Yo v97) (Zt hc88 ?_)
 exact Yj I3 x96 h
 refine Zk hc88 (Zk hc88 (Zk hc88 (Zk hc88 (Zk hc88 (Zn hc88 ?_)))))
 exact Yj I3 false h
 intro b85 H98 h
 replace h:=hR87 b85 H98 h
 refine Zm ?_
 obtain ⟨J100,h,hR101⟩:=h
 refine GL.cut (α:=Bool) 5 J100 (fun b99=>[(86,.bool b99),(3,pv (some (b23,0)))]) ?_ ?_
 rcases h.em with ⟨hc102,h⟩ | ⟨hc102,h⟩
 refine Zu hc102 Yf ?_
 obtain ⟨x103,v104,h⟩:=h
 refine Zu hc102 (Yo v104) (Zu hc102 (OV.lenSl rfl rfl) (Zu hc102 (OV.ibin (v:=.bool (((Sl.len x103:Int):Int) == 1)) rfl rfl rfl) (Zt hc102 ?_)))
 exact Yj I3 (((Sl.len x103:Int):Int) == 1) h
 refine Zk hc102 (Zk hc102 (Zk hc102 (Zk hc102 (Zn hc102 ?_))))
 exact Yj I3 false h
 intro b99 H105 h
 replace h:=hR101 b99 H105 h
 refine Zm ?_
 obtain ⟨J107,h,hR108⟩:=h
 refine GL.cut (α:=Bool) 7 J107 (fun b106=>[(94,.bool b106),(3,pv (some (b23,0)))]) ?_ ?_
 rcases h.em with ⟨hc109,h⟩ | ⟨hc109,h⟩
 refine Zu hc109 Yf ?_
 obtain ⟨x110,v111,h⟩:=h
 refine Zu hc109 (Yo v111) ?_
 obtain ⟨p112,ha113,hb114,hc115,hd116,h⟩:=h
 refine Zu hc109 (OV.indexAddr rfl rfl rfl rfl ha113 hb114 hc115 hd116) (Zu hc109 Yf ?_)
 obtain ⟨x117,v118,h⟩:=h
 refine Zu hc109 (Yo v118) (Zu hc109 (OV.sbin (a:=x117) (b:=([103,114,97,112,104,46,112]:Str)) (v:=.bool (x117 == ([103,114,97,112,104,46,112]:Str))) rfl rfl rfl) (Zt hc109 ?_))
 exact Yj I3 (x117 == ([103,114,97,112,104,46,112]:Str)) h
 refine Zk hc109 (Zk hc109 (Zk hc109 (Zk hc109 (Zk hc109 (Zk hc109 (Zn hc109 ?_))))))
 exact Yj I3 false h
 intro b106 H119 h
 replace h:=hR108 b106 H119 h
 refine Zm ?_
 obtain ⟨J121,h,hR122⟩:=h
 refine GL.cut (α:=Bool) 10 J121 (fun b120=>[(105,.bool b120),(3,pv (some (b23,0)))]) ?_ ?_
 rcases h.em with ⟨hc123,h⟩ | ⟨hc123,h⟩
 refine Zu hc123 Yf ?_
 obtain ⟨x124,v125,h⟩:=h
 refine Zu hc123 (Yo v125) ?_
 obtain ⟨p126,ha127,hb128,hc129,hd130,h⟩:=h
 refine Zu hc123 (OV.indexAddr rfl rfl rfl rfl ha127 hb128 hc129 hd130) (Zu hc123 Yf ?_)
 obtain ⟨x131,v132,h⟩:=h
 refine Zu hc123 (Yo v132) ?_
 obtain ⟨p133,ha134,hb135,hc136,hd137,h⟩:=h
 refine Zu hc123 (OV.indexAddr rfl rfl rfl rfl ha134 hb135 hc136 hd137) (Zu hc123 Yf ?_)
 obtain ⟨x138,v139,h⟩:=h
 refine Zu hc123 (Yo v139) (Zu hc123 (OV.sbin (a:=x138) (b:=([98,97,115,101,46,101]:Str)) (v:=.bool (x138 == ([98,97,115,101,46,101]:Str))) rfl rfl rfl) (Zt hc123 ?_))
 exact Yj I3 (x138 == ([98,97,115,101,46,101]:Str)) h
 refine Zk hc123 (Zk hc123 (Zk hc123 (Zk hc123 (Zk hc123 (Zk hc123 (Zk hc123 (Zk hc123 (Zk hc123 (Zn hc123 ?_)))))))))
 exact Yj I3 false h
 intro b120 H140 h
 replace h:=hR122 b120 H140 h
 refine Zm ?_
 obtain ⟨J142,h,hR143⟩:=h
 refine GL.cut (α:=Bool) 8 J142 (fun b141=>[(114,.bool b141)]) ?_ ?_
 rcases h.em with ⟨hc144,h⟩ | ⟨hc144,h⟩
 refine Zu hc144 Yf ?_
 obtain ⟨x145,v146,h⟩:=h
 refine Zu hc144 (Yo v146) ?_
 obtain ⟨p147,ha148,hb149,hc150,hd151,h⟩:=h
 refine Zu hc144 (OV.indexAddr rfl rfl rfl rfl ha148 hb149 hc150 hd151) (Zu hc144 Yf ?_)
 obtain ⟨x152,v153,h⟩:=h
 refine Zu hc144 (Yo v153) (Zu hc144 (OV.lenSl rfl rfl) (Zu hc144 (OV.ibin (v:=.bool (((Sl.len x152:Int):Int) == 1)) rfl rfl rfl) (Zt hc144 ?_)))
 exact Yj I3 (((Sl.len x152:Int):Int) == 1) h
 refine Zk hc144 (Zk hc144 (Zk hc144 (Zk hc144 (Zk hc144 (Zk hc144 (Zk hc144 (Zn hc144 ?_)))))))
 exact Yj I3 false h
 intro b141 H154 h
 replace h:=hR143 b141 H154 h
 refine Za (GL.nil ?_)
 exact Y1 I3 ⟨b141,rfl,h⟩
def Qiy (C:Ctx) (p_m:Qa) (K:Int→Heap→Prop) (H:Heap):Prop:=
 nw (Qa.c p_m) (fun b1 H2=>
 ldT H2 Qa.c (b1,0) fun x3=>
 Qc1 C x3 (fun r5 H6=>
 ift (decide ((r5:Int) > 64))
 (K 65 H6)
 (ldS H6 ((b1,0).1,(b1,0).2+0) fun x8=>
 QaE C x8 (fun r10 H11=>
 jn (α:=Bool) (fun b12 H20=>
 jn (α:=Bool) (fun b21 H29=>
 jn (α:=Bool) (fun b30 H38=>
 jn (α:=Bool) (fun b39 H47=>
 jn (α:=Bool) (fun b48 H56=>
 ift b48
 (K 4 H56)
 (ldL H56 ((b1,0).1,(b1,0).2+1) fun x58=>
 jn (α:=Bool) (fun b60 H66=>
 jn (α:=Bool) (fun b67 H73=>
 jn (α:=Bool) (fun b74 H80=>
 jn (α:=Bool) (fun b81 H87=>
 jn (α:=Bool) (fun b88 H96=>
 jn (α:=Bool) (fun b97 H105=>
 ift b97
 (K 3 H105)
 (K 0 H105))
 (fun J98=>ift b88
 (J98 true H96)
 (ldL H96 ((b1,0).1,(b1,0).2+5) fun x101=>
 QW C x101 (.func (.func 55) (List.toArray []) (List.toArray []):Value) (fun r103 H104=>
 J98 (!r103) H104) H96)))
 (fun J89=>ift b81
 (J89 true H87)
 (ldL H87 ((b1,0).1,(b1,0).2+4) fun x92=>
 Q6 C x92 (.func (.func 54) (List.toArray []) (List.toArray []):Value) (fun r94 H95=>
 J89 (!r94) H95) H87)))
 (fun J82=>ift b74
 (J82 true H80)
 (ldL H80 ((b1,0).1,(b1,0).2+5) fun x85=>
 J82 (decide (((Sl.len x85:Int):Int) > 256)) H80)))
 (fun J75=>ift b67
 (J75 true H73)
 (ldL H73 ((b1,0).1,(b1,0).2+4) fun x78=>
 J75 (decide (((Sl.len x78:Int):Int) > 256)) H73)))
 (fun J68=>ift b60
 (J68 true H66)
 (ldL H66 ((b1,0).1,(b1,0).2+3) fun x71=>
 J68 (decide (((Sl.len x71:Int):Int) > 64)) H66)))
 (fun J61=>ift (decide (((Sl.len x58:Int):Int) > 8))
 (J61 true H56)
 (ldL H56 ((b1,0).1,(b1,0).2+2) fun x64=>
 J61 (decide (((Sl.len x64:Int):Int) > 64)) H56))))
 (fun J49=>ift b39
 (J49 true H47)
 (ldL H47 ((b1,0).1,(b1,0).2+5) fun x52=>
 QW C x52 (.func (.func 51) (List.toArray []) (List.toArray []):Value) (fun r54 H55=>
 J49 (!r54) H55) H47)))
 (fun J40=>ift b30
 (J40 true H38)
 (ldL H38 ((b1,0).1,(b1,0).2+4) fun x43=>
 Q6 C x43 (.func (.func 49) (List.toArray []) (List.toArray []):Value) (fun r45 H46=>
 J40 (!r45) H46) H38)))
 (fun J31=>ift b21
 (J31 true H29)
 (ldL H29 ((b1,0).1,(b1,0).2+3) fun x34=>
 Q5 C x34 (.func (.func 46) (List.toArray []) (List.toArray []):Value) (fun r36 H37=>
 J31 (!r36) H37) H29)))
 (fun J22=>ift b12
 (J22 true H20)
 (ldL H20 ((b1,0).1,(b1,0).2+2) fun x25=>
 Q0 C x25 (.func (.func 44) (List.toArray []) (List.toArray []):Value) (fun r27 H28=>
 J22 (!r27) H28) H20)))
 (fun J13=>ift (!r10)
 (J13 true H11)
 (ldL H11 ((b1,0).1,(b1,0).2+1) fun x16=>
 Q4 C x16 (.func (.func 42) (List.toArray []) (List.toArray []):Value) (fun r18 H19=>
 J13 (!r18) H19) H11))) H6)) H2) H
theorem Qlf (C p_m K H) (h:Qiy C p_m K H):Qco C p_m K H:=by
 refine Ye Tryz.func20 rfl Tryz.ntmps20 [(0,.agg (Qa.c p_m).toArray)] (Zo (GL.box (v:=.agg (Qa.c p_m).toArray) (cs:=Qa.c p_m) h trivial rfl rfl rfl ?_))
 intro b1 H2 h
 refine Za (GL.nil (GC.seq (Zo ?_)))
 obtain ⟨x3,v4,h⟩:=h
 refine Zv (OV.loadT rfl rfl rfl v4) (Zc h Qml ?_)
 rintro _ H6 ⟨r5,rfl,h⟩
 refine Zi (.bool (decide ((r5:Int) > 64))) (GL.nil (Yd h (fun u7 h=>?_) fun u7 h=>?_))
 refine Zo (Za (GL.nil ?_))
 exact Y1 I3 ⟨65,rfl,h⟩
 refine GC.skip (GC.seq (Zo (Zf (Yl h fun x8 h=>?_))))
 refine Zc h QaQ ?_
 rintro _ H11 ⟨r10,rfl,h⟩
 refine Zv (OV.not rfl) (Zm ?_)
 obtain ⟨J13,h,hR14⟩:=h
 refine GL.cut (α:=Bool) 5 J13 (fun b12=>[(15,.bool b12),(1,pv (some (b1,0)))]) ?_ ?_
 rcases h.em with ⟨u15,h⟩ | ⟨u15,h⟩
 refine Zk u15 (Zk u15 (Zk u15 (Zk u15 (Zt u15 ?_))))
 exact Yj I3 true h
 refine Zu u15 Yf ?_
 obtain ⟨x16,v17,h⟩:=h
 refine Zu u15 (Yo v17) (GL.call h (Yt u15) rfl QgG (vs:=[slv x16,.func (.func 42) (List.toArray []) (List.toArray [])]) rfl ?_)
 rintro _ H19 ⟨r18,rfl,h⟩
 refine Zu u15 (OV.not rfl) (Zn u15 ?_)
 exact Yj I3 (!r18) h
 intro b12 H20 h
 replace h:=hR14 b12 H20 h
 refine Zm ?_
 obtain ⟨J22,h,hR23⟩:=h
 refine GL.cut (α:=Bool) 5 J22 (fun b21=>[(21,.bool b21),(1,pv (some (b1,0)))]) ?_ ?_
 rcases h.em with ⟨u24,h⟩ | ⟨u24,h⟩
 refine Zk u24 (Zk u24 (Zk u24 (Zk u24 (Zt u24 ?_))))
 exact Yj I3 true h
 refine Zu u24 Yf ?_
 obtain ⟨x25,v26,h⟩:=h
 refine Zu u24 (Yo v26) (GL.call h (Yt u24) rfl Qgg (vs:=[slv x25,.func (.func 44) (List.toArray []) (List.toArray [])]) rfl ?_)
 rintro _ H28 ⟨r27,rfl,h⟩
 refine Zu u24 (OV.not rfl) (Zn u24 ?_)
 exact Yj I3 (!r27) h
 intro b21 H29 h
 replace h:=hR23 b21 H29 h
 refine Zm ?_
 obtain ⟨J31,h,hR32⟩:=h
 refine GL.cut (α:=Bool) 5 J31 (fun b30=>[(27,.bool b30),(1,pv (some (b1,0)))]) ?_ ?_
 rcases h.em with ⟨u33,h⟩ | ⟨u33,h⟩
 refine Zk u33 (Zk u33 (Zk u33 (Zk u33 (Zt u33 ?_))))
 exact Yj I3 true h
 refine Zu u33 Yf ?_
 obtain ⟨x34,v35,h⟩:=h
 refine Zu u33 (Yo v35) (GL.call h (Yt u33) rfl QgH (vs:=[slv x34,.func (.func 46) (List.toArray []) (List.toArray [])]) rfl ?_)
 rintro _ H37 ⟨r36,rfl,h⟩
 refine Zu u33 (OV.not rfl) (Zn u33 ?_)
 exact Yj I3 (!r36) h
 intro b30 H38 h
 replace h:=hR32 b30 H38 h
 refine Zm ?_
 obtain ⟨J40,h,hR41⟩:=h
 refine GL.cut (α:=Bool) 5 J40 (fun b39=>[(33,.bool b39),(1,pv (some (b1,0)))]) ?_ ?_
 rcases h.em with ⟨u42,h⟩ | ⟨u42,h⟩
 refine Zk u42 (Zk u42 (Zk u42 (Zk u42 (Zt u42 ?_))))
 exact Yj I3 true h
 refine Zu u42 Yf ?_
 obtain ⟨x43,v44,h⟩:=h
 refine Zu u42 (Yo v44) (GL.call h (Yt u42) rfl Qd3 (vs:=[slv x43,.func (.func 49) (List.toArray []) (List.toArray [])]) rfl ?_)
 rintro _ H46 ⟨r45,rfl,h⟩
 refine Zu u42 (OV.not rfl) (Zn u42 ?_)
 exact Yj I3 (!r45) h
 intro b39 H47 h
 replace h:=hR41 b39 H47 h
 refine Zm ?_
 obtain ⟨J49,h,hR50⟩:=h
 refine GL.cut (α:=Bool) 5 J49 (fun b48=>[(39,.bool b48),(1,pv (some (b1,0)))]) ?_ ?_
 rcases h.em with ⟨u51,h⟩ | ⟨u51,h⟩
 refine Zk u51 (Zk u51 (Zk u51 (Zk u51 (Zt u51 ?_))))
 exact Yj I3 true h
 refine Zu u51 Yf ?_
 obtain ⟨x52,v53,h⟩:=h
 refine Zu u51 (Yo v53) (GL.call h (Yt u51) rfl QdQ (vs:=[slv x52,.func (.func 51) (List.toArray []) (List.toArray [])]) rfl ?_)
 rintro _ H55 ⟨r54,rfl,h⟩
 refine Zu u51 (OV.not rfl) (Zn u51 ?_)
 exact Yj I3 (!r54) h
 intro b48 H56 h
 replace h:=hR50 b48 H56 h
 refine GL.nil (Yd h (fun u57 h=>?_) fun u57 h=>?_)
 refine Zo (Za (GL.nil ?_))
 exact Y1 I3 ⟨4,rfl,h⟩
 refine GC.skip (GC.seq (Zo (Zf (Yl h fun x58 h=>?_))))
 refine Zq (Zi (.bool (decide (((Sl.len x58:Int):Int) > 8))) (Zm ?_))
 obtain ⟨J61,h,hR62⟩:=h
 refine GL.cut (α:=Bool) 5 J61 (fun b60=>[(49,.bool b60),(1,pv (some (b1,0)))]) ?_ ?_
 rcases h.em with ⟨u63,h⟩ | ⟨u63,h⟩
 refine Zk u63 (Zk u63 (Zk u63 (Zk u63 (Zt u63 ?_))))
 exact Yj I3 true h
 refine Zu u63 Yf ?_
 obtain ⟨x64,v65,h⟩:=h
 refine Zu u63 (Yo v65) (Zu u63 (OV.lenSl rfl rfl) (Zu u63 (OV.ibin (v:=.bool (decide (((Sl.len x64:Int):Int) > 64))) rfl rfl rfl) (Zn u63 ?_)))
 exact Yj I3 (decide (((Sl.len x64:Int):Int) > 64)) h
 intro b60 H66 h
 replace h:=hR62 b60 H66 h
 refine Zm ?_
 obtain ⟨J68,h,hR69⟩:=h
 refine GL.cut (α:=Bool) 5 J68 (fun b67=>[(55,.bool b67),(1,pv (some (b1,0)))]) ?_ ?_
 rcases h.em with ⟨u70,h⟩ | ⟨u70,h⟩
 refine Zk u70 (Zk u70 (Zk u70 (Zk u70 (Zt u70 ?_))))
 exact Yj I3 true h
 refine Zu u70 Yf ?_
 obtain ⟨x71,v72,h⟩:=h
 refine Zu u70 (Yo v72) (Zu u70 (OV.lenSl rfl rfl) (Zu u70 (OV.ibin (v:=.bool (decide (((Sl.len x71:Int):Int) > 64))) rfl rfl rfl) (Zn u70 ?_)))
 exact Yj I3 (decide (((Sl.len x71:Int):Int) > 64)) h
 intro b67 H73 h
 replace h:=hR69 b67 H73 h
 refine Zm ?_
 obtain ⟨J75,h,hR76⟩:=h
 refine GL.cut (α:=Bool) 5 J75 (fun b74=>[(61,.bool b74),(1,pv (some (b1,0)))]) ?_ ?_
 rcases h.em with ⟨u77,h⟩ | ⟨u77,h⟩
 refine Zk u77 (Zk u77 (Zk u77 (Zk u77 (Zt u77 ?_))))
 exact Yj I3 true h
 refine Zu u77 Yf ?_
 obtain ⟨x78,v79,h⟩:=h
 refine Zu u77 (Yo v79) (Zu u77 (OV.lenSl rfl rfl) (Zu u77 (OV.ibin (v:=.bool (decide (((Sl.len x78:Int):Int) > 256))) rfl rfl rfl) (Zn u77 ?_)))
 exact Yj I3 (decide (((Sl.len x78:Int):Int) > 256)) h
 intro b74 H80 h
 replace h:=hR76 b74 H80 h
 refine Zm ?_
 obtain ⟨J82,h,hR83⟩:=h
 refine GL.cut (α:=Bool) 5 J82 (fun b81=>[(67,.bool b81),(1,pv (some (b1,0)))]) ?_ ?_
 rcases h.em with ⟨u84,h⟩ | ⟨u84,h⟩
 refine Zk u84 (Zk u84 (Zk u84 (Zk u84 (Zt u84 ?_))))
 exact Yj I3 true h
 refine Zu u84 Yf ?_
 obtain ⟨x85,v86,h⟩:=h
 refine Zu u84 (Yo v86) (Zu u84 (OV.lenSl rfl rfl) (Zu u84 (OV.ibin (v:=.bool (decide (((Sl.len x85:Int):Int) > 256))) rfl rfl rfl) (Zn u84 ?_)))
 exact Yj I3 (decide (((Sl.len x85:Int):Int) > 256)) h
 intro b81 H87 h
 replace h:=hR83 b81 H87 h
 refine Zm ?_
 obtain ⟨J89,h,hR90⟩:=h
 refine GL.cut (α:=Bool) 5 J89 (fun b88=>[(73,.bool b88),(1,pv (some (b1,0)))]) ?_ ?_
 rcases h.em with ⟨u91,h⟩ | ⟨u91,h⟩
 refine Zk u91 (Zk u91 (Zk u91 (Zk u91 (Zt u91 ?_))))
 exact Yj I3 true h
 refine Zu u91 Yf ?_
 obtain ⟨x92,v93,h⟩:=h
 refine Zu u91 (Yo v93) (GL.call h (Yt u91) rfl Qd3 (vs:=[slv x92,.func (.func 54) (List.toArray []) (List.toArray [])]) rfl ?_)
 rintro _ H95 ⟨r94,rfl,h⟩
 refine Zu u91 (OV.not rfl) (Zn u91 ?_)
 exact Yj I3 (!r94) h
 intro b88 H96 h
 replace h:=hR90 b88 H96 h
 refine Zm ?_
 obtain ⟨J98,h,hR99⟩:=h
 refine GL.cut (α:=Bool) 5 J98 (fun b97=>[(79,.bool b97)]) ?_ ?_
 rcases h.em with ⟨u100,h⟩ | ⟨u100,h⟩
 refine Zk u100 (Zk u100 (Zk u100 (Zk u100 (Zt u100 ?_))))
 exact Yj I3 true h
 refine Zu u100 Yf ?_
 obtain ⟨x101,v102,h⟩:=h
 refine Zu u100 (Yo v102) (GL.call h (Yt u100) rfl QdQ (vs:=[slv x101,.func (.func 55) (List.toArray []) (List.toArray [])]) rfl ?_)
 rintro _ H104 ⟨r103,rfl,h⟩
 refine Zu u100 (OV.not rfl) (Zn u100 ?_)
 exact Yj I3 (!r103) h
 intro b97 H105 h
 replace h:=hR99 b97 H105 h
 refine GL.nil (Yd h (fun u106 h=>?_) fun u106 h=>?_)
 refine Zo (Za (GL.nil ?_))
 exact Y1 I3 ⟨3,rfl,h⟩
 refine GC.skip (Zo (Za (GL.nil ?_)))
 exact Y1 I3 ⟨0,rfl,h⟩
def Qdc (C:Ctx) (E:Value→Heap→Prop) (p_p:Option (Nat×Nat)) (K:Heap→Prop) (H:Heap):Prop:=
 nck p_p fun p1=>
 ldL H (p1.1,p1.2+0) fun x3=>
 lp (α:=Int) 0 H (fun x5 J6 H7=>
 ift (decide ((x5:Int) < (Sl.len x3:Int)))
 (jn (α:=Unit) (fun x10 H11=>
 J6 (w .i64 (x5+1)) H11)
 (fun J9=>ixa x3 x5 fun p13=>
 ldT H7 Qa.c (p13.1,p13.2+(x5:Int).toNat*6) fun x18=>
 nw (Qa.c Qa.zero) (fun b20 H21=>
 stT (b20,0) (Qa.c x18) (fun H22=>
 jn (α:=Unit) (fun x24 H25=>
 ldS H25 ((b20,0).1,(b20,0).2+0) fun x35=>
 Qai C p_p x35 (fun r37 H38=>
 ift (decide ((r37:Int) < x5))
 (ldT H38 Qa.c (b20,0) fun x40=>
 QA C E x40 (⟨0,0⟩:Qj) 6 (fun H42=>
 J9 () H42) H38)
 (J9 () H38)) H25)
 (fun J23=>ldT H22 Qa.c (b20,0) fun x27=>
 Qco C x27 (fun r29 H30=>
 ift ((r29:Int) != 0)
 (ldT H30 Qa.c (b20,0) fun x32=>
 QA C E x32 (⟨0,0⟩:Qj) r29 (fun H34=>
 J23 () H34) H30)
 (J23 () H30)) H22)) H21) H7))
 (K H7))
theorem Qfj (C E p_p K H) (h:Qdc C E p_p K H):QbF C E p_p K H:=by
 refine SpecP.enter Tryz.func22 rfl Tryz.ntmps22 rfl (GC.sub [(0,pv p_p)] ⟨rfl,trivial⟩ (Zo (Zm ?_)))
 obtain ⟨p1,hp2,h⟩:=h
 refine Zv (OV.nilCheck (q:=p_p) rfl hp2) (Zf (Yl h fun x3 h=>?_))
 refine Zq (Zm (GL.nil (GC.block (Yp h (fun x5=>[(10,.int .i64 x5),(0,pv p_p),(8,slv x3),(9,.int .i64 (Sl.len x3:Int))]) ?_))))
 intro x5 H7 J6 h
 refine Zo (Zi (.bool (decide ((x5:Int) < (Sl.len x3:Int)))) (GL.nil (GC.seq (Yd h (fun u8 h=>?_) fun u8 h=>?_))))
 refine GC.skip ?_
 obtain ⟨J9,h,hR12⟩:=h
 refine GC.join (α:=Unit) J9 (fun _=>[(0,pv p_p),(8,slv x3),(9,.int .i64 (Sl.len x3:Int)),(10,.int .i64 x5)]) ?_ ?_
 refine GC.block (Zo (Zm (Yx h fun p13 h=>?_)))
 obtain ⟨x18,v19,h⟩:=h
 refine Zv (OV.loadT rfl rfl rfl v19) (GL.alloc (cs:=Qa.c Qa.zero) h trivial rfl rfl rfl ?_)
 intro b20 H21 h
 refine Za (GL.storeT (p:=(b20,0)) (vs:=Qa.c x18) h trivial rfl rfl rfl rfl ?_)
 intro H22 h
 refine GL.nil ?_
 obtain ⟨J23,h,hR26⟩:=h
 refine GC.join (α:=Unit) J23 (fun _=>[(0,pv p_p),(2,.int .i64 x5),(3,pv (some (b20,0))),(8,slv x3),(9,.int .i64 (Sl.len x3:Int)),(10,.int .i64 x5)]) ?_ ?_
 refine Zo ?_
 obtain ⟨x27,v28,h⟩:=h
 refine Zv (OV.loadT rfl rfl rfl v28) (Zc h QlL ?_)
 rintro _ H30 ⟨r29,rfl,h⟩
 refine Za (GL.nil (Zo (Zm (Zi (.bool ((r29:Int) != 0)) (GL.nil (Yd h (fun u31 h=>?_) fun u31 h=>?_))))))
 refine GC.region ?_
 obtain ⟨x32,v33,h⟩:=h
 refine Zv (OV.loadT rfl rfl rfl v33) (Zv (OV.build (vs:=[]) (v:=.agg (Qj.c (⟨0,0⟩:Qj)).toArray) rfl (fun _=>by kernel_rfl)) (Zm (GL.callP h (fun _ _ _ _ h=>h) trivial rfl QV (vs:=[.agg (Qa.c x32).toArray,.agg (Qj.c (⟨0,0⟩:Qj)).toArray,.int .i64 r29]) rfl ?_)))
 rintro _ H34 ⟨rfl,h⟩
 exact Yj I3 () h
 exact Yk I3 () h
 intro x24 H25 h
 replace h:=hR26 x24 H25 h
 refine Zo (Zm (Zf (Yl h fun x35 h=>?_)))
 refine Zc h Qa5 ?_
 rintro _ H38 ⟨r37,rfl,h⟩
 refine Zm (Zi (.bool (decide ((r37:Int) < x5))) (GL.nil (Yd h (fun u39 h=>?_) fun u39 h=>?_)))
 refine GC.region ?_
 obtain ⟨x40,v41,h⟩:=h
 refine Zv (OV.loadT rfl rfl rfl v41) (Zv (OV.build (vs:=[]) (v:=.agg (Qj.c (⟨0,0⟩:Qj)).toArray) rfl (fun _=>by kernel_rfl)) (GL.callP h (fun _ _ _ _ h=>h) trivial rfl QV (vs:=[.agg (Qa.c x40).toArray,.agg (Qj.c (⟨0,0⟩:Qj)).toArray,.int .i64 6]) rfl ?_))
 rintro _ H42 ⟨rfl,h⟩
 exact Yj I3 () h
 exact Yk I3 () h
 intro x10 H11 h
 replace h:=hR12 x10 H11 h
 refine GC.region (Zi (.int .i64 (w .i64 (x5+1))) (Zm ?_))
 exact Yj I3 (w .i64 (x5+1)) h
 exact GC.exit_ends (fun _ _ hf hs=>postP (E:=E) hf (QfN rfl hf hs ⟨rfl,h⟩))
def QcU (C:Ctx) (E:Value→Heap→Prop) (p_p:Option (Nat×Nat)) (K:Heap→Prop) (H:Heap):Prop:=
 nck p_p fun p1=>
 ldL H (p1.1,p1.2+0) fun x3=>
 lp (α:=Int) 0 H (fun x5 J6 H7=>
 ift (decide ((x5:Int) < (Sl.len x3:Int)))
 (ixa x3 x5 fun p9=>
 ldT H7 Qa.c (p9.1,p9.2+(x5:Int).toNat*6) fun x14=>
 nw (Qa.c Qa.zero) (fun b16 H17=>
 stT (b16,0) (Qa.c x14) (fun H18=>
 ldL H18 ((b16,0).1,(b16,0).2+1) fun x19=>
 lp (α:=Int) 0 H18 (fun x21 J22 H23=>
 ift (decide ((x21:Int) < (Sl.len x19:Int)))
 (jn (α:=Unit) (fun x26 H27=>
 J22 (w .i64 (x21+1)) H27)
 (fun J25=>ixa x19 x21 fun p29=>
 ldT H23 Qn.c (p29.1,p29.2+(x21:Int).toNat*3) fun x34=>
 nw (Qn.c Qn.zero) (fun b36 H37=>
 stT (b36,0) (Qn.c x34) (fun H38=>
 ldS H38 ((b36,0).1,(b36,0).2+2) fun x39=>
 Qai C p_p x39 (fun r41 H42=>
 ift (decide ((r41:Int) < 0))
 (ldT H42 Qa.c (b16,0) fun x44=>
 ldT H42 Qj.c ((b36,0).1,(b36,0).2+0) fun x46=>
 QA C E x44 x46 63 (fun H48=>
 J25 () H48) H42)
 (ldL H42 ((b16,0).1,(b16,0).2+1) fun x49=>
 slL x49 0 x21 (Sl.cap x49:Int) 3 fun t51=>
 Qp C t51 (.func (.func 59) (List.toArray []) (List.toArray [pv (some (b36,0))]):Value) (fun r57 H58=>
 ift r57
 (ldT H58 Qa.c (b16,0) fun x60=>
 ldT H58 Qj.c ((b36,0).1,(b36,0).2+0) fun x62=>
 QA C E x60 x62 6 (fun H64=>
 J25 () H64) H58)
 (J25 () H58)) H42)) H38) H37) H23))
 (J6 (w .i64 (x5+1)) H23))) H17) H7)
 (nck p_p fun p65=>
 ldL H7 (p65.1,p65.2+0) fun x67=>
 lp (α:=Int) 0 H7 (fun x69 J70 H71=>
 ift (decide ((x69:Int) < (Sl.len x67:Int)))
 (ixa x67 x69 fun p73=>
 ldT H71 Qa.c (p73.1,p73.2+(x69:Int).toNat*6) fun x78=>
 nw (Qa.c Qa.zero) (fun b80 H81=>
 stT (b80,0) (Qa.c x78) (fun H82=>
 ldL H82 ((b80,0).1,(b80,0).2+1) fun x83=>
 lp (α:=Int) 0 H82 (fun x85 J86 H87=>
 ift (decide ((x85:Int) < (Sl.len x83:Int)))
 (jn (α:=Unit) (fun x90 H91=>
 J86 (w .i64 (x85+1)) H91)
 (fun J89=>ixa x83 x85 fun p93=>
 ldT H87 Qn.c (p93.1,p93.2+(x85:Int).toNat*3) fun x98=>
 nw (Qn.c Qn.zero) (fun b100 H101=>
 stT (b100,0) (Qn.c x98) (fun H102=>
 ldS H102 ((b100,0).1,(b100,0).2+2) fun x103=>
 Qai C p_p x103 (fun r105 H106=>
 mkM (fun b107 H108=>
 Qaj C p_p r105 x69 (some b107) (fun r109 H110=>
 ift r109
 (ldT H110 Qa.c (b80,0) fun x112=>
 ldT H110 Qj.c ((b100,0).1,(b100,0).2+0) fun x114=>
 QA C E x112 x114 64 (fun H116=>
 J89 () H116) H110)
 (J89 () H110)) H108) H106) H102) H101) H87))
 (J70 (w .i64 (x69+1)) H87))) H81) H71)
 (K H71))))
theorem QeT (C E p_p K H) (h:QcU C E p_p K H):Qbu C E p_p K H:=by
 refine SpecP.enter Tryz.func23 rfl Tryz.ntmps23 rfl (GC.sub [(0,pv p_p)] ⟨rfl,trivial⟩ (GC.seq (Zo (Zm ?_))))
 obtain ⟨p1,hp2,h⟩:=h
 refine Zv (OV.nilCheck (q:=p_p) rfl hp2) (Zf (Yl h fun x3 h=>?_))
 refine Zq (Zm (GL.nil (GC.block (Yp h (fun x5=>[(15,.int .i64 x5),(0,pv p_p),(13,slv x3),(14,.int .i64 (Sl.len x3:Int))]) ?_))))
 intro x5 H7 J6 h
 refine Zo (Zi (.bool (decide ((x5:Int) < (Sl.len x3:Int)))) (GL.nil (GC.seq (Yd h (fun u8 h=>?_) fun u8 h=>?_))))
 refine GC.skip (GC.seq (GC.block (Zo (Yx h fun p9 h=>?_))))
 obtain ⟨x14,v15,h⟩:=h
 refine Zv (OV.loadT rfl rfl rfl v15) (GL.alloc (cs:=Qa.c Qa.zero) h trivial rfl rfl rfl ?_)
 intro b16 H17 h
 refine GL.storeT (p:=(b16,0)) (vs:=Qa.c x14) h trivial rfl rfl rfl rfl ?_
 intro H18 h
 refine GL.nil (Zo (Zf (Yl h fun x19 h=>?_)))
 refine Zq (Zm (GL.nil (GC.block (Yp h (fun x21=>[(22,.int .i64 x21),(0,pv p_p),(3,pv (some (b16,0))),(13,slv x3),(14,.int .i64 (Sl.len x3:Int)),(15,.int .i64 x5),(20,slv x19),(21,.int .i64 (Sl.len x19:Int))]) ?_))))
 intro x21 H23 J22 h
 refine Zo (Zi (.bool (decide ((x21:Int) < (Sl.len x19:Int)))) (GL.nil (GC.seq (Yd h (fun u24 h=>?_) fun u24 h=>?_))))
 refine GC.skip ?_
 obtain ⟨J25,h,hR28⟩:=h
 refine GC.join (α:=Unit) J25 (fun _=>[(0,pv p_p),(3,pv (some (b16,0))),(13,slv x3),(14,.int .i64 (Sl.len x3:Int)),(15,.int .i64 x5),(20,slv x19),(21,.int .i64 (Sl.len x19:Int)),(22,.int .i64 x21)]) ?_ ?_
 refine GC.block (Zo (Zm (Yx h fun p29 h=>?_)))
 obtain ⟨x34,v35,h⟩:=h
 refine Zv (OV.loadT rfl rfl rfl v35) (GL.alloc (cs:=Qn.c Qn.zero) h trivial rfl rfl rfl ?_)
 intro b36 H37 h
 refine Za (GL.storeT (p:=(b36,0)) (vs:=Qn.c x34) h trivial rfl rfl rfl rfl ?_)
 intro H38 h
 refine GL.nil (GC.block (Zo (Zm (Zf (Yl h fun x39 h=>?_)))))
 refine Zc h Qa5 ?_
 rintro _ H42 ⟨r41,rfl,h⟩
 refine Zi (.bool (decide ((r41:Int) < 0))) (Za (GL.nil (Yd h (fun u43 h=>?_) fun u43 h=>?_)))
 refine GC.region ?_
 obtain ⟨x44,v45,h⟩:=h
 refine Zv (OV.loadT rfl rfl rfl v45) (Zf ?_)
 obtain ⟨x46,v47,h⟩:=h
 refine Zv (OV.loadT rfl rfl rfl v47) (GL.callP h (fun _ _ _ _ h=>h) trivial rfl QV (vs:=[.agg (Qa.c x44).toArray,.agg (Qj.c x46).toArray,.int .i64 63]) rfl ?_)
 rintro _ H48 ⟨rfl,h⟩
 exact Yj I3 () h
 refine Zo (Zf (Yl h fun x49 h=>?_))
 refine Zm ?_
 obtain ⟨h52,h53,h54,h55,t51,h56,h⟩:=h
 refine Zv (OV.sliceSl (s:=x49) h52 h53 h54 h55 h56 rfl rfl rfl rfl rfl rfl rfl (fun h=>by first | rfl | cases h) rfl rfl) (Zv (OV.makeFunc (vs:=[]) (us:=[pv (some (b36,0))]) rfl rfl) (Zc h Qy ?_))
 rintro _ H58 ⟨r57,rfl,h⟩
 refine Za (GL.nil (Yd h (fun u59 h=>?_) fun u59 h=>?_))
 refine GC.region ?_
 obtain ⟨x60,v61,h⟩:=h
 refine Zv (OV.loadT rfl rfl rfl v61) (Zf ?_)
 obtain ⟨x62,v63,h⟩:=h
 refine Zv (OV.loadT rfl rfl rfl v63) (GL.callP h (fun _ _ _ _ h=>h) trivial rfl QV (vs:=[.agg (Qa.c x60).toArray,.agg (Qj.c x62).toArray,.int .i64 6]) rfl ?_)
 rintro _ H64 ⟨rfl,h⟩
 exact Yj I3 () h
 exact Yk I3 () h
 intro x26 H27 h
 replace h:=hR28 x26 H27 h
 refine GC.region (Zi (.int .i64 (w .i64 (x21+1))) (Zm ?_))
 exact Yj I3 (w .i64 (x21+1)) h
 refine GC.exit_to I3 (GC.region (Zi (.int .i64 (w .i64 (x5+1))) (Zm ?_)))
 exact Yj I3 (w .i64 (x5+1)) h
 refine GC.exit_to I3 (Zo (Zm ?_))
 obtain ⟨p65,hp66,h⟩:=h
 refine Zv (OV.nilCheck (q:=p_p) rfl hp66) (Zf (Yl h fun x67 h=>?_))
 refine Zq (Zm (GL.nil (GC.block (Yp h (fun x69=>[(55,.int .i64 x69),(0,pv p_p),(53,slv x67),(54,.int .i64 (Sl.len x67:Int))]) ?_))))
 intro x69 H71 J70 h
 refine Zo (Zi (.bool (decide ((x69:Int) < (Sl.len x67:Int)))) (GL.nil (GC.seq (Yd h (fun u72 h=>?_) fun u72 h=>?_))))
 refine GC.skip (GC.seq (GC.block (Zo (Zm (Yx h fun p73 h=>?_)))))
 obtain ⟨x78,v79,h⟩:=h
 refine Zv (OV.loadT rfl rfl rfl v79) (GL.alloc (cs:=Qa.c Qa.zero) h trivial rfl rfl rfl ?_)
 intro b80 H81 h
 refine Za (GL.storeT (p:=(b80,0)) (vs:=Qa.c x78) h trivial rfl rfl rfl rfl ?_)
 intro H82 h
 refine GL.nil (Zo (Zf (Yl h fun x83 h=>?_)))
 refine Zq (Zm (GL.nil (GC.block (Yp h (fun x85=>[(63,.int .i64 x85),(0,pv p_p),(6,.int .i64 x69),(7,pv (some (b80,0))),(53,slv x67),(54,.int .i64 (Sl.len x67:Int)),(55,.int .i64 x69),(61,slv x83),(62,.int .i64 (Sl.len x83:Int))]) ?_))))
 intro x85 H87 J86 h
 refine Zo (Zi (.bool (decide ((x85:Int) < (Sl.len x83:Int)))) (GL.nil (GC.seq (Yd h (fun u88 h=>?_) fun u88 h=>?_))))
 refine GC.skip ?_
 obtain ⟨J89,h,hR92⟩:=h
 refine GC.join (α:=Unit) J89 (fun _=>[(0,pv p_p),(6,.int .i64 x69),(7,pv (some (b80,0))),(53,slv x67),(54,.int .i64 (Sl.len x67:Int)),(55,.int .i64 x69),(61,slv x83),(62,.int .i64 (Sl.len x83:Int)),(63,.int .i64 x85)]) ?_ ?_
 refine GC.block (Zo (Yx h fun p93 h=>?_))
 obtain ⟨x98,v99,h⟩:=h
 refine Zv (OV.loadT rfl rfl rfl v99) (GL.alloc (cs:=Qn.c Qn.zero) h trivial rfl rfl rfl ?_)
 intro b100 H101 h
 refine GL.storeT (p:=(b100,0)) (vs:=Qn.c x98) h trivial rfl rfl rfl rfl ?_
 intro H102 h
 refine GL.nil (Zo (Zm (Zm (Zf (Yl h fun x103 h=>?_)))))
 refine Zc h Qa5 ?_
 rintro _ H106 ⟨r105,rfl,h⟩
 refine Zm (GL.makeMap h trivial rfl ?_)
 intro b107 H108 h
 refine Zc h QcS ?_
 rintro _ H110 ⟨r109,rfl,h⟩
 refine GL.nil (Yd h (fun u111 h=>?_) fun u111 h=>?_)
 refine GC.region ?_
 obtain ⟨x112,v113,h⟩:=h
 refine Zv (OV.loadT rfl rfl rfl v113) (Zf ?_)
 obtain ⟨x114,v115,h⟩:=h
 refine Zv (OV.loadT rfl rfl rfl v115) (GL.callP h (fun _ _ _ _ h=>h) trivial rfl QV (vs:=[.agg (Qa.c x112).toArray,.agg (Qj.c x114).toArray,.int .i64 64]) rfl ?_)
 rintro _ H116 ⟨rfl,h⟩
 exact Yj I3 () h
 exact Yk I3 () h
 intro x90 H91 h
 replace h:=hR92 x90 H91 h
 refine GC.region (Zi (.int .i64 (w .i64 (x85+1))) (Zm ?_))
 exact Yj I3 (w .i64 (x85+1)) h
 refine GC.exit_to I3 (GC.region (Zi (.int .i64 (w .i64 (x69+1))) (Zm ?_)))
 exact Yj I3 (w .i64 (x69+1)) h
 exact GC.exit_ends (fun _ _ hf hs=>postP (E:=E) hf (QfN rfl hf hs ⟨rfl,h⟩))
def Qdw (C:Ctx) (E:Value→Heap→Prop) (p_p:Option (Nat×Nat)) (p_m:Qa) (K:Heap→Prop) (H:Heap):Prop:=
 nw (Qa.c p_m) (fun b1 H2=>
 ldL H2 ((b1,0).1,(b1,0).2+2) fun x3=>
 lp (α:=Int) 0 H2 (fun x5 J6 H7=>
 ift (decide ((x5:Int) < (Sl.len x3:Int)))
 (jn (α:=Unit) (fun x10 H11=>
 J6 (w .i64 (x5+1)) H11)
 (fun J9=>ixa x3 x5 fun p13=>
 ldT H7 Qb.c (p13.1,p13.2+(x5:Int).toNat*6) fun x18=>
 nw (Qb.c Qb.zero) (fun b20 H21=>
 stT (b20,0) (Qb.c x18) (fun H22=>
 ldT H22 Qa.c (b1,0) fun x23=>
 ldS H22 ((b20,0).1,(b20,0).2+3) fun x25=>
 ldB H22 ((b20,0).1,(b20,0).2+2) fun x27=>
 Qak C p_p x23 x25 0 x27 (fun r29 H30=>
 ldL H30 ((b20,0).1,(b20,0).2+4) fun x31=>
 lp (α:=Bool×Int) (r29,0) H30 (fun x33 J34 H35=>
 ift (decide ((x33.2:Int) < (Sl.len x31:Int)))
 (ixa x31 x33.2 fun p37=>
 ldS H35 (p37.1,p37.2+(x33.2:Int).toNat*1) fun x42=>
 jn (α:=Bool) (fun b44 H58=>
 J34 (b44,(w .i64 (x33.2+1))) H58)
 (fun J45=>ift x33.1
 (ldL H35 ((b20,0).1,(b20,0).2+4) fun x48=>
 slL x48 0 x33.2 (Sl.cap x48:Int) 1 fun t50=>
 Qr C t50 x42 (fun r56 H57=>
 J45 (!r56) H57) H35)
 (J45 false H35)))
 (ldL H35 ((b20,0).1,(b20,0).2+5) fun x59=>
 lp (α:=Bool×Int) (x33.1,0) H35 (fun x61 J62 H63=>
 ift (decide ((x61.2:Int) < (Sl.len x59:Int)))
 (ixa x59 x61.2 fun p65=>
 ldT H63 Qc.c (p65.1,p65.2+(x61.2:Int).toNat*2) fun x70=>
 nw (Qc.c Qc.zero) (fun b72 H73=>
 stT (b72,0) (Qc.c x70) (fun H74=>
 ldT H74 Qa.c (b1,0) fun x75=>
 ldS H74 ((b72,0).1,(b72,0).2+0) fun x77=>
 ldB H74 ((b20,0).1,(b20,0).2+2) fun x79=>
 Qak C p_p x75 x77 1 x79 (fun r81 H82=>
 J62 ((r81 && x61.1),(w .i64 (x61.2+1))) H82) H74) H73) H63)
 (jn (α:=Unit) (fun x85 H86=>
 ldL H86 ((b20,0).1,(b20,0).2+5) fun x94=>
 Qx C x94 (.func (.func 64) (List.toArray []) (List.toArray [pv (some (b20,0))]):Value) (fun r96 H97=>
 ift r96
 (ldT H97 Qa.c (b1,0) fun x99=>
 ldT H97 Qj.c ((b20,0).1,(b20,0).2+0) fun x101=>
 QA C E x99 x101 63 (fun H103=>
 J9 () H103) H97)
 (J9 () H97)) H86)
 (fun J84=>ift (!x61.1)
 (ldT H63 Qa.c (b1,0) fun x89=>
 ldT H63 Qj.c ((b20,0).1,(b20,0).2+0) fun x91=>
 QA C E x89 x91 6 (fun H93=>
 J84 () H93) H63)
 (J84 () H63))))))) H22) H21) H7))
 (ldL H7 ((b1,0).1,(b1,0).2+3) fun x104=>
 lp (α:=Int) 0 H7 (fun x106 J107 H108=>
 ift (decide ((x106:Int) < (Sl.len x104:Int)))
 (jn (α:=Unit) (fun x111 H112=>
 J107 (w .i64 (x106+1)) H112)
 (fun J110=>ixa x104 x106 fun p114=>
 ldT H108 Qg.c (p114.1,p114.2+(x106:Int).toNat*6) fun x119=>
 nw (Qg.c Qg.zero) (fun b121 H122=>
 stT (b121,0) (Qg.c x119) (fun H123=>
 ldT H123 Qa.c (b1,0) fun x124=>
 ldS H123 ((b121,0).1,(b121,0).2+4) fun x126=>
 ldB H123 ((b121,0).1,(b121,0).2+2) fun x128=>
 Qak C p_p x124 x126 2 x128 (fun r130 H131=>
 ift (!r130)
 (ldT H131 Qa.c (b1,0) fun x133=>
 ldT H131 Qj.c ((b121,0).1,(b121,0).2+0) fun x135=>
 QA C E x133 x135 6 (fun H137=>
 J110 () H137) H131)
 (ldL H131 ((b121,0).1,(b121,0).2+5) fun x138=>
 Qee C x138 Sl.nil (fun r140 H141=>
 ift r140
 (ldT H141 Qa.c (b1,0) fun x143=>
 ldT H141 Qj.c ((b121,0).1,(b121,0).2+0) fun x145=>
 QA C E x143 x145 63 (fun H147=>
 J110 () H147) H141)
 (J110 () H141)) H131)) H123) H122) H108))
 (ldL H108 ((b1,0).1,(b1,0).2+5) fun x148=>
 lp (α:=Int) 0 H108 (fun x150 J151 H152=>
 ift (decide ((x150:Int) < (Sl.len x148:Int)))
 (jn (α:=Unit) (fun x155 H156=>
 J151 (w .i64 (x150+1)) H156)
 (fun J154=>ixa x148 x150 fun p158=>
 ldT H152 Ql.c (p158.1,p158.2+(x150:Int).toNat*4) fun x163=>
 nw (Ql.c Ql.zero) (fun b165 H166=>
 stT (b165,0) (Ql.c x163) (fun H167=>
 ldT H167 Qa.c (b1,0) fun x168=>
 ldS H167 ((b165,0).1,(b165,0).2+2) fun x170=>
 Qak C p_p x168 x170 3 false (fun r172 H173=>
 ift (!r172)
 (ldT H173 Qa.c (b1,0) fun x175=>
 ldT H173 Qj.c ((b165,0).1,(b165,0).2+0) fun x177=>
 QA C E x175 x177 6 (fun H179=>
 J154 () H179) H173)
 (J154 () H173)) H167) H166) H152))
 (K H152))))))) H
theorem QfX (C E p_p p_m K H) (h:Qdw C E p_p p_m K H):Qb6 C E p_p p_m K H:=by
 refine SpecP.enter Tryz.func24 rfl Tryz.ntmps24 rfl (GC.sub [(0,pv p_p),(1,.agg (Qa.c p_m).toArray)] ⟨rfl,rfl,trivial⟩ (Zo (GL.box (v:=.agg (Qa.c p_m).toArray) (cs:=Qa.c p_m) h trivial rfl rfl rfl ?_)))
 intro b1 H2 h
 refine GL.nil (GC.seq (Zo (Zf (Yl h fun x3 h=>?_))))
 refine Zq (Zm (GL.nil (GC.block (Yp h (fun x5=>[(18,.int .i64 x5),(0,pv p_p),(3,pv (some (b1,0))),(16,slv x3),(17,.int .i64 (Sl.len x3:Int))]) ?_))))
 intro x5 H7 J6 h
 refine Zo (Zi (.bool (decide ((x5:Int) < (Sl.len x3:Int)))) (GL.nil (GC.seq (Yd h (fun u8 h=>?_) fun u8 h=>?_))))
 refine GC.skip ?_
 obtain ⟨J9,h,hR12⟩:=h
 refine GC.join (α:=Unit) J9 (fun _=>[(0,pv p_p),(3,pv (some (b1,0))),(16,slv x3),(17,.int .i64 (Sl.len x3:Int)),(18,.int .i64 x5)]) ?_ ?_
 refine GC.block (Zo (Yx h fun p13 h=>?_))
 obtain ⟨x18,v19,h⟩:=h
 refine Zv (OV.loadT rfl rfl rfl v19) (GL.alloc (cs:=Qb.c Qb.zero) h trivial rfl rfl rfl ?_)
 intro b20 H21 h
 refine GL.storeT (p:=(b20,0)) (vs:=Qb.c x18) h trivial rfl rfl rfl rfl ?_
 intro H22 h
 refine GL.nil (Zo (Zm ?_))
 obtain ⟨x23,v24,h⟩:=h
 refine Zv (OV.loadT rfl rfl rfl v24) (Zf (Yl h fun x25 h=>?_))
 refine Zf (Yl h fun x27 h=>?_)
 refine Zc h Qa7 ?_
 rintro _ H30 ⟨r29,rfl,h⟩
 refine Za (GL.nil (GC.seq (Zo (Zf (Yl h fun x31 h=>?_)))))
 refine Zq (Zm (GL.nil (GC.block (Yp h (fun x33=>[(6,.bool x33.1),(32,.int .i64 x33.2),(0,pv p_p),(3,pv (some (b1,0))),(5,pv (some (b20,0))),(16,slv x3),(17,.int .i64 (Sl.len x3:Int)),(18,.int .i64 x5),(30,slv x31),(31,.int .i64 (Sl.len x31:Int))]) ?_))))
 intro x33 H35 J34 h
 refine Zo (Zi (.bool (decide ((x33.2:Int) < (Sl.len x31:Int)))) (GL.nil (GC.seq (Yd h (fun u36 h=>?_) fun u36 h=>?_))))
 refine GC.skip (GC.seq (GC.block (Zo (Zm (Yx h fun p37 h=>?_)))))
 refine Yl h fun x42 h=>?_
 refine Za (Za (GL.nil (GC.region (Zm (Zm ?_)))))
 obtain ⟨J45,h,hR46⟩:=h
 refine GL.cut (α:=Bool) 8 J45 (fun b44=>[(46,.bool b44),(0,pv p_p),(3,pv (some (b1,0))),(5,pv (some (b20,0))),(16,slv x3),(17,.int .i64 (Sl.len x3:Int)),(18,.int .i64 x5),(30,slv x31),(31,.int .i64 (Sl.len x31:Int)),(32,.int .i64 x33.2)]) ?_ ?_
 rcases h.em with ⟨u47,h⟩ | ⟨u47,h⟩
 refine Zu u47 Yf ?_
 obtain ⟨x48,v49,h⟩:=h
 refine Zu u47 (Yo v49) (Zu u47 Ym ?_)
 obtain ⟨h51,h52,h53,h54,t50,h55,h⟩:=h
 refine Zu u47 (OV.sliceSl (s:=x48) h51 h52 h53 h54 h55 rfl rfl rfl rfl rfl rfl rfl (fun h=>by first | rfl | cases h) rfl rfl) (Zu u47 Ym (GL.call h (Yt u47) rfl Qbn (vs:=[slv t50,sv x42]) rfl ?_))
 rintro _ H57 ⟨r56,rfl,h⟩
 refine Zu u47 (OV.not rfl) (Zt u47 ?_)
 exact Yj I3 (!r56) h
 refine Zk u47 (Zk u47 (Zk u47 (Zk u47 (Zk u47 (Zk u47 (Zk u47 (Zn u47 ?_)))))))
 exact Yj I3 false h
 intro b44 H58 h
 replace h:=hR46 b44 H58 h
 refine Za (GL.nil_to I3 (GC.region (Zi (.int .i64 (w .i64 (x33.2+1))) (Zm ?_))))
 exact Yj I3 (b44,(w .i64 (x33.2+1))) h
 refine GC.exit_to I3 (GC.seq (Zo (Zf ?_)))
 refine Yl h fun x59 h=>?_
 refine Zq (Zm (GL.nil (GC.block (Yp h (fun x61=>[(6,.bool x61.1),(51,.int .i64 x61.2),(0,pv p_p),(3,pv (some (b1,0))),(5,pv (some (b20,0))),(16,slv x3),(17,.int .i64 (Sl.len x3:Int)),(18,.int .i64 x5),(49,slv x59),(50,.int .i64 (Sl.len x59:Int))]) ?_))))
 intro x61 H63 J62 h
 refine Zo (Zi (.bool (decide ((x61.2:Int) < (Sl.len x59:Int)))) (GL.nil (GC.seq (Yd h (fun u64 h=>?_) fun u64 h=>?_))))
 refine GC.skip (GC.seq (GC.block (Zo (Yx h fun p65 h=>?_))))
 obtain ⟨x70,v71,h⟩:=h
 refine Zv (OV.loadT rfl rfl rfl v71) (GL.alloc (cs:=Qc.c Qc.zero) h trivial rfl rfl rfl ?_)
 intro b72 H73 h
 refine GL.storeT (p:=(b72,0)) (vs:=Qc.c x70) h trivial rfl rfl rfl rfl ?_
 intro H74 h
 refine GL.nil (GC.region (Zm ?_))
 obtain ⟨x75,v76,h⟩:=h
 refine Zv (OV.loadT rfl rfl rfl v76) (Zf (Yl h fun x77 h=>?_))
 refine Zf (Yl h fun x79 h=>?_)
 refine Zc h Qa7 ?_
 rintro _ H82 ⟨r81,rfl,h⟩
 refine Zm (GL.cut0 2 [(64,.bool (r81 && x61.1)),(0,pv p_p),(3,pv (some (b1,0))),(5,pv (some (b20,0))),(16,slv x3),(17,.int .i64 (Sl.len x3:Int)),(18,.int .i64 x5),(49,slv x59),(50,.int .i64 (Sl.len x59:Int)),(51,.int .i64 x61.2)] ?_ ?_)
 rcases Bool.eq_false_or_eq_true r81 with u83 | u83
 refine Zu u83 Ym (Zt u83 ?_)
 exact GL.jump0 I3 () rfl ⟨(by rw [u83]; rfl),rfl,rfl,rfl,rfl,rfl,rfl,rfl,rfl,rfl,trivial⟩
 refine Zk u83 (Zn u83 ?_)
 exact GL.jump0 I3 () rfl ⟨(by rw [u83]; rfl),rfl,rfl,rfl,rfl,rfl,rfl,rfl,rfl,rfl,trivial⟩
 refine Za (GL.nil_to I3 (GC.region (Zi (.int .i64 (w .i64 (x61.2+1))) (Zm ?_))))
 exact Yj I3 ((r81 && x61.1),(w .i64 (x61.2+1))) h
 refine GC.exit_to I3 ?_
 obtain ⟨J84,h,hR87⟩:=h
 refine GC.join (α:=Unit) J84 (fun _=>[(0,pv p_p),(3,pv (some (b1,0))),(5,pv (some (b20,0))),(16,slv x3),(17,.int .i64 (Sl.len x3:Int)),(18,.int .i64 x5)]) ?_ ?_
 refine Zo (Zm (Zv (OV.not rfl) (GL.nil (Yd h (fun u88 h=>?_) fun u88 h=>?_))))
 refine GC.region ?_
 obtain ⟨x89,v90,h⟩:=h
 refine Zv (OV.loadT rfl rfl rfl v90) (Zf ?_)
 obtain ⟨x91,v92,h⟩:=h
 refine Zv (OV.loadT rfl rfl rfl v92) (GL.callP h (fun _ _ _ _ h=>h) trivial rfl QV (vs:=[.agg (Qa.c x89).toArray,.agg (Qj.c x91).toArray,.int .i64 6]) rfl ?_)
 rintro _ H93 ⟨rfl,h⟩
 exact Yj I3 () h
 exact Yk I3 () h
 intro x85 H86 h
 replace h:=hR87 x85 H86 h
 refine Zo (Zf (Yl h fun x94 h=>?_))
 refine Zv (OV.makeFunc (vs:=[]) (us:=[pv (some (b20,0))]) rfl rfl) (Zc h Qad ?_)
 rintro _ H97 ⟨r96,rfl,h⟩
 refine GL.nil (Yd h (fun u98 h=>?_) fun u98 h=>?_)
 refine GC.region ?_
 obtain ⟨x99,v100,h⟩:=h
 refine Zv (OV.loadT rfl rfl rfl v100) (Zf ?_)
 obtain ⟨x101,v102,h⟩:=h
 refine Zv (OV.loadT rfl rfl rfl v102) (GL.callP h (fun _ _ _ _ h=>h) trivial rfl QV (vs:=[.agg (Qa.c x99).toArray,.agg (Qj.c x101).toArray,.int .i64 63]) rfl ?_)
 rintro _ H103 ⟨rfl,h⟩
 exact Yj I3 () h
 exact Yk I3 () h
 intro x10 H11 h
 replace h:=hR12 x10 H11 h
 refine GC.region (Zi (.int .i64 (w .i64 (x5+1))) (Zm ?_))
 exact Yj I3 (w .i64 (x5+1)) h
 refine GC.exit_to I3 (GC.seq (Zo (Zf ?_)))
 refine Yl h fun x104 h=>?_
 refine Zq (Zm (GL.nil (GC.block (Yp h (fun x106=>[(84,.int .i64 x106),(0,pv p_p),(3,pv (some (b1,0))),(82,slv x104),(83,.int .i64 (Sl.len x104:Int))]) ?_))))
 intro x106 H108 J107 h
 refine Zo (Zi (.bool (decide ((x106:Int) < (Sl.len x104:Int)))) (GL.nil (GC.seq (Yd h (fun u109 h=>?_) fun u109 h=>?_))))
 refine GC.skip ?_
 obtain ⟨J110,h,hR113⟩:=h
 refine GC.join (α:=Unit) J110 (fun _=>[(0,pv p_p),(3,pv (some (b1,0))),(82,slv x104),(83,.int .i64 (Sl.len x104:Int)),(84,.int .i64 x106)]) ?_ ?_
 refine GC.block (Zo (Yx h fun p114 h=>?_))
 obtain ⟨x119,v120,h⟩:=h
 refine Zv (OV.loadT rfl rfl rfl v120) (GL.alloc (cs:=Qg.c Qg.zero) h trivial rfl rfl rfl ?_)
 intro b121 H122 h
 refine GL.storeT (p:=(b121,0)) (vs:=Qg.c x119) h trivial rfl rfl rfl rfl ?_
 intro H123 h
 refine GL.nil (GC.block (Zo (Zm ?_)))
 obtain ⟨x124,v125,h⟩:=h
 refine Zv (OV.loadT rfl rfl rfl v125) (Zf (Yl h fun x126 h=>?_))
 refine Zf (Yl h fun x128 h=>?_)
 refine Zc h Qa7 ?_
 rintro _ H131 ⟨r130,rfl,h⟩
 refine Zv (OV.not rfl) (Za (GL.nil (Yd h (fun u132 h=>?_) fun u132 h=>?_)))
 refine GC.region ?_
 obtain ⟨x133,v134,h⟩:=h
 refine Zv (OV.loadT rfl rfl rfl v134) (Zf ?_)
 obtain ⟨x135,v136,h⟩:=h
 refine Zv (OV.loadT rfl rfl rfl v136) (GL.callP h (fun _ _ _ _ h=>h) trivial rfl QV (vs:=[.agg (Qa.c x133).toArray,.agg (Qj.c x135).toArray,.int .i64 6]) rfl ?_)
 rintro _ H137 ⟨rfl,h⟩
 exact Yj I3 () h
 refine Zo (Zf (Yl h fun x138 h=>?_))
 refine Zc h QhF ?_
 rintro _ H141 ⟨r140,rfl,h⟩
 refine Za (GL.nil (Yd h (fun u142 h=>?_) fun u142 h=>?_))
 refine GC.region ?_
 obtain ⟨x143,v144,h⟩:=h
 refine Zv (OV.loadT rfl rfl rfl v144) (Zf ?_)
 obtain ⟨x145,v146,h⟩:=h
 refine Zv (OV.loadT rfl rfl rfl v146) (GL.callP h (fun _ _ _ _ h=>h) trivial rfl QV (vs:=[.agg (Qa.c x143).toArray,.agg (Qj.c x145).toArray,.int .i64 63]) rfl ?_)
 rintro _ H147 ⟨rfl,h⟩
 exact Yj I3 () h
 exact Yk I3 () h
 intro x111 H112 h
 replace h:=hR113 x111 H112 h
 refine GC.region (Zi (.int .i64 (w .i64 (x106+1))) (Zm ?_))
 exact Yj I3 (w .i64 (x106+1)) h
 refine GC.exit_to I3 (Zo (Zf ?_))
 refine Yl h fun x148 h=>?_
 refine Zq (Zm (GL.nil (GC.block (Yp h (fun x150=>[(113,.int .i64 x150),(0,pv p_p),(3,pv (some (b1,0))),(111,slv x148),(112,.int .i64 (Sl.len x148:Int))]) ?_))))
 intro x150 H152 J151 h
 refine Zo (Zi (.bool (decide ((x150:Int) < (Sl.len x148:Int)))) (GL.nil (GC.seq (Yd h (fun u153 h=>?_) fun u153 h=>?_))))
 refine GC.skip ?_
 obtain ⟨J154,h,hR157⟩:=h
 refine GC.join (α:=Unit) J154 (fun _=>[(0,pv p_p),(3,pv (some (b1,0))),(111,slv x148),(112,.int .i64 (Sl.len x148:Int)),(113,.int .i64 x150)]) ?_ ?_
 refine GC.block (Zo (Yx h fun p158 h=>?_))
 obtain ⟨x163,v164,h⟩:=h
 refine Zv (OV.loadT rfl rfl rfl v164) (GL.alloc (cs:=Ql.c Ql.zero) h trivial rfl rfl rfl ?_)
 intro b165 H166 h
 refine GL.storeT (p:=(b165,0)) (vs:=Ql.c x163) h trivial rfl rfl rfl rfl ?_
 intro H167 h
 refine GL.nil (Zo (Zm ?_))
 obtain ⟨x168,v169,h⟩:=h
 refine Zv (OV.loadT rfl rfl rfl v169) (Zf (Yl h fun x170 h=>?_))
 refine Zc h Qa7 ?_
 rintro _ H173 ⟨r172,rfl,h⟩
 refine Zv (OV.not rfl) (GL.nil (Yd h (fun u174 h=>?_) fun u174 h=>?_))
 refine GC.region ?_
 obtain ⟨x175,v176,h⟩:=h
 refine Zv (OV.loadT rfl rfl rfl v176) (Zf ?_)
 obtain ⟨x177,v178,h⟩:=h
 refine Zv (OV.loadT rfl rfl rfl v178) (GL.callP h (fun _ _ _ _ h=>h) trivial rfl QV (vs:=[.agg (Qa.c x175).toArray,.agg (Qj.c x177).toArray,.int .i64 6]) rfl ?_)
 rintro _ H179 ⟨rfl,h⟩
 exact Yj I3 () h
 exact Yk I3 () h
 intro x155 H156 h
 replace h:=hR157 x155 H156 h
 refine GC.region (Zi (.int .i64 (w .i64 (x150+1))) (Zm ?_))
 exact Yj I3 (w .i64 (x150+1)) h
 exact GC.exit_ends (fun _ _ hf hs=>postP (E:=E) hf (QfN rfl hf hs ⟨rfl,h⟩))
def Qdd (C:Ctx) (E:Value→Heap→Prop) (p_p:Option (Nat×Nat)) (K:Heap→Prop) (H:Heap):Prop:=
 nw ((List.replicate 4 (.int .i64 0:Value))) (fun b1 H2=>
 nck p_p fun p3=>
 ldL H2 (p3.1,p3.2+0) fun x5=>
 lp (α:=Int) 0 H2 (fun x7 J8 H9=>
 ift (decide ((x7:Int) < (Sl.len x5:Int)))
 (ixa x5 x7 fun p11=>
 ldT H9 Qa.c (p11.1,p11.2+(x7:Int).toNat*6) fun x16=>
 nw (Qa.c Qa.zero) (fun b18 H19=>
 stT (b18,0) (Qa.c x16) (fun H20=>
 ixr (b1,0) 4 0 <|
 ldI H20 .i64 ((b1,0).1,(b1,0).2+(0:Int).toNat*1) fun x23=>
 ldL H20 ((b18,0).1,(b18,0).2+2) fun x25=>
 ixr (b1,0) 4 0 <|
 st ((b1,0).1,(b1,0).2+(0:Int).toNat*1) (.int .i64 (w .i64 (x23+(Sl.len x25:Int)))) (fun H29=>
 ixr (b1,0) 4 2 <|
 ldI H29 .i64 ((b1,0).1,(b1,0).2+(2:Int).toNat*1) fun x32=>
 ldL H29 ((b18,0).1,(b18,0).2+3) fun x34=>
 ixr (b1,0) 4 2 <|
 st ((b1,0).1,(b1,0).2+(2:Int).toNat*1) (.int .i64 (w .i64 (x32+(Sl.len x34:Int)))) (fun H38=>
 ixr (b1,0) 4 1 <|
 ldI H38 .i64 ((b1,0).1,(b1,0).2+(1:Int).toNat*1) fun x41=>
 ldL H38 ((b18,0).1,(b18,0).2+4) fun x43=>
 ixr (b1,0) 4 1 <|
 st ((b1,0).1,(b1,0).2+(1:Int).toNat*1) (.int .i64 (w .i64 (x41+(Sl.len x43:Int)))) (fun H47=>
 ixr (b1,0) 4 3 <|
 ldI H47 .i64 ((b1,0).1,(b1,0).2+(3:Int).toNat*1) fun x50=>
 ldL H47 ((b18,0).1,(b18,0).2+5) fun x52=>
 ixr (b1,0) 4 3 <|
 st ((b1,0).1,(b1,0).2+(3:Int).toNat*1) (.int .i64 (w .i64 (x50+(Sl.len x52:Int)))) (fun H56=>
 J8 (w .i64 (x7+1)) H56) H47) H38) H29) H20) H19) H9)
 (ixr (b1,0) 4 0 <|
 ldI H9 .i64 ((b1,0).1,(b1,0).2+(0:Int).toNat*1) fun x59=>
 jn (α:=Bool) (fun b61 H69=>
 jn (α:=Bool) (fun b70 H78=>
 jn (α:=Bool) (fun b79 H87=>
 ift b79
 (E (.iface 89 (.agg (Qo.c (⟨Qe.zero,3⟩:Qo)).toArray:Value)) H87)
 (K H87))
 (fun J80=>ift b70
 (J80 true H78)
 (ixr (b1,0) 4 3 <|
 ldI H78 .i64 ((b1,0).1,(b1,0).2+(3:Int).toNat*1) fun x85=>
 J80 (decide ((x85:Int) > 256)) H78)))
 (fun J71=>ift b61
 (J71 true H69)
 (ixr (b1,0) 4 1 <|
 ldI H69 .i64 ((b1,0).1,(b1,0).2+(1:Int).toNat*1) fun x76=>
 J71 (decide ((x76:Int) > 256)) H69)))
 (fun J62=>ift (decide ((x59:Int) > 64))
 (J62 true H9)
 (ixr (b1,0) 4 2 <|
 ldI H9 .i64 ((b1,0).1,(b1,0).2+(2:Int).toNat*1) fun x67=>
 J62 (decide ((x67:Int) > 64)) H9))))) H
theorem Qfk (C E p_p K H) (h:Qdd C E p_p K H):QbG C E p_p K H:=by
 refine SpecP.enter Tryz.func25 rfl Tryz.ntmps25 rfl (GC.sub [(0,pv p_p)] ⟨rfl,trivial⟩ (Zo (GL.alloc (cs:=(List.replicate 4 (.int .i64 0:Value))) h trivial rfl rfl rfl ?_)))
 intro b1 H2 h
 refine GL.nil (GC.seq (Zo (Zm ?_)))
 obtain ⟨p3,hp4,h⟩:=h
 refine Zv (OV.nilCheck (q:=p_p) rfl hp4) (Zf (Yl h fun x5 h=>?_))
 refine Zq (Zm (GL.nil (GC.block (Yp h (fun x7=>[(10,.int .i64 x7),(2,pv (some (b1,0))),(8,slv x5),(9,.int .i64 (Sl.len x5:Int))]) ?_))))
 intro x7 H9 J8 h
 refine Zo (Zi (.bool (decide ((x7:Int) < (Sl.len x5:Int)))) (GL.nil (GC.seq (Yd h (fun u10 h=>?_) fun u10 h=>?_))))
 refine GC.skip (GC.seq (GC.block (Zo (Yx h fun p11 h=>?_))))
 obtain ⟨x16,v17,h⟩:=h
 refine Zv (OV.loadT rfl rfl rfl v17) (GL.alloc (cs:=Qa.c Qa.zero) h trivial rfl rfl rfl ?_)
 intro b18 H19 h
 refine GL.storeT (p:=(b18,0)) (vs:=Qa.c x16) h trivial rfl rfl rfl rfl ?_
 intro H20 h
 refine GL.nil (Zo ?_)
 obtain ⟨ha21,hb22,h⟩:=h
 refine Zv (OV.indexAddrA (p:=(b1,0)) rfl rfl rfl rfl ha21 hb22) (Yl h fun x23 h=>?_)
 refine Zf (Yl h fun x25 h=>?_)
 refine Zq (Zi (.int .i64 (w .i64 (x23+(Sl.len x25:Int)))) ?_)
 obtain ⟨ha27,hb28,h⟩:=h
 refine Zv (OV.indexAddrA (p:=(b1,0)) rfl rfl rfl rfl ha27 hb28) (GL.store (p:=((b1,0).1,(b1,0).2+(0:Int).toNat*1)) (v:=.int .i64 (w .i64 (x23+(Sl.len x25:Int)))) h trivial rfl rfl rfl rfl ?_)
 intro H29 h
 refine GL.nil (Zo ?_)
 obtain ⟨ha30,hb31,h⟩:=h
 refine Zv (OV.indexAddrA (p:=(b1,0)) rfl rfl rfl rfl ha30 hb31) (Yl h fun x32 h=>?_)
 refine Zf (Yl h fun x34 h=>?_)
 refine Zq (Zi (.int .i64 (w .i64 (x32+(Sl.len x34:Int)))) ?_)
 obtain ⟨ha36,hb37,h⟩:=h
 refine Zv (OV.indexAddrA (p:=(b1,0)) rfl rfl rfl rfl ha36 hb37) (GL.store (p:=((b1,0).1,(b1,0).2+(2:Int).toNat*1)) (v:=.int .i64 (w .i64 (x32+(Sl.len x34:Int)))) h trivial rfl rfl rfl rfl ?_)
 intro H38 h
 refine GL.nil (Zo ?_)
 obtain ⟨ha39,hb40,h⟩:=h
 refine Zv (OV.indexAddrA (p:=(b1,0)) rfl rfl rfl rfl ha39 hb40) (Yl h fun x41 h=>?_)
 refine Zf (Yl h fun x43 h=>?_)
 refine Zq (Zi (.int .i64 (w .i64 (x41+(Sl.len x43:Int)))) ?_)
 obtain ⟨ha45,hb46,h⟩:=h
 refine Zv (OV.indexAddrA (p:=(b1,0)) rfl rfl rfl rfl ha45 hb46) (GL.store (p:=((b1,0).1,(b1,0).2+(1:Int).toNat*1)) (v:=.int .i64 (w .i64 (x41+(Sl.len x43:Int)))) h trivial rfl rfl rfl rfl ?_)
 intro H47 h
 refine GL.nil (GC.region ?_)
 obtain ⟨ha48,hb49,h⟩:=h
 refine Zv (OV.indexAddrA (p:=(b1,0)) rfl rfl rfl rfl ha48 hb49) (Yl h fun x50 h=>?_)
 refine Zf (Yl h fun x52 h=>?_)
 refine Zq (Zi (.int .i64 (w .i64 (x50+(Sl.len x52:Int)))) ?_)
 obtain ⟨ha54,hb55,h⟩:=h
 refine Zv (OV.indexAddrA (p:=(b1,0)) rfl rfl rfl rfl ha54 hb55) (GL.store (p:=((b1,0).1,(b1,0).2+(3:Int).toNat*1)) (v:=.int .i64 (w .i64 (x50+(Sl.len x52:Int)))) h trivial rfl rfl rfl rfl ?_)
 intro H56 h
 refine GL.nil_to I3 (GC.region (Zi (.int .i64 (w .i64 (x7+1))) (Zm ?_)))
 exact Yj I3 (w .i64 (x7+1)) h
 refine GC.exit_to I3 (Zo ?_)
 obtain ⟨ha57,hb58,h⟩:=h
 refine Zv (OV.indexAddrA (p:=(b1,0)) rfl rfl rfl rfl ha57 hb58) (Yl h fun x59 h=>?_)
 refine Zi (.bool (decide ((x59:Int) > 64))) (Zm ?_)
 obtain ⟨J62,h,hR63⟩:=h
 refine GL.cut (α:=Bool) 4 J62 (fun b61=>[(50,.bool b61),(2,pv (some (b1,0)))]) ?_ ?_
 rcases h.em with ⟨u64,h⟩ | ⟨u64,h⟩
 refine Zk u64 (Zk u64 (Zk u64 (Zt u64 ?_)))
 exact Yj I3 true h
 obtain ⟨ha65,hb66,h⟩:=h
 refine Zu u64 (OV.indexAddrA (p:=(b1,0)) rfl rfl rfl rfl ha65 hb66) ?_
 obtain ⟨x67,v68,h⟩:=h
 refine Zu u64 (Yo v68) (Zu u64 (OV.ibin (v:=.bool (decide ((x67:Int) > 64))) rfl rfl rfl) (Zn u64 ?_))
 exact Yj I3 (decide ((x67:Int) > 64)) h
 intro b61 H69 h
 replace h:=hR63 b61 H69 h
 refine Zm ?_
 obtain ⟨J71,h,hR72⟩:=h
 refine GL.cut (α:=Bool) 4 J71 (fun b70=>[(55,.bool b70),(2,pv (some (b1,0)))]) ?_ ?_
 rcases h.em with ⟨u73,h⟩ | ⟨u73,h⟩
 refine Zk u73 (Zk u73 (Zk u73 (Zt u73 ?_)))
 exact Yj I3 true h
 obtain ⟨ha74,hb75,h⟩:=h
 refine Zu u73 (OV.indexAddrA (p:=(b1,0)) rfl rfl rfl rfl ha74 hb75) ?_
 obtain ⟨x76,v77,h⟩:=h
 refine Zu u73 (Yo v77) (Zu u73 (OV.ibin (v:=.bool (decide ((x76:Int) > 256))) rfl rfl rfl) (Zn u73 ?_))
 exact Yj I3 (decide ((x76:Int) > 256)) h
 intro b70 H78 h
 replace h:=hR72 b70 H78 h
 refine Zm ?_
 obtain ⟨J80,h,hR81⟩:=h
 refine GL.cut (α:=Bool) 4 J80 (fun b79=>[(60,.bool b79)]) ?_ ?_
 rcases h.em with ⟨u82,h⟩ | ⟨u82,h⟩
 refine Zk u82 (Zk u82 (Zk u82 (Zt u82 ?_)))
 exact Yj I3 true h
 obtain ⟨ha83,hb84,h⟩:=h
 refine Zu u82 (OV.indexAddrA (p:=(b1,0)) rfl rfl rfl rfl ha83 hb84) ?_
 obtain ⟨x85,v86,h⟩:=h
 refine Zu u82 (Yo v86) (Zu u82 (OV.ibin (v:=.bool (decide ((x85:Int) > 256))) rfl rfl rfl) (Zn u82 ?_))
 exact Yj I3 (decide ((x85:Int) > 256)) h
 intro b79 H87 h
 replace h:=hR81 b79 H87 h
 refine GL.nil (Yd h (fun u88 h=>?_) fun u88 h=>?_)
 refine GC.region (Zv (OV.build (vs:=[(1,.int .i64 3)]) (v:=.agg (Qo.c (⟨Qe.zero,3⟩:Qo)).toArray) rfl (fun _=>by kernel_rfl)) (Zv (OV.makeInterface (u:=.agg (Qo.c (⟨Qe.zero,3⟩:Qo)).toArray) rfl (by kernel_rfl)) ?_))
 exact GL.panic (t:=89) (u:=(.agg (Qo.c (⟨Qe.zero,3⟩:Qo)).toArray:Value)) h (fun _ _ _ _ h=>h) trivial rfl
 exact GC.ends (fun _ _ hf hs=>postP (E:=E) hf (QfN rfl hf hs ⟨rfl,h⟩))
def QdH (C:Ctx) (E:Value→Heap→Prop) (p_p:Option (Nat×Nat)) (p_out:Option (Nat×Nat)) (p_m:Qa) (K:Heap→Prop) (H:Heap):Prop:=
 nw (Qa.c p_m) (fun b1 H2=>
 ldL H2 ((b1,0).1,(b1,0).2+2) fun x3=>
 lp (α:=Int) 0 H2 (fun x5 J6 H7=>
 ift (decide ((x5:Int) < (Sl.len x3:Int)))
 (ixa x3 x5 fun p9=>
 ldT H7 Qb.c (p9.1,p9.2+(x5:Int).toNat*6) fun x14=>
 nw (Qb.c Qb.zero) (fun b16 H17=>
 stT (b16,0) (Qb.c x14) (fun H18=>
 ldT H18 Qb.c (b16,0) fun x19=>
 nw (Qb.c Qb.zero) (fun b21 H22=>
 stT (b21,0) (Qb.c x19) (fun H23=>
 dr H23 fun Hs24=>
 ldS Hs24 ((b1,0).1,(b1,0).2+0) fun x26=>
 catOk x26 ([46]:Str)∧
 ldS Hs24 ((b16,0).1,(b16,0).2+3) fun x29=>
 catOk (x26++([46]:Str)) x29∧
 ldL Hs24 ((b16,0).1,(b16,0).2+4) fun x32=>
 QJ C x32 (fun r35 H36=>
 Heap.le Hs24 H36∧
 st ((b21,0).1,(b21,0).2+3) (sv ((x26++([46]:Str))++x29)) (fun H37=>
 st ((b21,0).1,(b21,0).2+4) (slv r35) (fun H38=>
 st ((b21,0).1,(b21,0).2+5) (slv Sl.nil) (fun H39=>
 ldL H39 ((b16,0).1,(b16,0).2+5) fun x40=>
 lp (α:=Int) 0 H39 (fun x42 J43 H44=>
 ift (decide ((x42:Int) < (Sl.len x40:Int)))
 (ixa x40 x42 fun p46=>
 ldT H44 Qc.c (p46.1,p46.2+(x42:Int).toNat*2) fun x51=>
 nw (Qc.c Qc.zero) (fun b53 H54=>
 stT (b53,0) (Qc.c x51) (fun H55=>
 dr H55 fun Hs56=>
 ldL Hs56 ((b21,0).1,(b21,0).2+5) fun x58=>
 ldS Hs56 ((b1,0).1,(b1,0).2+0) fun x60=>
 catOk x60 ([46]:Str)∧
 ldS Hs56 ((b53,0).1,(b53,0).2+0) fun x63=>
 catOk (x60++([46]:Str)) x63∧
 ldT Hs56 Qa.c (b1,0) fun x66=>
 ldL Hs56 ((b53,0).1,(b53,0).2+1) fun x68=>
 ldT Hs56 Qj.c ((b16,0).1,(b16,0).2+0) fun x70=>
 QO C E p_p x66 x68 x70 (fun r73 H74=>
 Heap.le Hs56 H74∧
 nw ((Qc.c (⟨((x60++([46]:Str))++x63),r73⟩:Qc))++[]) (fun b76 H77=>
 Heap.le Hs56 H77∧
 apS (Qc.c Qc.zero) 40 x58 (Sl.of (some (b76,0)) 1 1) (fun r79 H80=>
 Heap.le Hs56 H80∧
 st ((b21,0).1,(b21,0).2+5) (slv r79) (fun H81=>
 J43 (w .i64 (x42+1)) H81) H80) H77) H74) H55) H54) H44)
 (dr H44 fun Hs82=>
 nck p_out fun p84=>
 ldL Hs82 (p84.1,p84.2+2) fun x86=>
 ldT Hs82 Qb.c (b21,0) fun x88=>
 nw ((Qb.c x88)++[]) (fun b91 H92=>
 Heap.le Hs82 H92∧
 apS (Qb.c Qb.zero) 88 x86 (Sl.of (some (b91,0)) 1 1) (fun r94 H95=>
 Heap.le Hs82 H95∧
 nck p_out fun p96=>
 st (p96.1,p96.2+2) (slv r94) (fun H98=>
 J6 (w .i64 (x5+1)) H98) H95) H92) H44))) H38) H37) H36) H23) H22) H18) H17) H7)
 (ldL H7 ((b1,0).1,(b1,0).2+3) fun x99=>
 lp (α:=Int) 0 H7 (fun x101 J102 H103=>
 ift (decide ((x101:Int) < (Sl.len x99:Int)))
 (ixa x99 x101 fun p105=>
 ldT H103 Qg.c (p105.1,p105.2+(x101:Int).toNat*6) fun x110=>
 nw (Qg.c Qg.zero) (fun b112 H113=>
 stT (b112,0) (Qg.c x110) (fun H114=>
 dr H114 fun Hs115=>
 ldS Hs115 ((b1,0).1,(b1,0).2+0) fun x117=>
 catOk x117 ([46]:Str)∧
 ldS Hs115 ((b112,0).1,(b112,0).2+4) fun x120=>
 catOk (x117++([46]:Str)) x120∧
 ldT Hs115 Qa.c (b1,0) fun x123=>
 ldL Hs115 ((b112,0).1,(b112,0).2+5) fun x125=>
 ldT Hs115 Qj.c ((b112,0).1,(b112,0).2+0) fun x127=>
 QO C E p_p x123 x125 x127 (fun r130 H131=>
 Heap.le Hs115 H131∧
 st ((b112,0).1,(b112,0).2+4) (sv ((x117++([46]:Str))++x120)) (fun H132=>
 st ((b112,0).1,(b112,0).2+5) (slv r130) (fun H133=>
 dr H133 fun Hs134=>
 nck p_out fun p136=>
 ldL Hs134 (p136.1,p136.2+3) fun x138=>
 ldT Hs134 Qg.c (b112,0) fun x140=>
 nw ((Qg.c x140)++[]) (fun b143 H144=>
 Heap.le Hs134 H144∧
 apS (Qg.c Qg.zero) 64 x138 (Sl.of (some (b143,0)) 1 1) (fun r146 H147=>
 Heap.le Hs134 H147∧
 nck p_out fun p148=>
 st (p148.1,p148.2+3) (slv r146) (fun H150=>
 J102 (w .i64 (x101+1)) H150) H147) H144) H133) H132) H131) H114) H113) H103)
 (ldL H103 ((b1,0).1,(b1,0).2+4) fun x151=>
 lp (α:=Int) 0 H103 (fun x153 J154 H155=>
 ift (decide ((x153:Int) < (Sl.len x151:Int)))
 (ixa x151 x153 fun p157=>
 ldT H155 Qi.c (p157.1,p157.2+(x153:Int).toNat*6) fun x162=>
 nw (Qi.c Qi.zero) (fun b164 H165=>
 stT (b164,0) (Qi.c x162) (fun H166=>
 jn (α:=Unit) (fun x168 H169=>
 dr H169 fun Hs193=>
 ldT Hs193 Qa.c (b1,0) fun x195=>
 ldL Hs193 ((b164,0).1,(b164,0).2+3) fun x197=>
 ldL Hs193 ((b164,0).1,(b164,0).2+4) fun x199=>
 Qab C E p_p x195 x197 (fun r202 H203=>
 Heap.le Hs193 H203∧
 QJ C x199 (fun r205 H206=>
 Heap.le Hs193 H206∧
 st ((b164,0).1,(b164,0).2+3) (slv r202) (fun H207=>
 st ((b164,0).1,(b164,0).2+4) (slv r205) (fun H208=>
 ldT H208 Qa.c (b1,0) fun x209=>
 ldL H208 ((b164,0).1,(b164,0).2+5) fun x211=>
 Qah C E p_p x209 x211 (fun r213 H214=>
 st ((b164,0).1,(b164,0).2+5) (slv r213) (fun H215=>
 dr H215 fun Hs216=>
 nck p_out fun p218=>
 ldL Hs216 (p218.1,p218.2+4) fun x220=>
 ldT Hs216 Qi.c (b164,0) fun x222=>
 nw ((Qi.c x222)++[]) (fun b225 H226=>
 Heap.le Hs216 H226∧
 apS (Qi.c Qi.zero) 104 x220 (Sl.of (some (b225,0)) 1 1) (fun r228 H229=>
 Heap.le Hs216 H229∧
 nck p_out fun p230=>
 st (p230.1,p230.2+4) (slv r228) (fun H232=>
 J154 (w .i64 (x153+1)) H232) H229) H226) H215) H214) H208) H207) H206) H203) H169)
 (fun J167=>ldT H166 Qa.c (b1,0) fun x171=>
 ldS H166 ((b164,0).1,(b164,0).2+2) fun x173=>
 ldT H166 Qj.c ((b164,0).1,(b164,0).2+0) fun x175=>
 Q3 C E p_p x171 x173 2 x175 (fun r177 H178=>
 st ((b164,0).1,(b164,0).2+2) (sv r177) (fun H179=>
 ldS H179 ((b164,0).1,(b164,0).2+2) fun x180=>
 ldS H179 ((b1,0).1,(b1,0).2+0) fun x182=>
 catOk x182 ([46]:Str)∧
 QbH C x180 (x182++([46]:Str)) (fun r185 H186=>
 ift (!r185)
 (ldT H186 Qa.c (b1,0) fun x188=>
 ldT H186 Qj.c ((b164,0).1,(b164,0).2+0) fun x190=>
 QA C E x188 x190 63 (fun H192=>
 J167 () H192) H186)
 (J167 () H186)) H179) H178) H166)) H165) H155)
 (ldL H155 ((b1,0).1,(b1,0).2+5) fun x233=>
 lp (α:=Int) 0 H155 (fun x235 J236 H237=>
 ift (decide ((x235:Int) < (Sl.len x233:Int)))
 (ixa x233 x235 fun p239=>
 ldT H237 Ql.c (p239.1,p239.2+(x235:Int).toNat*4) fun x244=>
 nw (Ql.c Ql.zero) (fun b246 H247=>
 stT (b246,0) (Ql.c x244) (fun H248=>
 dr H248 fun Hs249=>
 ldS Hs249 ((b1,0).1,(b1,0).2+0) fun x251=>
 catOk x251 ([46]:Str)∧
 ldS Hs249 ((b246,0).1,(b246,0).2+2) fun x254=>
 catOk (x251++([46]:Str)) x254∧
 ldT Hs249 Qa.c (b1,0) fun x257=>
 ldL Hs249 ((b246,0).1,(b246,0).2+3) fun x259=>
 Qah C E p_p x257 x259 (fun r262 H263=>
 Heap.le Hs249 H263∧
 st ((b246,0).1,(b246,0).2+2) (sv ((x251++([46]:Str))++x254)) (fun H264=>
 st ((b246,0).1,(b246,0).2+3) (slv r262) (fun H265=>
 dr H265 fun Hs266=>
 nck p_out fun p268=>
 ldL Hs266 (p268.1,p268.2+5) fun x270=>
 ldT Hs266 Ql.c (b246,0) fun x272=>
 nw ((Ql.c x272)++[]) (fun b275 H276=>
 Heap.le Hs266 H276∧
 apS (Ql.c Ql.zero) 56 x270 (Sl.of (some (b275,0)) 1 1) (fun r278 H279=>
 Heap.le Hs266 H279∧
 nck p_out fun p280=>
 st (p280.1,p280.2+5) (slv r278) (fun H282=>
 J236 (w .i64 (x235+1)) H282) H279) H276) H265) H264) H263) H248) H247) H237)
 (K H237))))))))) H
theorem Qgw (C E p_p p_out p_m K H) (h:QdH C E p_p p_out p_m K H):Qcn C E p_p p_out p_m K H:=by
 refine SpecP.enter Tryz.func26 rfl Tryz.ntmps26 rfl (GC.sub [(0,pv p_p),(1,pv p_out),(2,.agg (Qa.c p_m).toArray)] ⟨rfl,rfl,rfl,trivial⟩ (Zo (GL.box (v:=.agg (Qa.c p_m).toArray) (cs:=Qa.c p_m) h trivial rfl rfl rfl ?_)))
 intro b1 H2 h
 refine GL.nil (GC.seq (Zo (Zf (Yl h fun x3 h=>?_))))
 refine Zq (Zm (GL.nil (GC.block (Yp h (fun x5=>[(20,.int .i64 x5),(0,pv p_p),(1,pv p_out),(5,pv (some (b1,0))),(18,slv x3),(19,.int .i64 (Sl.len x3:Int))]) ?_))))
 intro x5 H7 J6 h
 refine Zo (Zi (.bool (decide ((x5:Int) < (Sl.len x3:Int)))) (GL.nil (GC.seq (Yd h (fun u8 h=>?_) fun u8 h=>?_))))
 refine GC.skip (GC.seq (GC.block (Zo (Yx h fun p9 h=>?_))))
 obtain ⟨x14,v15,h⟩:=h
 refine Zv (OV.loadT rfl rfl rfl v15) (GL.alloc (cs:=Qb.c Qb.zero) h trivial rfl rfl rfl ?_)
 intro b16 H17 h
 refine GL.storeT (p:=(b16,0)) (vs:=Qb.c x14) h trivial rfl rfl rfl rfl ?_
 intro H18 h
 refine GL.nil (Zo ?_)
 obtain ⟨x19,v20,h⟩:=h
 refine Zv (OV.loadT rfl rfl rfl v20) (GL.alloc (cs:=Qb.c Qb.zero) h trivial rfl rfl rfl ?_)
 intro b21 H22 h
 refine GL.storeT (p:=(b21,0)) (vs:=Qb.c x19) h trivial rfl rfl rfl rfl ?_
 intro H23 h
 refine GL.nil (GC.seq ?_)
 obtain ⟨Hs24,hle25,h⟩:=h
 refine GC.tail (Hs:=Hs24) 10 (by kernel_rfl) hle25 (by kernel_rfl) (GT.takeP 0 rfl trivial (OV.fieldAddr (p:=(b1,0)) rfl rfl) ?_)
 obtain ⟨x26,v27,h⟩:=h
 refine GT.takeP 1 rfl trivial (OV.load (p:=((b1,0).1,(b1,0).2+0)) rfl rfl v27) ?_
 obtain ⟨hl28,h⟩:=h
 refine GT.takeP 2 rfl trivial (OV.cat (a:=x26) (b:=([46]:Str)) rfl rfl hl28) (GT.takeP 3 rfl trivial (OV.fieldAddr (p:=(b16,0)) rfl rfl) ?_)
 obtain ⟨x29,v30,h⟩:=h
 refine GT.takeP 4 rfl trivial (OV.load (p:=((b16,0).1,(b16,0).2+3)) rfl rfl v30) ?_
 obtain ⟨hl31,h⟩:=h
 refine GT.takeP 5 rfl trivial (OV.cat (a:=(x26++([46]:Str))) (b:=x29) rfl rfl hl31) (GT.takeP 6 rfl trivial (OV.fieldAddr (p:=(b16,0)) rfl rfl) ?_)
 obtain ⟨x32,v33,h⟩:=h
 refine GT.takeP 7 rfl trivial (OV.load (p:=((b16,0).1,(b16,0).2+4)) rfl rfl v33) (GT.takeP 9 rfl trivial (OV.fieldAddr (p:=(b21,0)) rfl rfl) (GT.eff 8 rfl (by kernel_rfl) rfl (Zc h QbR ?_)))
 rintro _ H36 ⟨r35,rfl,h⟩
 obtain ⟨hle34,h⟩:=h
 refine GT.back hle34 (GT.done (by kernel_rfl) ?_)
 show GL _ _ _ _ _ [_,_,_,_,_] _ _
 refine GL.store (p:=((b21,0).1,(b21,0).2+3)) (v:=sv ((x26++([46]:Str))++x29)) h trivial rfl rfl rfl rfl ?_
 intro H37 h
 refine Zf (GL.store (p:=((b21,0).1,(b21,0).2+4)) (v:=slv r35) h trivial rfl rfl rfl rfl ?_)
 intro H38 h
 refine Zf (GL.store (p:=((b21,0).1,(b21,0).2+5)) (v:=slv Sl.nil) h trivial rfl rfl rfl rfl ?_)
 intro H39 h
 refine GL.nil (GC.seq (Zo (Zf (Yl h fun x40 h=>?_))))
 refine Zq (Zm (GL.nil (GC.block (Yp h (fun x42=>[(40,.int .i64 x42),(0,pv p_p),(1,pv p_out),(5,pv (some (b1,0))),(7,pv (some (b16,0))),(8,pv (some (b21,0))),(18,slv x3),(19,.int .i64 (Sl.len x3:Int)),(20,.int .i64 x5),(38,slv x40),(39,.int .i64 (Sl.len x40:Int))]) ?_))))
 intro x42 H44 J43 h
 refine Zo (Zi (.bool (decide ((x42:Int) < (Sl.len x40:Int)))) (GL.nil (GC.seq (Yd h (fun u45 h=>?_) fun u45 h=>?_))))
 refine GC.skip (GC.seq (GC.block (Zo (Yx h fun p46 h=>?_))))
 obtain ⟨x51,v52,h⟩:=h
 refine Zv (OV.loadT rfl rfl rfl v52) (GL.alloc (cs:=Qc.c Qc.zero) h trivial rfl rfl rfl ?_)
 intro b53 H54 h
 refine GL.storeT (p:=(b53,0)) (vs:=Qc.c x51) h trivial rfl rfl rfl rfl ?_
 intro H55 h
 refine GL.nil ?_
 obtain ⟨Hs56,hle57,h⟩:=h
 refine GC.tail (Hs:=Hs56) 19 (by kernel_rfl) hle57 (by kernel_rfl) (GT.takeP 0 rfl trivial (OV.fieldAddr (p:=(b21,0)) rfl rfl) ?_)
 obtain ⟨x58,v59,h⟩:=h
 refine GT.takeP 1 rfl trivial (OV.load (p:=((b21,0).1,(b21,0).2+5)) rfl rfl v59) (GT.takeP 2 rfl trivial (OV.fieldAddr (p:=(b1,0)) rfl rfl) ?_)
 obtain ⟨x60,v61,h⟩:=h
 refine GT.takeP 3 rfl trivial (OV.load (p:=((b1,0).1,(b1,0).2+0)) rfl rfl v61) ?_
 obtain ⟨hl62,h⟩:=h
 refine GT.takeP 4 rfl trivial (OV.cat (a:=x60) (b:=([46]:Str)) rfl rfl hl62) (GT.takeP 5 rfl trivial (OV.fieldAddr (p:=(b53,0)) rfl rfl) ?_)
 obtain ⟨x63,v64,h⟩:=h
 refine GT.takeP 6 rfl trivial (OV.load (p:=((b53,0).1,(b53,0).2+0)) rfl rfl v64) ?_
 obtain ⟨hl65,h⟩:=h
 refine GT.takeP 7 rfl trivial (OV.cat (a:=(x60++([46]:Str))) (b:=x63) rfl rfl hl65) (GT.takeP 8 rfl trivial (OV.move (v:=pv p_p) rfl) ?_)
 obtain ⟨x66,v67,h⟩:=h
 refine GT.takeP 9 rfl trivial (OV.loadT (p:=(b1,0)) (cs:=Qa.c x66) rfl rfl rfl v67) (GT.takeP 10 rfl trivial (OV.fieldAddr (p:=(b53,0)) rfl rfl) ?_)
 obtain ⟨x68,v69,h⟩:=h
 refine GT.takeP 11 rfl trivial (OV.load (p:=((b53,0).1,(b53,0).2+1)) rfl rfl v69) (GT.takeP 12 rfl trivial (OV.fieldAddr (p:=(b16,0)) rfl rfl) ?_)
 obtain ⟨x70,v71,h⟩:=h
 refine GT.takeP 13 rfl trivial (OV.loadT (p:=((b16,0).1,(b16,0).2+0)) (cs:=Qj.c x70) rfl rfl rfl v71) (GT.eff 14 rfl (by kernel_rfl) rfl (GL.callP h (fun _ _ _ _ h=>h) trivial rfl Qc6 (vs:=[pv p_p,.agg (Qa.c x66).toArray,slv x68,.agg (Qj.c x70).toArray]) rfl ?_))
 rintro _ H74 ⟨r73,rfl,h⟩
 obtain ⟨hle72,h⟩:=h
 refine GT.back hle72 (GT.takeP 15 rfl trivial (OV.build (vs:=[(0,sv ((x60++([46]:Str))++x63)),(1,slv r73)]) (v:=.agg (Qc.c (⟨((x60++([46]:Str))++x63),r73⟩:Qc)).toArray) rfl (fun _=>by kernel_rfl)) (GT.eff 16 rfl (by kernel_rfl) rfl (GL.buildSlice (cs:=(Qc.c (⟨((x60++([46]:Str))++x63),r73⟩:Qc))++[]) h trivial rfl (vs:=[(0,.agg (Qc.c (⟨((x60++([46]:Str))++x63),r73⟩:Qc)).toArray)]) rfl ⟨63,fun _=>by kernel_rfl⟩ ?_)))
 intro b76 H77 h
 obtain ⟨hle75,h⟩:=h
 refine GT.back hle75 (GT.eff 17 rfl (by kernel_rfl) rfl (GL.appendS (s:=x58) (s2:=(Sl.of (some (b76,0)) 1 1)) (zc:=Qc.c Qc.zero) (bytes:=40) h trivial rfl rfl rfl ⟨⟨_,_,_,rfl,rfl,rfl,rfl,rfl,rfl⟩⟩ rfl ?_))
 intro r79 H80 h
 obtain ⟨hle78,h⟩:=h
 refine GT.back hle78 (GT.takeP 18 rfl trivial (OV.fieldAddr (p:=(b21,0)) rfl rfl) (GT.done (by kernel_rfl) ?_))
 show GL _ _ _ _ _ [_] _ _
 refine GL.store (p:=((b21,0).1,(b21,0).2+5)) (v:=slv r79) h trivial rfl rfl rfl rfl ?_
 intro H81 h
 refine GL.nil_to I3 (GC.region (Zi (.int .i64 (w .i64 (x42+1))) (Zm ?_)))
 exact Yj I3 (w .i64 (x42+1)) h
 refine GC.exit_to I3 ?_
 obtain ⟨Hs82,hle83,h⟩:=h
 refine GC.tail (Hs:=Hs82) 10 (by kernel_rfl) hle83 (by kernel_rfl) (GT.takeP 0 rfl trivial (OV.move (v:=pv p_out) rfl) (GT.takeP 1 rfl trivial (OV.move (v:=pv p_out) rfl) ?_))
 obtain ⟨p84,hp85,h⟩:=h
 refine GT.takeP 2 rfl trivial (OV.nilCheck (q:=p_out) rfl hp85) (GT.takeP 3 rfl trivial (OV.fieldAddr (p:=p84) rfl rfl) ?_)
 obtain ⟨x86,v87,h⟩:=h
 refine GT.takeP 4 rfl trivial (OV.load (p:=(p84.1,p84.2+2)) rfl rfl v87) ?_
 obtain ⟨x88,v89,h⟩:=h
 refine GT.takeP 5 rfl trivial (OV.loadT (p:=(b21,0)) (cs:=Qb.c x88) rfl rfl rfl v89) (GT.eff 6 rfl (by kernel_rfl) rfl (GL.buildSlice (cs:=(Qb.c x88)++[]) h trivial rfl (vs:=[(0,.agg (Qb.c x88).toArray)]) rfl ⟨66,fun _=>by kernel_rfl⟩ ?_))
 intro b91 H92 h
 obtain ⟨hle90,h⟩:=h
 refine GT.back hle90 (GT.eff 7 rfl (by kernel_rfl) rfl (GL.appendS (s:=x86) (s2:=(Sl.of (some (b91,0)) 1 1)) (zc:=Qb.c Qb.zero) (bytes:=88) h trivial rfl rfl rfl ⟨⟨_,_,_,rfl,rfl,rfl,rfl,rfl,rfl⟩⟩ rfl ?_))
 intro r94 H95 h
 obtain ⟨hle93,h⟩:=h
 refine GT.back hle93 ?_
 obtain ⟨p96,hp97,h⟩:=h
 refine GT.takeP 8 rfl trivial (OV.nilCheck (q:=p_out) rfl hp97) (GT.takeP 9 rfl trivial (OV.fieldAddr (p:=p96) rfl rfl) (GT.done (by kernel_rfl) ?_))
 show GL _ _ _ _ _ [_] _ _
 refine GL.store (p:=(p96.1,p96.2+2)) (v:=slv r94) h trivial rfl rfl rfl rfl ?_
 intro H98 h
 refine GL.nil_to I3 (GC.region (Zi (.int .i64 (w .i64 (x5+1))) (Zm ?_)))
 exact Yj I3 (w .i64 (x5+1)) h
 refine GC.exit_to I3 (GC.seq (Zo (Zf ?_)))
 refine Yl h fun x99 h=>?_
 refine Zq (Zm (GL.nil (GC.block (Yp h (fun x101=>[(78,.int .i64 x101),(0,pv p_p),(1,pv p_out),(5,pv (some (b1,0))),(76,slv x99),(77,.int .i64 (Sl.len x99:Int))]) ?_))))
 intro x101 H103 J102 h
 refine Zo (Zi (.bool (decide ((x101:Int) < (Sl.len x99:Int)))) (GL.nil (GC.seq (Yd h (fun u104 h=>?_) fun u104 h=>?_))))
 refine GC.skip (GC.seq (GC.block (Zo (Yx h fun p105 h=>?_))))
 obtain ⟨x110,v111,h⟩:=h
 refine Zv (OV.loadT rfl rfl rfl v111) (GL.alloc (cs:=Qg.c Qg.zero) h trivial rfl rfl rfl ?_)
 intro b112 H113 h
 refine GL.storeT (p:=(b112,0)) (vs:=Qg.c x110) h trivial rfl rfl rfl rfl ?_
 intro H114 h
 refine GL.nil (GC.seq ?_)
 obtain ⟨Hs115,hle116,h⟩:=h
 refine GC.tail (Hs:=Hs115) 14 (by kernel_rfl) hle116 (by kernel_rfl) (GT.takeP 0 rfl trivial (OV.fieldAddr (p:=(b1,0)) rfl rfl) ?_)
 obtain ⟨x117,v118,h⟩:=h
 refine GT.takeP 1 rfl trivial (OV.load (p:=((b1,0).1,(b1,0).2+0)) rfl rfl v118) ?_
 obtain ⟨hl119,h⟩:=h
 refine GT.takeP 2 rfl trivial (OV.cat (a:=x117) (b:=([46]:Str)) rfl rfl hl119) (GT.takeP 3 rfl trivial (OV.fieldAddr (p:=(b112,0)) rfl rfl) ?_)
 obtain ⟨x120,v121,h⟩:=h
 refine GT.takeP 4 rfl trivial (OV.load (p:=((b112,0).1,(b112,0).2+4)) rfl rfl v121) ?_
 obtain ⟨hl122,h⟩:=h
 refine GT.takeP 5 rfl trivial (OV.cat (a:=(x117++([46]:Str))) (b:=x120) rfl rfl hl122) (GT.takeP 6 rfl trivial (OV.move (v:=pv p_p) rfl) ?_)
 obtain ⟨x123,v124,h⟩:=h
 refine GT.takeP 7 rfl trivial (OV.loadT (p:=(b1,0)) (cs:=Qa.c x123) rfl rfl rfl v124) (GT.takeP 8 rfl trivial (OV.fieldAddr (p:=(b112,0)) rfl rfl) ?_)
 obtain ⟨x125,v126,h⟩:=h
 refine GT.takeP 9 rfl trivial (OV.load (p:=((b112,0).1,(b112,0).2+5)) rfl rfl v126) (GT.takeP 10 rfl trivial (OV.fieldAddr (p:=(b112,0)) rfl rfl) ?_)
 obtain ⟨x127,v128,h⟩:=h
 refine GT.takeP 11 rfl trivial (OV.loadT (p:=((b112,0).1,(b112,0).2+0)) (cs:=Qj.c x127) rfl rfl rfl v128) (GT.takeP 13 rfl trivial (OV.fieldAddr (p:=(b112,0)) rfl rfl) (GT.eff 12 rfl (by kernel_rfl) rfl (GL.callP h (fun _ _ _ _ h=>h) trivial rfl Qc6 (vs:=[pv p_p,.agg (Qa.c x123).toArray,slv x125,.agg (Qj.c x127).toArray]) rfl ?_)))
 rintro _ H131 ⟨r130,rfl,h⟩
 obtain ⟨hle129,h⟩:=h
 refine GT.back hle129 (GT.done (by kernel_rfl) ?_)
 show GL _ _ _ _ _ [_,_,_] _ _
 refine GL.store (p:=((b112,0).1,(b112,0).2+4)) (v:=sv ((x117++([46]:Str))++x120)) h trivial rfl rfl rfl rfl ?_
 intro H132 h
 refine Zf (GL.store (p:=((b112,0).1,(b112,0).2+5)) (v:=slv r130) h trivial rfl rfl rfl rfl ?_)
 intro H133 h
 refine GL.nil ?_
 obtain ⟨Hs134,hle135,h⟩:=h
 refine GC.tail (Hs:=Hs134) 10 (by kernel_rfl) hle135 (by kernel_rfl) (GT.takeP 0 rfl trivial (OV.move (v:=pv p_out) rfl) (GT.takeP 1 rfl trivial (OV.move (v:=pv p_out) rfl) ?_))
 obtain ⟨p136,hp137,h⟩:=h
 refine GT.takeP 2 rfl trivial (OV.nilCheck (q:=p_out) rfl hp137) (GT.takeP 3 rfl trivial (OV.fieldAddr (p:=p136) rfl rfl) ?_)
 obtain ⟨x138,v139,h⟩:=h
 refine GT.takeP 4 rfl trivial (OV.load (p:=(p136.1,p136.2+3)) rfl rfl v139) ?_
 obtain ⟨x140,v141,h⟩:=h
 refine GT.takeP 5 rfl trivial (OV.loadT (p:=(b112,0)) (cs:=Qg.c x140) rfl rfl rfl v141) (GT.eff 6 rfl (by kernel_rfl) rfl (GL.buildSlice (cs:=(Qg.c x140)++[]) h trivial rfl (vs:=[(0,.agg (Qg.c x140).toArray)]) rfl ⟨29,fun _=>by kernel_rfl⟩ ?_))
 intro b143 H144 h
 obtain ⟨hle142,h⟩:=h
 refine GT.back hle142 (GT.eff 7 rfl (by kernel_rfl) rfl (GL.appendS (s:=x138) (s2:=(Sl.of (some (b143,0)) 1 1)) (zc:=Qg.c Qg.zero) (bytes:=64) h trivial rfl rfl rfl ⟨⟨_,_,_,rfl,rfl,rfl,rfl,rfl,rfl⟩⟩ rfl ?_))
 intro r146 H147 h
 obtain ⟨hle145,h⟩:=h
 refine GT.back hle145 ?_
 obtain ⟨p148,hp149,h⟩:=h
 refine GT.takeP 8 rfl trivial (OV.nilCheck (q:=p_out) rfl hp149) (GT.takeP 9 rfl trivial (OV.fieldAddr (p:=p148) rfl rfl) (GT.done (by kernel_rfl) ?_))
 show GL _ _ _ _ _ [_] _ _
 refine GL.store (p:=(p148.1,p148.2+3)) (v:=slv r146) h trivial rfl rfl rfl rfl ?_
 intro H150 h
 refine GL.nil_to I3 (GC.region (Zi (.int .i64 (w .i64 (x101+1))) (Zm ?_)))
 exact Yj I3 (w .i64 (x101+1)) h
 refine GC.exit_to I3 (GC.seq (Zo (Zf ?_)))
 refine Yl h fun x151 h=>?_
 refine Zq (Zm (GL.nil (GC.block (Yp h (fun x153=>[(111,.int .i64 x153),(0,pv p_p),(1,pv p_out),(5,pv (some (b1,0))),(109,slv x151),(110,.int .i64 (Sl.len x151:Int))]) ?_))))
 intro x153 H155 J154 h
 refine Zo (Zi (.bool (decide ((x153:Int) < (Sl.len x151:Int)))) (GL.nil (GC.seq (Yd h (fun u156 h=>?_) fun u156 h=>?_))))
 refine GC.skip (GC.seq (GC.block (Zo (Yx h fun p157 h=>?_))))
 obtain ⟨x162,v163,h⟩:=h
 refine Zv (OV.loadT rfl rfl rfl v163) (GL.alloc (cs:=Qi.c Qi.zero) h trivial rfl rfl rfl ?_)
 intro b164 H165 h
 refine GL.storeT (p:=(b164,0)) (vs:=Qi.c x162) h trivial rfl rfl rfl rfl ?_
 intro H166 h
 refine GL.nil ?_
 obtain ⟨J167,h,hR170⟩:=h
 refine GC.join (α:=Unit) J167 (fun _=>[(0,pv p_p),(1,pv p_out),(5,pv (some (b1,0))),(14,pv (some (b164,0))),(109,slv x151),(110,.int .i64 (Sl.len x151:Int)),(111,.int .i64 x153)]) ?_ ?_
 refine Zo (Zm ?_)
 obtain ⟨x171,v172,h⟩:=h
 refine Zv (OV.loadT rfl rfl rfl v172) (Zf (Yl h fun x173 h=>?_))
 refine Zf ?_
 obtain ⟨x175,v176,h⟩:=h
 refine Zv (OV.loadT rfl rfl rfl v176) (GL.callP h (fun _ _ _ _ h=>h) trivial rfl Qa6 (vs:=[pv p_p,.agg (Qa.c x171).toArray,sv x173,.int .i64 2,.agg (Qj.c x175).toArray]) rfl ?_)
 rintro _ H178 ⟨r177,rfl,h⟩
 refine Zf (GL.store (p:=((b164,0).1,(b164,0).2+2)) (v:=sv r177) h trivial rfl rfl rfl rfl ?_)
 intro H179 h
 refine GL.nil (Zo (Zf (Yl h fun x180 h=>?_)))
 refine Zf (Yl h fun x182 h=>?_)
 obtain ⟨hl184,h⟩:=h
 refine Zv (OV.cat (a:=x182) (b:=([46]:Str)) rfl rfl hl184) (Zc h Qd2 ?_)
 rintro _ H186 ⟨r185,rfl,h⟩
 refine Zv (OV.not rfl) (GL.nil (Yd h (fun u187 h=>?_) fun u187 h=>?_))
 refine GC.region ?_
 obtain ⟨x188,v189,h⟩:=h
 refine Zv (OV.loadT rfl rfl rfl v189) (Zf ?_)
 obtain ⟨x190,v191,h⟩:=h
 refine Zv (OV.loadT rfl rfl rfl v191) (GL.callP h (fun _ _ _ _ h=>h) trivial rfl QV (vs:=[.agg (Qa.c x188).toArray,.agg (Qj.c x190).toArray,.int .i64 63]) rfl ?_)
 rintro _ H192 ⟨rfl,h⟩
 exact Yj I3 () h
 exact Yk I3 () h
 intro x168 H169 h
 replace h:=hR170 x168 H169 h
 refine GC.seq ?_
 obtain ⟨Hs193,hle194,h⟩:=h
 refine GC.tail (Hs:=Hs193) 9 (by kernel_rfl) hle194 (by kernel_rfl) (GT.takeP 0 rfl trivial (OV.move (v:=pv p_p) rfl) ?_)
 obtain ⟨x195,v196,h⟩:=h
 refine GT.takeP 1 rfl trivial (OV.loadT (p:=(b1,0)) (cs:=Qa.c x195) rfl rfl rfl v196) (GT.takeP 2 rfl trivial (OV.fieldAddr (p:=(b164,0)) rfl rfl) ?_)
 obtain ⟨x197,v198,h⟩:=h
 refine GT.takeP 3 rfl trivial (OV.load (p:=((b164,0).1,(b164,0).2+3)) rfl rfl v198) (GT.takeP 5 rfl trivial (OV.fieldAddr (p:=(b164,0)) rfl rfl) ?_)
 obtain ⟨x199,v200,h⟩:=h
 refine GT.takeP 6 rfl trivial (OV.load (p:=((b164,0).1,(b164,0).2+4)) rfl rfl v200) (GT.eff 4 rfl (by kernel_rfl) rfl (GL.callP h (fun _ _ _ _ h=>h) trivial rfl QbM (vs:=[pv p_p,.agg (Qa.c x195).toArray,slv x197]) rfl ?_))
 rintro _ H203 ⟨r202,rfl,h⟩
 obtain ⟨hle201,h⟩:=h
 refine GT.back hle201 (GT.takeP 8 rfl trivial (OV.fieldAddr (p:=(b164,0)) rfl rfl) (GT.eff 7 rfl (by kernel_rfl) rfl (Zc h QbR ?_)))
 rintro _ H206 ⟨r205,rfl,h⟩
 obtain ⟨hle204,h⟩:=h
 refine GT.back hle204 (GT.done (by kernel_rfl) ?_)
 show GL _ _ _ _ _ [_,_,_] _ _
 refine GL.store (p:=((b164,0).1,(b164,0).2+3)) (v:=slv r202) h trivial rfl rfl rfl rfl ?_
 intro H207 h
 refine Zf (GL.store (p:=((b164,0).1,(b164,0).2+4)) (v:=slv r205) h trivial rfl rfl rfl rfl ?_)
 intro H208 h
 refine GL.nil (Zo (Zm ?_))
 obtain ⟨x209,v210,h⟩:=h
 refine Zv (OV.loadT rfl rfl rfl v210) (Zf (Yl h fun x211 h=>?_))
 refine GL.callP h (fun _ _ _ _ h=>h) trivial rfl QdC (vs:=[pv p_p,.agg (Qa.c x209).toArray,slv x211]) rfl ?_
 rintro _ H214 ⟨r213,rfl,h⟩
 refine Zf (GL.store (p:=((b164,0).1,(b164,0).2+5)) (v:=slv r213) h trivial rfl rfl rfl rfl ?_)
 intro H215 h
 refine GL.nil ?_
 obtain ⟨Hs216,hle217,h⟩:=h
 refine GC.tail (Hs:=Hs216) 10 (by kernel_rfl) hle217 (by kernel_rfl) (GT.takeP 0 rfl trivial (OV.move (v:=pv p_out) rfl) (GT.takeP 1 rfl trivial (OV.move (v:=pv p_out) rfl) ?_))
 obtain ⟨p218,hp219,h⟩:=h
 refine GT.takeP 2 rfl trivial (OV.nilCheck (q:=p_out) rfl hp219) (GT.takeP 3 rfl trivial (OV.fieldAddr (p:=p218) rfl rfl) ?_)
 obtain ⟨x220,v221,h⟩:=h
 refine GT.takeP 4 rfl trivial (OV.load (p:=(p218.1,p218.2+4)) rfl rfl v221) ?_
 obtain ⟨x222,v223,h⟩:=h
 refine GT.takeP 5 rfl trivial (OV.loadT (p:=(b164,0)) (cs:=Qi.c x222) rfl rfl rfl v223) (GT.eff 6 rfl (by kernel_rfl) rfl (GL.buildSlice (cs:=(Qi.c x222)++[]) h trivial rfl (vs:=[(0,.agg (Qi.c x222).toArray)]) rfl ⟨45,fun _=>by kernel_rfl⟩ ?_))
 intro b225 H226 h
 obtain ⟨hle224,h⟩:=h
 refine GT.back hle224 (GT.eff 7 rfl (by kernel_rfl) rfl (GL.appendS (s:=x220) (s2:=(Sl.of (some (b225,0)) 1 1)) (zc:=Qi.c Qi.zero) (bytes:=104) h trivial rfl rfl rfl ⟨⟨_,_,_,rfl,rfl,rfl,rfl,rfl,rfl⟩⟩ rfl ?_))
 intro r228 H229 h
 obtain ⟨hle227,h⟩:=h
 refine GT.back hle227 ?_
 obtain ⟨p230,hp231,h⟩:=h
 refine GT.takeP 8 rfl trivial (OV.nilCheck (q:=p_out) rfl hp231) (GT.takeP 9 rfl trivial (OV.fieldAddr (p:=p230) rfl rfl) (GT.done (by kernel_rfl) ?_))
 show GL _ _ _ _ _ [_] _ _
 refine GL.store (p:=(p230.1,p230.2+4)) (v:=slv r228) h trivial rfl rfl rfl rfl ?_
 intro H232 h
 refine GL.nil_to I3 (GC.region (Zi (.int .i64 (w .i64 (x153+1))) (Zm ?_)))
 exact Yj I3 (w .i64 (x153+1)) h
 refine GC.exit_to I3 (Zo (Zf ?_))
 refine Yl h fun x233 h=>?_
 refine Zq (Zm (GL.nil (GC.block (Yp h (fun x235=>[(164,.int .i64 x235),(0,pv p_p),(1,pv p_out),(5,pv (some (b1,0))),(162,slv x233),(163,.int .i64 (Sl.len x233:Int))]) ?_))))
 intro x235 H237 J236 h
 refine Zo (Zi (.bool (decide ((x235:Int) < (Sl.len x233:Int)))) (GL.nil (GC.seq (Yd h (fun u238 h=>?_) fun u238 h=>?_))))
 refine GC.skip (GC.seq (GC.block (Zo (Yx h fun p239 h=>?_))))
 obtain ⟨x244,v245,h⟩:=h
 refine Zv (OV.loadT rfl rfl rfl v245) (GL.alloc (cs:=Ql.c Ql.zero) h trivial rfl rfl rfl ?_)
 intro b246 H247 h
 refine GL.storeT (p:=(b246,0)) (vs:=Ql.c x244) h trivial rfl rfl rfl rfl ?_
 intro H248 h
 refine GL.nil (GC.seq ?_)
 obtain ⟨Hs249,hle250,h⟩:=h
 refine GC.tail (Hs:=Hs249) 12 (by kernel_rfl) hle250 (by kernel_rfl) (GT.takeP 0 rfl trivial (OV.fieldAddr (p:=(b1,0)) rfl rfl) ?_)
 obtain ⟨x251,v252,h⟩:=h
 refine GT.takeP 1 rfl trivial (OV.load (p:=((b1,0).1,(b1,0).2+0)) rfl rfl v252) ?_
 obtain ⟨hl253,h⟩:=h
 refine GT.takeP 2 rfl trivial (OV.cat (a:=x251) (b:=([46]:Str)) rfl rfl hl253) (GT.takeP 3 rfl trivial (OV.fieldAddr (p:=(b246,0)) rfl rfl) ?_)
 obtain ⟨x254,v255,h⟩:=h
 refine GT.takeP 4 rfl trivial (OV.load (p:=((b246,0).1,(b246,0).2+2)) rfl rfl v255) ?_
 obtain ⟨hl256,h⟩:=h
 refine GT.takeP 5 rfl trivial (OV.cat (a:=(x251++([46]:Str))) (b:=x254) rfl rfl hl256) (GT.takeP 6 rfl trivial (OV.move (v:=pv p_p) rfl) ?_)
 obtain ⟨x257,v258,h⟩:=h
 refine GT.takeP 7 rfl trivial (OV.loadT (p:=(b1,0)) (cs:=Qa.c x257) rfl rfl rfl v258) (GT.takeP 8 rfl trivial (OV.fieldAddr (p:=(b246,0)) rfl rfl) ?_)
 obtain ⟨x259,v260,h⟩:=h
 refine GT.takeP 9 rfl trivial (OV.load (p:=((b246,0).1,(b246,0).2+3)) rfl rfl v260) (GT.takeP 11 rfl trivial (OV.fieldAddr (p:=(b246,0)) rfl rfl) (GT.eff 10 rfl (by kernel_rfl) rfl (GL.callP h (fun _ _ _ _ h=>h) trivial rfl QdC (vs:=[pv p_p,.agg (Qa.c x257).toArray,slv x259]) rfl ?_)))
 rintro _ H263 ⟨r262,rfl,h⟩
 obtain ⟨hle261,h⟩:=h
 refine GT.back hle261 (GT.done (by kernel_rfl) ?_)
 show GL _ _ _ _ _ [_,_,_] _ _
 refine GL.store (p:=((b246,0).1,(b246,0).2+2)) (v:=sv ((x251++([46]:Str))++x254)) h trivial rfl rfl rfl rfl ?_
 intro H264 h
 refine Zf (GL.store (p:=((b246,0).1,(b246,0).2+3)) (v:=slv r262) h trivial rfl rfl rfl rfl ?_)
 intro H265 h
 refine GL.nil ?_
 obtain ⟨Hs266,hle267,h⟩:=h
 refine GC.tail (Hs:=Hs266) 10 (by kernel_rfl) hle267 (by kernel_rfl) (GT.takeP 0 rfl trivial (OV.move (v:=pv p_out) rfl) (GT.takeP 1 rfl trivial (OV.move (v:=pv p_out) rfl) ?_))
 obtain ⟨p268,hp269,h⟩:=h
 refine GT.takeP 2 rfl trivial (OV.nilCheck (q:=p_out) rfl hp269) (GT.takeP 3 rfl trivial (OV.fieldAddr (p:=p268) rfl rfl) ?_)
 obtain ⟨x270,v271,h⟩:=h
 refine GT.takeP 4 rfl trivial (OV.load (p:=(p268.1,p268.2+5)) rfl rfl v271) ?_
 obtain ⟨x272,v273,h⟩:=h
 refine GT.takeP 5 rfl trivial (OV.loadT (p:=(b246,0)) (cs:=Ql.c x272) rfl rfl rfl v273) (GT.eff 6 rfl (by kernel_rfl) rfl (GL.buildSlice (cs:=(Ql.c x272)++[]) h trivial rfl (vs:=[(0,.agg (Ql.c x272).toArray)]) rfl ⟨68,fun _=>by kernel_rfl⟩ ?_))
 intro b275 H276 h
 obtain ⟨hle274,h⟩:=h
 refine GT.back hle274 (GT.eff 7 rfl (by kernel_rfl) rfl (GL.appendS (s:=x270) (s2:=(Sl.of (some (b275,0)) 1 1)) (zc:=Ql.c Ql.zero) (bytes:=56) h trivial rfl rfl rfl ⟨⟨_,_,_,rfl,rfl,rfl,rfl,rfl,rfl⟩⟩ rfl ?_))
 intro r278 H279 h
 obtain ⟨hle277,h⟩:=h
 refine GT.back hle277 ?_
 obtain ⟨p280,hp281,h⟩:=h
 refine GT.takeP 8 rfl trivial (OV.nilCheck (q:=p_out) rfl hp281) (GT.takeP 9 rfl trivial (OV.fieldAddr (p:=p280) rfl rfl) (GT.done (by kernel_rfl) ?_))
 show GL _ _ _ _ _ [_] _ _
 refine GL.store (p:=(p280.1,p280.2+5)) (v:=slv r278) h trivial rfl rfl rfl rfl ?_
 intro H282 h
 refine GL.nil_to I3 (GC.region (Zi (.int .i64 (w .i64 (x235+1))) (Zm ?_)))
 exact Yj I3 (w .i64 (x235+1)) h
 exact GC.exit_ends (fun _ _ hf hs=>postP (E:=E) hf (QfN rfl hf hs ⟨rfl,h⟩))
end
section
set_option maxRecDepth 100000
open Go Go.Proofs
def QiZ (C:Ctx) (p_m:Qa) (K:Int→Heap→Prop) (H:Heap):Prop:=
 nw (Qa.c p_m) (fun b1 H2=>
 dr H2 fun Hs3=>
 ldL Hs3 ((b1,0).1,(b1,0).2+2) fun x5=>
 ldL Hs3 ((b1,0).1,(b1,0).2+3) fun x7=>
 ldL Hs3 ((b1,0).1,(b1,0).2+4) fun x9=>
 ldL Hs3 ((b1,0).1,(b1,0).2+5) fun x11=>
 QF C x5 (.func (.func 105) (List.toArray []) (List.toArray []):Value) (fun r14 H15=>
 Heap.le Hs3 H15∧
 QI C x7 (.func (.func 111) (List.toArray []) (List.toArray []):Value) (fun r17 H18=>
 Heap.le Hs3 H18∧
 QR C x9 (.func (.func 113) (List.toArray []) (List.toArray []):Value) (fun r20 H21=>
 Heap.le Hs3 H21∧
 QL C x11 (.func (.func 119) (List.toArray []) (List.toArray []):Value) (fun r23 H24=>
 Heap.le Hs3 H24∧
 K (max4 r14 r17 r20 r23) H24) H21) H18) H15) H2) H
theorem QlS (C p_m K H) (h:QiZ C p_m K H):Qc1 C p_m K H:=by
 refine Ye Tryz.func39 rfl Tryz.ntmps39 [(0,.agg (Qa.c p_m).toArray)] (Zo (GL.box (v:=.agg (Qa.c p_m).toArray) (cs:=Qa.c p_m) h trivial rfl rfl rfl ?_))
 intro b1 H2 h
 refine Za (GL.nil (GC.seq ?_))
 obtain ⟨Hs3,hle4,h⟩:=h
 refine GC.any (Hs:=Hs3) (by kernel_rfl) hle4 (Zp 0 rfl Yf ?_)
 obtain ⟨x5,v6,h⟩:=h
 refine Zp 1 rfl (Yo v6) (Zp 3 rfl Yf ?_)
 obtain ⟨x7,v8,h⟩:=h
 refine Zp 4 rfl (Yo v8) (Zp 6 rfl Yf ?_)
 obtain ⟨x9,v10,h⟩:=h
 refine Zp 7 rfl (Yo v10) (Zp 9 rfl Yf ?_)
 obtain ⟨x11,v12,h⟩:=h
 refine Zp 10 rfl (Yo v12) (GA.eff 2 rfl (by kernel_rfl) (Zc h Qeu ?_))
 rintro _ H15 ⟨r14,rfl,h⟩
 obtain ⟨hle13,h⟩:=h
 refine GA.back hle13 (GA.eff 5 rfl (by kernel_rfl) (Zc h QeG ?_))
 rintro _ H18 ⟨r17,rfl,h⟩
 obtain ⟨hle16,h⟩:=h
 refine GA.back hle16 (GA.eff 8 rfl (by kernel_rfl) (Zc h QfK ?_))
 rintro _ H21 ⟨r20,rfl,h⟩
 obtain ⟨hle19,h⟩:=h
 refine GA.back hle19 (GA.eff 11 rfl (by kernel_rfl) (Zc h Qfb ?_))
 rintro _ H24 ⟨r23,rfl,h⟩
 obtain ⟨hle22,h⟩:=h
 refine GA.back hle22 (Zp 12 rfl (OV.max4 rfl rfl rfl rfl) (Zp 13 rfl Ya (GA.done (by kernel_rfl) (GL.nil ?_))))
 exact Y1 I3 ⟨(max4 r14 r17 r20 r23),rfl,h⟩
def Qi3 (C:Ctx) (p_s:Str) (K:Bool→Heap→Prop) (H:Heap):Prop:=
 jn (α:=Bool) (fun b1 H8=>
 jn (α:=Bool) (fun b9 H16=>
 jn (α:=Bool) (fun b17 H23=>
 jn (α:=Bool) (fun b24 H32=>
 K b24 H32)
 (fun J25=>ift b17
 (catOk ([32]:Str) p_s∧
 catOk (([32]:Str)++p_s) ([32]:Str)∧
 QeK C [32,109,111,100,117,108,101,32,105,109,112,111,114,116,32,112,117,98,32,116,121,112,101,32,105,110,112,117,116,32,114,101,108,32,110,101,118,101,114,32,110,111,116,32,97,110,100,32,111,114,32,105,102,32,116,104,101,110,32,101,108,115,101,32,116,114,117,101,32,102,97,108,115,101,32,99,111,117,110,116,32,115,117,109,32,109,105,110,32,109,97,120,32,110,101,103,32,108,101,110,32,98,105,103,32,105,110,116,32,98,111,111,108,32,116,101,120,116,32,116,117,112,108,101,32] ((([32]:Str)++p_s)++([32]:Str)) (fun r30 H31=>
 J25 (!r30) H31) H23)
 (J25 false H23)))
 (fun J18=>ift b9
 (Qf9 C p_s (fun r21 H22=>
 J18 r21 H22) H16)
 (J18 false H16)))
 (fun J10=>ift b1
 (ixs p_s 0 fun c13=>
 J10 (decide (((c13.toNat:Int):Int)≤122)) H8)
 (J10 false H8)))
 (fun J2=>ift (!(p_s == ([]:Str)))
 (ixs p_s 0 fun c5=>
 J2 (decide (((c5.toNat:Int):Int) ≥ 97)) H)
 (J2 false H))
theorem QlW (C p_s K H) (h:Qi3 C p_s K H):QaE C p_s K H:=by
 refine Ye Tryz.func40 rfl Tryz.ntmps40 [(0,sv p_s)] (Zo (Za (GL.nil (Zo (Zm (Zv (OV.sbin (a:=p_s) (b:=([]:Str)) (v:=.bool (!(p_s == ([]:Str)))) rfl rfl rfl) (Zm ?_)))))))
 obtain ⟨J2,h,hR3⟩:=h
 refine GL.cut (α:=Bool) 4 J2 (fun b1=>[(9,.bool b1),(0,sv p_s)]) ?_ ?_
 rcases h.em with ⟨u4,h⟩ | ⟨u4,h⟩
 refine Zu u4 Ym ?_
 obtain ⟨c5,ha6,hb7,h⟩:=h
 refine Zu u4 (OV.indexStr rfl rfl rfl ha6 hb7) (Zu u4 (OV.ibin (v:=.bool (decide (((c5.toNat:Int):Int) ≥ 97))) rfl rfl rfl) (Zt u4 ?_))
 exact Yj I3 (decide (((c5.toNat:Int):Int) ≥ 97)) h
 refine Zk u4 (Zk u4 (Zk u4 (Zn u4 ?_)))
 exact Yj I3 false h
 intro b1 H8 h
 replace h:=hR3 b1 H8 h
 refine Zm ?_
 obtain ⟨J10,h,hR11⟩:=h
 refine GL.cut (α:=Bool) 4 J10 (fun b9=>[(14,.bool b9),(0,sv p_s)]) ?_ ?_
 rcases h.em with ⟨u12,h⟩ | ⟨u12,h⟩
 refine Zu u12 Ym ?_
 obtain ⟨c13,ha14,hb15,h⟩:=h
 refine Zu u12 (OV.indexStr rfl rfl rfl ha14 hb15) (Zu u12 (OV.ibin (v:=.bool (decide (((c13.toNat:Int):Int)≤122))) rfl rfl rfl) (Zt u12 ?_))
 exact Yj I3 (decide (((c13.toNat:Int):Int)≤122)) h
 refine Zk u12 (Zk u12 (Zk u12 (Zn u12 ?_)))
 exact Yj I3 false h
 intro b9 H16 h
 replace h:=hR11 b9 H16 h
 refine Zm ?_
 obtain ⟨J18,h,hR19⟩:=h
 refine GL.cut (α:=Bool) 3 J18 (fun b17=>[(18,.bool b17),(0,sv p_s)]) ?_ ?_
 rcases h.em with ⟨u20,h⟩ | ⟨u20,h⟩
 refine Zu u20 Ym (GL.call h (Yt u20) rfl QiX (vs:=[sv p_s]) rfl ?_)
 rintro _ H22 ⟨r21,rfl,h⟩
 refine Zt u20 ?_
 exact Yj I3 r21 h
 refine Zk u20 (Zk u20 (Zn u20 ?_))
 exact Yj I3 false h
 intro b17 H23 h
 replace h:=hR19 b17 H23 h
 refine Zm ?_
 obtain ⟨J25,h,hR26⟩:=h
 refine GL.cut (α:=Bool) 6 J25 (fun b24=>[(25,.bool b24)]) ?_ ?_
 rcases h.em with ⟨u27,h⟩ | ⟨u27,h⟩
 refine Zu u27 Ym ?_
 obtain ⟨hl28,h⟩:=h
 refine Zu u27 (OV.cat (a:=([32]:Str)) (b:=p_s) rfl rfl hl28) ?_
 obtain ⟨hl29,h⟩:=h
 refine Zu u27 (OV.cat (a:=(([32]:Str)++p_s)) (b:=([32]:Str)) rfl rfl hl29) (GL.call h (Yt u27) rfl Qh2 (vs:=[sv [32,109,111,100,117,108,101,32,105,109,112,111,114,116,32,112,117,98,32,116,121,112,101,32,105,110,112,117,116,32,114,101,108,32,110,101,118,101,114,32,110,111,116,32,97,110,100,32,111,114,32,105,102,32,116,104,101,110,32,101,108,115,101,32,116,114,117,101,32,102,97,108,115,101,32,99,111,117,110,116,32,115,117,109,32,109,105,110,32,109,97,120,32,110,101,103,32,108,101,110,32,98,105,103,32,105,110,116,32,98,111,111,108,32,116,101,120,116,32,116,117,112,108,101,32],sv ((([32]:Str)++p_s)++([32]:Str))]) rfl ?_)
 rintro _ H31 ⟨r30,rfl,h⟩
 refine Zu u27 (OV.not rfl) (Zt u27 ?_)
 exact Yj I3 (!r30) h
 refine Zk u27 (Zk u27 (Zk u27 (Zk u27 (Zk u27 (Zn u27 ?_)))))
 exact Yj I3 false h
 intro b24 H32 h
 replace h:=hR26 b24 H32 h
 refine Za (GL.nil ?_)
 exact Y1 I3 ⟨b24,rfl,h⟩
def QdI (C:Ctx) (p_l:Sl) (p_is:Value) (K:Bool→Heap→Prop) (H:Heap):Prop:=
 (Value.cells p_is = #[p_is])∧nw ([p_is]) (fun b1 H2=>
 Qp C p_l (.func (.func 122) (List.toArray []) (List.toArray [pv (some (b1,0))]):Value) (fun r4 H5=>
 K (!r4) H5) H2) H
theorem Qgy (C p_l p_is K H) (h:QdI C p_l p_is K H):Q4 C p_l p_is K H:=by
 refine Ye Tryz.func41 rfl Tryz.ntmps41 [(0,slv p_l),(1,p_is)] (Zo ?_)
 obtain ⟨u3,h⟩:=h
 refine GL.box (v:=p_is) (cs:=[p_is]) h trivial rfl rfl u3 ?_
 intro b1 H2 h
 refine Za (GL.nil (Zo (Zm (Zv (OV.makeFunc (vs:=[]) (us:=[pv (some (b1,0))]) rfl rfl) (Zc h Qy ?_)))))
 rintro _ H5 ⟨r4,rfl,h⟩
 refine Zv (OV.not rfl) (Za (GL.nil ?_))
 exact Y1 I3 ⟨(!r4),rfl,h⟩
def Qhd (C:Ctx) (p_x:Qn) (K:Bool→Heap→Prop) (H:Heap):Prop:=
 nw (Qn.c p_x) (fun b1 H2=>
 ldS H2 ((b1,0).1,(b1,0).2+2) fun x3=>
 QaE C x3 (fun r5 H6=>
 K r5 H6) H2) H
theorem Qjq (C p_x K H) (h:Qhd C p_x K H):QbW C p_x K H:=by
 refine Ye Tryz.func42 rfl Tryz.ntmps42 [(0,.agg (Qn.c p_x).toArray)] (Zo (GL.box (v:=.agg (Qn.c p_x).toArray) (cs:=Qn.c p_x) h trivial rfl rfl rfl ?_))
 intro b1 H2 h
 refine Za (GL.nil (Zo (Zf (Yl h fun x3 h=>?_))))
 refine Zc h QaQ ?_
 rintro _ H6 ⟨r5,rfl,h⟩
 refine Za (GL.nil ?_)
 exact Y1 I3 ⟨r5,rfl,h⟩
def QdA (C:Ctx) (p_l:Sl) (p_is:Value) (K:Bool→Heap→Prop) (H:Heap):Prop:=
 (Value.cells p_is = #[p_is])∧nw ([p_is]) (fun b1 H2=>
 Qam C p_l (.func (.func 124) (List.toArray []) (List.toArray [pv (some (b1,0))]):Value) (fun r4 H5=>
 K (!r4) H5) H2) H
theorem Qf2 (C p_l p_is K H) (h:QdA C p_l p_is K H):Q0 C p_l p_is K H:=by
 refine Ye Tryz.func43 rfl Tryz.ntmps43 [(0,slv p_l),(1,p_is)] (Zo ?_)
 obtain ⟨u3,h⟩:=h
 refine GL.box (v:=p_is) (cs:=[p_is]) h trivial rfl rfl u3 ?_
 intro b1 H2 h
 refine Za (GL.nil (Zo (Zm (Zv (OV.makeFunc (vs:=[]) (us:=[pv (some (b1,0))]) rfl rfl) (Zc h Qbs ?_)))))
 rintro _ H5 ⟨r4,rfl,h⟩
 refine Zv (OV.not rfl) (Za (GL.nil ?_))
 exact Y1 I3 ⟨(!r4),rfl,h⟩
def Qhk (C:Ctx) (p_t:Qb) (K:Bool→Heap→Prop) (H:Heap):Prop:=
 nw (Qb.c p_t) (fun b1 H2=>
 ldS H2 ((b1,0).1,(b1,0).2+3) fun x3=>
 QaE C x3 (fun r5 H6=>
 jn (α:=Bool) (fun b7 H13=>
 jn (α:=Bool) (fun b14 H22=>
 jn (α:=Bool) (fun b23 H29=>
 jn (α:=Bool) (fun b30 H36=>
 jn (α:=Bool) (fun b37 H45=>
 K b37 H45)
 (fun J38=>ift b30
 (ldL H36 ((b1,0).1,(b1,0).2+5) fun x41=>
 QZ C x41 (.func (.func 128) (List.toArray []) (List.toArray []):Value) (fun r43 H44=>
 J38 r43 H44) H36)
 (J38 false H36)))
 (fun J31=>ift b23
 (ldL H29 ((b1,0).1,(b1,0).2+5) fun x34=>
 J31 (decide (((Sl.len x34:Int):Int)≤16)) H29)
 (J31 false H29)))
 (fun J24=>ift b14
 (ldL H22 ((b1,0).1,(b1,0).2+5) fun x27=>
 J24 (decide (((Sl.len x27:Int):Int) ≥ 1)) H22)
 (J24 false H22)))
 (fun J15=>ift b7
 (ldL H13 ((b1,0).1,(b1,0).2+4) fun x18=>
 Qan C x18 (.func (.func 126) (List.toArray []) (List.toArray []):Value) (fun r20 H21=>
 J15 r20 H21) H13)
 (J15 false H13)))
 (fun J8=>ift r5
 (ldL H6 ((b1,0).1,(b1,0).2+4) fun x11=>
 J8 (decide (((Sl.len x11:Int):Int)≤8)) H6)
 (J8 false H6))) H2) H
theorem Qjx (C p_t K H) (h:Qhk C p_t K H):Qb3 C p_t K H:=by
 refine Ye Tryz.func44 rfl Tryz.ntmps44 [(0,.agg (Qb.c p_t).toArray)] (Zo (GL.box (v:=.agg (Qb.c p_t).toArray) (cs:=Qb.c p_t) h trivial rfl rfl rfl ?_))
 intro b1 H2 h
 refine Za (GL.nil (Zo (Zf (Yl h fun x3 h=>?_))))
 refine Zc h QaQ ?_
 rintro _ H6 ⟨r5,rfl,h⟩
 refine Zm ?_
 obtain ⟨J8,h,hR9⟩:=h
 refine GL.cut (α:=Bool) 5 J8 (fun b7=>[(11,.bool b7),(1,pv (some (b1,0)))]) ?_ ?_
 rcases h.em with ⟨u10,h⟩ | ⟨u10,h⟩
 refine Zu u10 Yf ?_
 obtain ⟨x11,v12,h⟩:=h
 refine Zu u10 (Yo v12) (Zu u10 (OV.lenSl rfl rfl) (Zu u10 (OV.ibin (v:=.bool (decide (((Sl.len x11:Int):Int)≤8))) rfl rfl rfl) (Zt u10 ?_)))
 exact Yj I3 (decide (((Sl.len x11:Int):Int)≤8)) h
 refine Zk u10 (Zk u10 (Zk u10 (Zk u10 (Zn u10 ?_))))
 exact Yj I3 false h
 intro b7 H13 h
 replace h:=hR9 b7 H13 h
 refine Zm ?_
 obtain ⟨J15,h,hR16⟩:=h
 refine GL.cut (α:=Bool) 4 J15 (fun b14=>[(16,.bool b14),(1,pv (some (b1,0)))]) ?_ ?_
 rcases h.em with ⟨u17,h⟩ | ⟨u17,h⟩
 refine Zu u17 Yf ?_
 obtain ⟨x18,v19,h⟩:=h
 refine Zu u17 (Yo v19) (GL.call h (Yt u17) rfl QeL (vs:=[slv x18,.func (.func 126) (List.toArray []) (List.toArray [])]) rfl ?_)
 rintro _ H21 ⟨r20,rfl,h⟩
 refine Zt u17 ?_
 exact Yj I3 r20 h
 refine Zk u17 (Zk u17 (Zk u17 (Zn u17 ?_)))
 exact Yj I3 false h
 intro b14 H22 h
 replace h:=hR16 b14 H22 h
 refine Zm ?_
 obtain ⟨J24,h,hR25⟩:=h
 refine GL.cut (α:=Bool) 5 J24 (fun b23=>[(22,.bool b23),(1,pv (some (b1,0)))]) ?_ ?_
 rcases h.em with ⟨u26,h⟩ | ⟨u26,h⟩
 refine Zu u26 Yf ?_
 obtain ⟨x27,v28,h⟩:=h
 refine Zu u26 (Yo v28) (Zu u26 (OV.lenSl rfl rfl) (Zu u26 (OV.ibin (v:=.bool (decide (((Sl.len x27:Int):Int) ≥ 1))) rfl rfl rfl) (Zt u26 ?_)))
 exact Yj I3 (decide (((Sl.len x27:Int):Int) ≥ 1)) h
 refine Zk u26 (Zk u26 (Zk u26 (Zk u26 (Zn u26 ?_))))
 exact Yj I3 false h
 intro b23 H29 h
 replace h:=hR25 b23 H29 h
 refine Zm ?_
 obtain ⟨J31,h,hR32⟩:=h
 refine GL.cut (α:=Bool) 5 J31 (fun b30=>[(28,.bool b30),(1,pv (some (b1,0)))]) ?_ ?_
 rcases h.em with ⟨u33,h⟩ | ⟨u33,h⟩
 refine Zu u33 Yf ?_
 obtain ⟨x34,v35,h⟩:=h
 refine Zu u33 (Yo v35) (Zu u33 (OV.lenSl rfl rfl) (Zu u33 (OV.ibin (v:=.bool (decide (((Sl.len x34:Int):Int)≤16))) rfl rfl rfl) (Zt u33 ?_)))
 exact Yj I3 (decide (((Sl.len x34:Int):Int)≤16)) h
 refine Zk u33 (Zk u33 (Zk u33 (Zk u33 (Zn u33 ?_))))
 exact Yj I3 false h
 intro b30 H36 h
 replace h:=hR32 b30 H36 h
 refine Zm ?_
 obtain ⟨J38,h,hR39⟩:=h
 refine GL.cut (α:=Bool) 4 J38 (fun b37=>[(33,.bool b37)]) ?_ ?_
 rcases h.em with ⟨u40,h⟩ | ⟨u40,h⟩
 refine Zu u40 Yf ?_
 obtain ⟨x41,v42,h⟩:=h
 refine Zu u40 (Yo v42) (GL.call h (Yt u40) rfl Qge (vs:=[slv x41,.func (.func 128) (List.toArray []) (List.toArray [])]) rfl ?_)
 rintro _ H44 ⟨r43,rfl,h⟩
 refine Zt u40 ?_
 exact Yj I3 r43 h
 refine Zk u40 (Zk u40 (Zk u40 (Zn u40 ?_)))
 exact Yj I3 false h
 intro b37 H45 h
 replace h:=hR39 b37 H45 h
 refine Za (GL.nil ?_)
 exact Y1 I3 ⟨b37,rfl,h⟩
def QdJ (C:Ctx) (p_l:Sl) (p_is:Value) (K:Bool→Heap→Prop) (H:Heap):Prop:=
 (Value.cells p_is = #[p_is])∧nw ([p_is]) (fun b1 H2=>
 Qar C p_l (.func (.func 130) (List.toArray []) (List.toArray [pv (some (b1,0))]):Value) (fun r4 H5=>
 K (!r4) H5) H2) H
theorem Qgz (C p_l p_is K H) (h:QdJ C p_l p_is K H):Q5 C p_l p_is K H:=by
 refine Ye Tryz.func45 rfl Tryz.ntmps45 [(0,slv p_l),(1,p_is)] (Zo ?_)
 obtain ⟨u3,h⟩:=h
 refine GL.box (v:=p_is) (cs:=[p_is]) h trivial rfl rfl u3 ?_
 intro b1 H2 h
 refine Za (GL.nil (Zo (Zm (Zv (OV.makeFunc (vs:=[]) (us:=[pv (some (b1,0))]) rfl rfl) (Zc h QbB ?_)))))
 rintro _ H5 ⟨r4,rfl,h⟩
 refine Zv (OV.not rfl) (Za (GL.nil ?_))
 exact Y1 I3 ⟨(!r4),rfl,h⟩
def Qhe (C:Ctx) (p_x:Qg) (K:Bool→Heap→Prop) (H:Heap):Prop:=
 nw (Qg.c p_x) (fun b1 H2=>
 ldS H2 ((b1,0).1,(b1,0).2+4) fun x3=>
 QaE C x3 (fun r5 H6=>
 jn (α:=Bool) (fun b7 H15=>
 K b7 H15)
 (fun J8=>ift r5
 (ldL H6 ((b1,0).1,(b1,0).2+5) fun x11=>
 Qbd C x11 true (fun r13 H14=>
 J8 r13 H14) H6)
 (J8 false H6))) H2) H
theorem Qjr (C p_x K H) (h:Qhe C p_x K H):QbX C p_x K H:=by
 refine Ye Tryz.func46 rfl Tryz.ntmps46 [(0,.agg (Qg.c p_x).toArray)] (Zo (GL.box (v:=.agg (Qg.c p_x).toArray) (cs:=Qg.c p_x) h trivial rfl rfl rfl ?_))
 intro b1 H2 h
 refine Za (GL.nil (Zo (Zf (Yl h fun x3 h=>?_))))
 refine Zc h QaQ ?_
 rintro _ H6 ⟨r5,rfl,h⟩
 refine Zm ?_
 obtain ⟨J8,h,hR9⟩:=h
 refine GL.cut (α:=Bool) 4 J8 (fun b7=>[(10,.bool b7)]) ?_ ?_
 rcases h.em with ⟨u10,h⟩ | ⟨u10,h⟩
 refine Zu u10 Yf ?_
 obtain ⟨x11,v12,h⟩:=h
 refine Zu u10 (Yo v12) (GL.call h (Yt u10) rfl QhG (vs:=[slv x11,.bool true]) rfl ?_)
 rintro _ H14 ⟨r13,rfl,h⟩
 refine Zt u10 ?_
 exact Yj I3 r13 h
 refine Zk u10 (Zk u10 (Zk u10 (Zn u10 ?_)))
 exact Yj I3 false h
 intro b7 H15 h
 replace h:=hR9 b7 H15 h
 refine Za (GL.nil ?_)
 exact Y1 I3 ⟨b7,rfl,h⟩
def QhQ (C:Ctx) (p_l:Sl) (p_named:Bool) (K:Bool→Heap→Prop) (H:Heap):Prop:=
 nw ([.bool p_named]) (fun b1 H2=>
 jn (α:=Bool) (fun b3 H9=>
 K b3 H9)
 (fun J4=>ift (decide (((Sl.len p_l:Int):Int)≤8))
 (QP C p_l (.func (.func 132) (List.toArray []) (List.toArray [pv (some (b1,0))]):Value) (fun r7 H8=>
 J4 r7 H8) H2)
 (J4 false H2))) H
theorem Qku (C p_l p_named K H) (h:QhQ C p_l p_named K H):Qbd C p_l p_named K H:=by
 refine Ye Tryz.func47 rfl Tryz.ntmps47 [(0,slv p_l),(1,.bool p_named)] (Zo (GL.box (v:=.bool p_named) (cs:=[.bool p_named]) h trivial rfl rfl rfl ?_))
 intro b1 H2 h
 refine Za (GL.nil (Zo (Zm (Zq (Zi (.bool (decide (((Sl.len p_l:Int):Int)≤8))) (Zm ?_))))))
 obtain ⟨J4,h,hR5⟩:=h
 refine GL.cut (α:=Bool) 4 J4 (fun b3=>[(12,.bool b3)]) ?_ ?_
 rcases h.em with ⟨u6,h⟩ | ⟨u6,h⟩
 refine Zu u6 Ym (Zu u6 (OV.makeFunc (vs:=[]) (us:=[pv (some (b1,0))]) rfl rfl) (GL.call h (Yt u6) rfl QfH (vs:=[slv p_l,.func (.func 132) (List.toArray []) (List.toArray [pv (some (b1,0))])]) rfl ?_))
 rintro _ H8 ⟨r7,rfl,h⟩
 refine Zt u6 ?_
 exact Yj I3 r7 h
 refine Zk u6 (Zk u6 (Zk u6 (Zn u6 ?_)))
 exact Yj I3 false h
 intro b3 H9 h
 replace h:=hR5 b3 H9 h
 refine Za (GL.nil ?_)
 exact Y1 I3 ⟨b3,rfl,h⟩
def Qd6 (C:Ctx) (p_l:Sl) (p_is:Value) (K:Bool→Heap→Prop) (H:Heap):Prop:=
 (Value.cells p_is = #[p_is])∧nw ([p_is]) (fun b1 H2=>
 QaP C p_l (.func (.func 135) (List.toArray []) (List.toArray [pv (some (b1,0))]):Value) (fun r4 H5=>
 K (!r4) H5) H2) H
theorem Qhw (C p_l p_is K H) (h:Qd6 C p_l p_is K H):Q6 C p_l p_is K H:=by
 refine Ye Tryz.func48 rfl Tryz.ntmps48 [(0,slv p_l),(1,p_is)] (Zo ?_)
 obtain ⟨u3,h⟩:=h
 refine GL.box (v:=p_is) (cs:=[p_is]) h trivial rfl rfl u3 ?_
 intro b1 H2 h
 refine Za (GL.nil (Zo (Zm (Zv (OV.makeFunc (vs:=[]) (us:=[pv (some (b1,0))]) rfl rfl) (Zc h Qcl ?_)))))
 rintro _ H5 ⟨r4,rfl,h⟩
 refine Zv (OV.not rfl) (Za (GL.nil ?_))
 exact Y1 I3 ⟨(!r4),rfl,h⟩
def Qi5 (C:Ctx) (p_r:Qi) (K:Bool→Heap→Prop) (H:Heap):Prop:=
 nw (Qi.c p_r) (fun b1 H2=>
 ldS H2 ((b1,0).1,(b1,0).2+2) fun x3=>
 QdK C x3 (fun r5 H6=>
 jn (α:=Bool) (fun b7 H13=>
 jn (α:=Bool) (fun b14 H22=>
 jn (α:=Bool) (fun b23 H31=>
 jn (α:=Bool) (fun b32 H40=>
 jn (α:=Bool) (fun b41 H49=>
 K b41 H49)
 (fun J42=>ift b32
 (ldL H40 ((b1,0).1,(b1,0).2+4) fun x45=>
 Qan C x45 (.func (.func 139) (List.toArray []) (List.toArray []):Value) (fun r47 H48=>
 J42 r47 H48) H40)
 (J42 false H40)))
 (fun J33=>ift b23
 (ldL H31 ((b1,0).1,(b1,0).2+5) fun x36=>
 QC C x36 (.func (.func 53) (List.toArray []) (List.toArray []):Value) (fun r38 H39=>
 J33 r38 H39) H31)
 (J33 false H31)))
 (fun J24=>ift b14
 (ldL H22 ((b1,0).1,(b1,0).2+3) fun x27=>
 QB C x27 (.func (.func 138) (List.toArray []) (List.toArray []):Value) (fun r29 H30=>
 J24 r29 H30) H22)
 (J24 false H22)))
 (fun J15=>ift b7
 (ldL H13 ((b1,0).1,(b1,0).2+4) fun x18=>
 ldL H13 ((b1,0).1,(b1,0).2+3) fun x20=>
 J15 (((Sl.len x18:Int):Int) == (Sl.len x20:Int)) H13)
 (J15 false H13)))
 (fun J8=>ift r5
 (ldL H6 ((b1,0).1,(b1,0).2+3) fun x11=>
 J8 (decide (((Sl.len x11:Int):Int)≤8)) H6)
 (J8 false H6))) H2) H
theorem QlY (C p_r K H) (h:Qi5 C p_r K H):QdL C p_r K H:=by
 refine Ye Tryz.func49 rfl Tryz.ntmps49 [(0,.agg (Qi.c p_r).toArray)] (Zo (GL.box (v:=.agg (Qi.c p_r).toArray) (cs:=Qi.c p_r) h trivial rfl rfl rfl ?_))
 intro b1 H2 h
 refine Za (GL.nil (Zo (Zf (Yl h fun x3 h=>?_))))
 refine Zc h QeM ?_
 rintro _ H6 ⟨r5,rfl,h⟩
 refine Zm ?_
 obtain ⟨J8,h,hR9⟩:=h
 refine GL.cut (α:=Bool) 5 J8 (fun b7=>[(11,.bool b7),(1,pv (some (b1,0)))]) ?_ ?_
 rcases h.em with ⟨u10,h⟩ | ⟨u10,h⟩
 refine Zu u10 Yf ?_
 obtain ⟨x11,v12,h⟩:=h
 refine Zu u10 (Yo v12) (Zu u10 (OV.lenSl rfl rfl) (Zu u10 (OV.ibin (v:=.bool (decide (((Sl.len x11:Int):Int)≤8))) rfl rfl rfl) (Zt u10 ?_)))
 exact Yj I3 (decide (((Sl.len x11:Int):Int)≤8)) h
 refine Zk u10 (Zk u10 (Zk u10 (Zk u10 (Zn u10 ?_))))
 exact Yj I3 false h
 intro b7 H13 h
 replace h:=hR9 b7 H13 h
 refine Zm ?_
 obtain ⟨J15,h,hR16⟩:=h
 refine GL.cut (α:=Bool) 8 J15 (fun b14=>[(20,.bool b14),(1,pv (some (b1,0)))]) ?_ ?_
 rcases h.em with ⟨u17,h⟩ | ⟨u17,h⟩
 refine Zu u17 Yf ?_
 obtain ⟨x18,v19,h⟩:=h
 refine Zu u17 (Yo v19) (Zu u17 (OV.lenSl rfl rfl) (Zu u17 Yf ?_))
 obtain ⟨x20,v21,h⟩:=h
 refine Zu u17 (Yo v21) (Zu u17 (OV.lenSl rfl rfl) (Zu u17 (OV.ibin (v:=.bool (((Sl.len x18:Int):Int) == (Sl.len x20:Int))) rfl rfl rfl) (Zt u17 ?_)))
 exact Yj I3 (((Sl.len x18:Int):Int) == (Sl.len x20:Int)) h
 refine Zk u17 (Zk u17 (Zk u17 (Zk u17 (Zk u17 (Zk u17 (Zk u17 (Zn u17 ?_)))))))
 exact Yj I3 false h
 intro b14 H22 h
 replace h:=hR16 b14 H22 h
 refine Zm ?_
 obtain ⟨J24,h,hR25⟩:=h
 refine GL.cut (α:=Bool) 4 J24 (fun b23=>[(25,.bool b23),(1,pv (some (b1,0)))]) ?_ ?_
 rcases h.em with ⟨u26,h⟩ | ⟨u26,h⟩
 refine Zu u26 Yf ?_
 obtain ⟨x27,v28,h⟩:=h
 refine Zu u26 (Yo v28) (GL.call h (Yt u26) rfl QcO (vs:=[slv x27,.func (.func 138) (List.toArray []) (List.toArray [])]) rfl ?_)
 rintro _ H30 ⟨r29,rfl,h⟩
 refine Zt u26 ?_
 exact Yj I3 r29 h
 refine Zk u26 (Zk u26 (Zk u26 (Zn u26 ?_)))
 exact Yj I3 false h
 intro b23 H31 h
 replace h:=hR25 b23 H31 h
 refine Zm ?_
 obtain ⟨J33,h,hR34⟩:=h
 refine GL.cut (α:=Bool) 4 J33 (fun b32=>[(30,.bool b32),(1,pv (some (b1,0)))]) ?_ ?_
 rcases h.em with ⟨u35,h⟩ | ⟨u35,h⟩
 refine Zu u35 Yf ?_
 obtain ⟨x36,v37,h⟩:=h
 refine Zu u35 (Yo v37) (GL.call h (Yt u35) rfl Qdu (vs:=[slv x36,.func (.func 53) (List.toArray []) (List.toArray [])]) rfl ?_)
 rintro _ H39 ⟨r38,rfl,h⟩
 refine Zt u35 ?_
 exact Yj I3 r38 h
 refine Zk u35 (Zk u35 (Zk u35 (Zn u35 ?_)))
 exact Yj I3 false h
 intro b32 H40 h
 replace h:=hR34 b32 H40 h
 refine Zm ?_
 obtain ⟨J42,h,hR43⟩:=h
 refine GL.cut (α:=Bool) 4 J42 (fun b41=>[(35,.bool b41)]) ?_ ?_
 rcases h.em with ⟨u44,h⟩ | ⟨u44,h⟩
 refine Zu u44 Yf ?_
 obtain ⟨x45,v46,h⟩:=h
 refine Zu u44 (Yo v46) (GL.call h (Yt u44) rfl QeL (vs:=[slv x45,.func (.func 139) (List.toArray []) (List.toArray [])]) rfl ?_)
 rintro _ H48 ⟨r47,rfl,h⟩
 refine Zt u44 ?_
 exact Yj I3 r47 h
 refine Zk u44 (Zk u44 (Zk u44 (Zn u44 ?_)))
 exact Yj I3 false h
 intro b41 H49 h
 replace h:=hR43 b41 H49 h
 refine Za (GL.nil ?_)
 exact Y1 I3 ⟨b41,rfl,h⟩
def QdT (C:Ctx) (p_l:Sl) (p_is:Value) (K:Bool→Heap→Prop) (H:Heap):Prop:=
 (Value.cells p_is = #[p_is])∧nw ([p_is]) (fun b1 H2=>
 QaA C p_l (.func (.func 141) (List.toArray []) (List.toArray [pv (some (b1,0))]):Value) (fun r4 H5=>
 K (!r4) H5) H2) H
theorem QgQ (C p_l p_is K H) (h:QdT C p_l p_is K H):QW C p_l p_is K H:=by
 refine Ye Tryz.func50 rfl Tryz.ntmps50 [(0,slv p_l),(1,p_is)] (Zo ?_)
 obtain ⟨u3,h⟩:=h
 refine GL.box (v:=p_is) (cs:=[p_is]) h trivial rfl rfl u3 ?_
 intro b1 H2 h
 refine Za (GL.nil (Zo (Zm (Zv (OV.makeFunc (vs:=[]) (us:=[pv (some (b1,0))]) rfl rfl) (Zc h QbS ?_)))))
 rintro _ H5 ⟨r4,rfl,h⟩
 refine Zv (OV.not rfl) (Za (GL.nil ?_))
 exact Y1 I3 ⟨(!r4),rfl,h⟩
def Qhf (C:Ctx) (p_x:Ql) (K:Bool→Heap→Prop) (H:Heap):Prop:=
 nw (Ql.c p_x) (fun b1 H2=>
 ldS H2 ((b1,0).1,(b1,0).2+2) fun x3=>
 QaE C x3 (fun r5 H6=>
 jn (α:=Bool) (fun b7 H13=>
 jn (α:=Bool) (fun b14 H22=>
 K b14 H22)
 (fun J15=>ift b7
 (ldL H13 ((b1,0).1,(b1,0).2+3) fun x18=>
 QC C x18 (.func (.func 53) (List.toArray []) (List.toArray []):Value) (fun r20 H21=>
 J15 r20 H21) H13)
 (J15 false H13)))
 (fun J8=>ift r5
 (ldL H6 ((b1,0).1,(b1,0).2+3) fun x11=>
 J8 (decide (((Sl.len x11:Int):Int) > 0)) H6)
 (J8 false H6))) H2) H
theorem Qjs (C p_x K H) (h:Qhf C p_x K H):QbY C p_x K H:=by
 refine Ye Tryz.func51 rfl Tryz.ntmps51 [(0,.agg (Ql.c p_x).toArray)] (Zo (GL.box (v:=.agg (Ql.c p_x).toArray) (cs:=Ql.c p_x) h trivial rfl rfl rfl ?_))
 intro b1 H2 h
 refine Za (GL.nil (Zo (Zf (Yl h fun x3 h=>?_))))
 refine Zc h QaQ ?_
 rintro _ H6 ⟨r5,rfl,h⟩
 refine Zm ?_
 obtain ⟨J8,h,hR9⟩:=h
 refine GL.cut (α:=Bool) 5 J8 (fun b7=>[(11,.bool b7),(1,pv (some (b1,0)))]) ?_ ?_
 rcases h.em with ⟨u10,h⟩ | ⟨u10,h⟩
 refine Zu u10 Yf ?_
 obtain ⟨x11,v12,h⟩:=h
 refine Zu u10 (Yo v12) (Zu u10 (OV.lenSl rfl rfl) (Zu u10 (OV.ibin (v:=.bool (decide (((Sl.len x11:Int):Int) > 0))) rfl rfl rfl) (Zt u10 ?_)))
 exact Yj I3 (decide (((Sl.len x11:Int):Int) > 0)) h
 refine Zk u10 (Zk u10 (Zk u10 (Zk u10 (Zn u10 ?_))))
 exact Yj I3 false h
 intro b7 H13 h
 replace h:=hR9 b7 H13 h
 refine Zm ?_
 obtain ⟨J15,h,hR16⟩:=h
 refine GL.cut (α:=Bool) 4 J15 (fun b14=>[(16,.bool b14)]) ?_ ?_
 rcases h.em with ⟨u17,h⟩ | ⟨u17,h⟩
 refine Zu u17 Yf ?_
 obtain ⟨x18,v19,h⟩:=h
 refine Zu u17 (Yo v19) (GL.call h (Yt u17) rfl Qdu (vs:=[slv x18,.func (.func 53) (List.toArray []) (List.toArray [])]) rfl ?_)
 rintro _ H21 ⟨r20,rfl,h⟩
 refine Zt u17 ?_
 exact Yj I3 r20 h
 refine Zk u17 (Zk u17 (Zk u17 (Zn u17 ?_)))
 exact Yj I3 false h
 intro b14 H22 h
 replace h:=hR16 b14 H22 h
 refine Za (GL.nil ?_)
 exact Y1 I3 ⟨b14,rfl,h⟩
def Qdz (C:Ctx) (p_l:Sl) (p_is:Value) (K:Bool→Heap→Prop) (H:Heap):Prop:=
 (Value.cells p_is = #[p_is])∧nw ([p_is]) (fun b1 H2=>
 Qal C p_l (.func (.func 143) (List.toArray []) (List.toArray [pv (some (b1,0))]):Value) (fun r4 H5=>
 K (!r4) H5) H2) H
theorem Qf0 (C p_l p_is K H) (h:Qdz C p_l p_is K H):QC C p_l p_is K H:=by
 refine Ye Tryz.func52 rfl Tryz.ntmps52 [(0,slv p_l),(1,p_is)] (Zo ?_)
 obtain ⟨u3,h⟩:=h
 refine GL.box (v:=p_is) (cs:=[p_is]) h trivial rfl rfl u3 ?_
 intro b1 H2 h
 refine Za (GL.nil (Zo (Zm (Zv (OV.makeFunc (vs:=[]) (us:=[pv (some (b1,0))]) rfl rfl) (Zc h Qbr ?_)))))
 rintro _ H5 ⟨r4,rfl,h⟩
 refine Zv (OV.not rfl) (Za (GL.nil ?_))
 exact Y1 I3 ⟨(!r4),rfl,h⟩
def Qhi (C:Ctx) (p_x:Qk) (K:Bool→Heap→Prop) (H:Heap):Prop:=
 nw (Qk.c p_x) (fun b1 H2=>
 ldI H2 .u8 ((b1,0).1,(b1,0).2+0) fun x3=>
 jn (α:=Bool) (fun x6 H7=>
 ift x6
 (ldS H7 ((b1,0).1,(b1,0).2+3) fun x11=>
 QdK C x11 (fun r13 H14=>
 jn (α:=Bool) (fun b15 H21=>
 jn (α:=Bool) (fun b22 H30=>
 K b22 H30)
 (fun J23=>ift b15
 (ldL H21 ((b1,0).1,(b1,0).2+4) fun x26=>
 QB C x26 (.func (.func 144) (List.toArray []) (List.toArray []):Value) (fun r28 H29=>
 J23 r28 H29) H21)
 (J23 false H21)))
 (fun J16=>ift r13
 (ldL H14 ((b1,0).1,(b1,0).2+4) fun x19=>
 J16 (decide (((Sl.len x19:Int):Int)≤8)) H14)
 (J16 false H14))) H7)
 (ift ((x3:Int) == 3)
 (ldS H7 ((b1,0).1,(b1,0).2+3) fun x32=>
 jn (α:=Bool) (fun b34 H40=>
 jn (α:=Bool) (fun b41 H56=>
 K b41 H56)
 (fun J42=>ift b34
 (ldL H40 ((b1,0).1,(b1,0).2+4) fun x45=>
 ixa x45 0 fun p47=>
 ldT H40 Qh.c (p47.1,p47.2+(0:Int).toNat*9) fun x52=>
 QbJ C x52 (fun r54 H55=>
 J42 r54 H55) H40)
 (J42 false H40)))
 (fun J35=>ift (x32 == ([]:Str))
 (ldL H7 ((b1,0).1,(b1,0).2+4) fun x38=>
 J35 (((Sl.len x38:Int):Int) == 1) H7)
 (J35 false H7)))
 (ift ((x3:Int) == 4)
 (ldS H7 ((b1,0).1,(b1,0).2+3) fun x58=>
 Qdr C x58 (fun r60 H61=>
 jn (α:=Bool) (fun b62 H68=>
 jn (α:=Bool) (fun b69 H84=>
 K b69 H84)
 (fun J70=>ift b62
 (ldL H68 ((b1,0).1,(b1,0).2+4) fun x73=>
 ixa x73 0 fun p75=>
 ldT H68 Qh.c (p75.1,p75.2+(0:Int).toNat*9) fun x80=>
 QbJ C x80 (fun r82 H83=>
 J70 r82 H83) H68)
 (J70 false H68)))
 (fun J63=>ift r60
 (ldL H61 ((b1,0).1,(b1,0).2+4) fun x66=>
 J63 (((Sl.len x66:Int):Int) == 1) H61)
 (J63 false H61))) H7)
 (K false H7))))
 (fun J5=>ift ((x3:Int) == 1)
 (J5 ((x3:Int) == 1) H2)
 (J5 ((x3:Int) == 2) H2))) H
theorem Qjv (C p_x K H) (h:Qhi C p_x K H):Qb1 C p_x K H:=by
 refine Ye Tryz.func53 rfl Tryz.ntmps53 [(0,.agg (Qk.c p_x).toArray)] (Zo (GL.box (v:=.agg (Qk.c p_x).toArray) (cs:=Qk.c p_x) h trivial rfl rfl rfl ?_))
 intro b1 H2 h
 refine Za (GL.nil (GC.seq (Zo (Zf (Yl h fun x3 h=>?_)))))
 refine GL.nil (GC.block ?_)
 obtain ⟨J5,h,hR8⟩:=h
 refine GC.join (α:=Bool) J5 (fun x6=>[(5,.bool x6),(1,pv (some (b1,0))),(4,.int .u8 x3)]) ?_ ?_
 refine Zo (Zi (.bool ((x3:Int) == 1)) (Za (GL.nil (Yd h (fun hc9 h=>?_) fun hc9 h=>?_))))
 exact Yk I3 ((x3:Int) == 1) h
 refine GC.region (Zi (.bool ((x3:Int) == 2)) (Za ?_))
 exact Yj I3 ((x3:Int) == 2) h
 intro x6 H7 h
 replace h:=hR8 x6 H7 h
 refine Yd h (fun hc10 h=>?_) fun hc10 h=>?_
 refine Zo (Zf (Yl h fun x11 h=>?_))
 refine Zc h QeM ?_
 rintro _ H14 ⟨r13,rfl,h⟩
 refine Zm ?_
 obtain ⟨J16,h,hR17⟩:=h
 refine GL.cut (α:=Bool) 5 J16 (fun b15=>[(16,.bool b15),(1,pv (some (b1,0)))]) ?_ ?_
 rcases h.em with ⟨hc18,h⟩ | ⟨hc18,h⟩
 refine Zu hc18 Yf ?_
 obtain ⟨x19,v20,h⟩:=h
 refine Zu hc18 (Yo v20) (Zu hc18 (OV.lenSl rfl rfl) (Zu hc18 (OV.ibin (v:=.bool (decide (((Sl.len x19:Int):Int)≤8))) rfl rfl rfl) (Zt hc18 ?_)))
 exact Yj I3 (decide (((Sl.len x19:Int):Int)≤8)) h
 refine Zk hc18 (Zk hc18 (Zk hc18 (Zk hc18 (Zn hc18 ?_))))
 exact Yj I3 false h
 intro b15 H21 h
 replace h:=hR17 b15 H21 h
 refine Zm ?_
 obtain ⟨J23,h,hR24⟩:=h
 refine GL.cut (α:=Bool) 4 J23 (fun b22=>[(21,.bool b22)]) ?_ ?_
 rcases h.em with ⟨hc25,h⟩ | ⟨hc25,h⟩
 refine Zu hc25 Yf ?_
 obtain ⟨x26,v27,h⟩:=h
 refine Zu hc25 (Yo v27) (GL.call h (Yt hc25) rfl QcO (vs:=[slv x26,.func (.func 144) (List.toArray []) (List.toArray [])]) rfl ?_)
 rintro _ H29 ⟨r28,rfl,h⟩
 refine Zt hc25 ?_
 exact Yj I3 r28 h
 refine Zk hc25 (Zk hc25 (Zk hc25 (Zn hc25 ?_)))
 exact Yj I3 false h
 intro b22 H30 h
 replace h:=hR24 b22 H30 h
 refine Za (GL.nil ?_)
 exact Y1 I3 ⟨b22,rfl,h⟩
 refine Zo (Zi (.bool ((x3:Int) == 3)) (Za (GL.nil (Yd h (fun hc31 h=>?_) fun hc31 h=>?_))))
 refine Zo (Zf (Yl h fun x32 h=>?_))
 refine Zv (OV.sbin (a:=x32) (b:=([]:Str)) (v:=.bool (x32 == ([]:Str))) rfl rfl rfl) (Zm ?_)
 obtain ⟨J35,h,hR36⟩:=h
 refine GL.cut (α:=Bool) 5 J35 (fun b34=>[(32,.bool b34),(1,pv (some (b1,0)))]) ?_ ?_
 rcases h.em with ⟨hc37,h⟩ | ⟨hc37,h⟩
 refine Zu hc37 Yf ?_
 obtain ⟨x38,v39,h⟩:=h
 refine Zu hc37 (Yo v39) (Zu hc37 (OV.lenSl rfl rfl) (Zu hc37 (OV.ibin (v:=.bool (((Sl.len x38:Int):Int) == 1)) rfl rfl rfl) (Zt hc37 ?_)))
 exact Yj I3 (((Sl.len x38:Int):Int) == 1) h
 refine Zk hc37 (Zk hc37 (Zk hc37 (Zk hc37 (Zn hc37 ?_))))
 exact Yj I3 false h
 intro b34 H40 h
 replace h:=hR36 b34 H40 h
 refine Zm ?_
 obtain ⟨J42,h,hR43⟩:=h
 refine GL.cut (α:=Bool) 6 J42 (fun b41=>[(39,.bool b41)]) ?_ ?_
 rcases h.em with ⟨hc44,h⟩ | ⟨hc44,h⟩
 refine Zu hc44 Yf ?_
 obtain ⟨x45,v46,h⟩:=h
 refine Zu hc44 (Yo v46) ?_
 obtain ⟨p47,ha48,hb49,hc50,hd51,h⟩:=h
 refine Zu hc44 (OV.indexAddr rfl rfl rfl rfl ha48 hb49 hc50 hd51) ?_
 obtain ⟨x52,v53,h⟩:=h
 refine Zu hc44 (OV.loadT rfl rfl rfl v53) (GL.call h (Yt hc44) rfl Qg5 (vs:=[.agg (Qh.c x52).toArray]) rfl ?_)
 rintro _ H55 ⟨r54,rfl,h⟩
 refine Zt hc44 ?_
 exact Yj I3 r54 h
 refine Zk hc44 (Zk hc44 (Zk hc44 (Zk hc44 (Zk hc44 (Zn hc44 ?_)))))
 exact Yj I3 false h
 intro b41 H56 h
 replace h:=hR43 b41 H56 h
 refine Za (GL.nil ?_)
 exact Y1 I3 ⟨b41,rfl,h⟩
 refine Zo (Zi (.bool ((x3:Int) == 4)) (Za (GL.nil (Yd h (fun hc57 h=>?_) fun hc57 h=>?_))))
 refine Zo (Zf (Yl h fun x58 h=>?_))
 refine Zc h Qgl ?_
 rintro _ H61 ⟨r60,rfl,h⟩
 refine Zm ?_
 obtain ⟨J63,h,hR64⟩:=h
 refine GL.cut (α:=Bool) 5 J63 (fun b62=>[(50,.bool b62),(1,pv (some (b1,0)))]) ?_ ?_
 rcases h.em with ⟨hc65,h⟩ | ⟨hc65,h⟩
 refine Zu hc65 Yf ?_
 obtain ⟨x66,v67,h⟩:=h
 refine Zu hc65 (Yo v67) (Zu hc65 (OV.lenSl rfl rfl) (Zu hc65 (OV.ibin (v:=.bool (((Sl.len x66:Int):Int) == 1)) rfl rfl rfl) (Zt hc65 ?_)))
 exact Yj I3 (((Sl.len x66:Int):Int) == 1) h
 refine Zk hc65 (Zk hc65 (Zk hc65 (Zk hc65 (Zn hc65 ?_))))
 exact Yj I3 false h
 intro b62 H68 h
 replace h:=hR64 b62 H68 h
 refine Zm ?_
 obtain ⟨J70,h,hR71⟩:=h
 refine GL.cut (α:=Bool) 6 J70 (fun b69=>[(57,.bool b69)]) ?_ ?_
 rcases h.em with ⟨hc72,h⟩ | ⟨hc72,h⟩
 refine Zu hc72 Yf ?_
 obtain ⟨x73,v74,h⟩:=h
 refine Zu hc72 (Yo v74) ?_
 obtain ⟨p75,ha76,hb77,hc78,hd79,h⟩:=h
 refine Zu hc72 (OV.indexAddr rfl rfl rfl rfl ha76 hb77 hc78 hd79) ?_
 obtain ⟨x80,v81,h⟩:=h
 refine Zu hc72 (OV.loadT rfl rfl rfl v81) (GL.call h (Yt hc72) rfl Qg5 (vs:=[.agg (Qh.c x80).toArray]) rfl ?_)
 rintro _ H83 ⟨r82,rfl,h⟩
 refine Zt hc72 ?_
 exact Yj I3 r82 h
 refine Zk hc72 (Zk hc72 (Zk hc72 (Zk hc72 (Zk hc72 (Zn hc72 ?_)))))
 exact Yj I3 false h
 intro b69 H84 h
 replace h:=hR71 b69 H84 h
 refine Za (GL.nil ?_)
 exact Y1 I3 ⟨b69,rfl,h⟩
 refine GC.skip_to I3 (Zo (Za (GL.nil ?_)))
 exact Y1 I3 ⟨false,rfl,h⟩
def Qhg (C:Ctx) (p_x:Qi) (K:Bool→Heap→Prop) (H:Heap):Prop:=
 nw (Qi.c p_x) (fun b1 H2=>
 ldL H2 ((b1,0).1,(b1,0).2+5) fun x3=>
 K (decide (((Sl.len x3:Int):Int)≤12)) H2) H
theorem Qjt (C p_x K H) (h:Qhg C p_x K H):QbZ C p_x K H:=by
 refine Ye Tryz.func54 rfl Tryz.ntmps54 [(0,.agg (Qi.c p_x).toArray)] (Zo (GL.box (v:=.agg (Qi.c p_x).toArray) (cs:=Qi.c p_x) h trivial rfl rfl rfl ?_))
 intro b1 H2 h
 refine Za (GL.nil (Zo (Zf (Yl h fun x3 h=>?_))))
 refine Zq (Zi (.bool (decide (((Sl.len x3:Int):Int)≤12))) (Za (GL.nil ?_)))
 exact Y1 I3 ⟨(decide (((Sl.len x3:Int):Int)≤12)),rfl,h⟩
def Qhh (C:Ctx) (p_x:Ql) (K:Bool→Heap→Prop) (H:Heap):Prop:=
 nw (Ql.c p_x) (fun b1 H2=>
 ldL H2 ((b1,0).1,(b1,0).2+3) fun x3=>
 K (decide (((Sl.len x3:Int):Int)≤12)) H2) H
theorem Qju (C p_x K H) (h:Qhh C p_x K H):Qb0 C p_x K H:=by
 refine Ye Tryz.func55 rfl Tryz.ntmps55 [(0,.agg (Ql.c p_x).toArray)] (Zo (GL.box (v:=.agg (Ql.c p_x).toArray) (cs:=Ql.c p_x) h trivial rfl rfl rfl ?_))
 intro b1 H2 h
 refine Za (GL.nil (Zo (Zf (Yl h fun x3 h=>?_))))
 refine Zq (Zi (.bool (decide (((Sl.len x3:Int):Int)≤12))) (Za (GL.nil ?_)))
 exact Y1 I3 ⟨(decide (((Sl.len x3:Int):Int)≤12)),rfl,h⟩
def Qhb (C:Ctx) (E:Value→Heap→Prop) (p_m:Qa) (p_pos:Qj) (p_e:Int) (K:Heap→Prop) (H:Heap):Prop:=
 nw (Qa.c p_m) (fun b1 H2=>
 nw (Qj.c p_pos) (fun b3 H4=>
 ldS H4 ((b1,0).1,(b1,0).2+0) fun x5=>
 ldT H4 Qj.c (b3,0) fun x7=>
 E (.iface 89 (.agg (Qo.c (⟨(⟨x5,x7⟩:Qe),p_e⟩:Qo)).toArray:Value)) H4) H2) H
theorem Qjo (C E p_m p_pos p_e K H) (h:Qhb C E p_m p_pos p_e K H):QA C E p_m p_pos p_e K H:=by
 refine SpecP.enter Tryz.func56 rfl Tryz.ntmps56 rfl (GC.sub [(0,.agg (Qa.c p_m).toArray),(1,.agg (Qj.c p_pos).toArray),(2,.int .i64 p_e)] ⟨rfl,rfl,rfl,trivial⟩ (Zo (GL.box (v:=.agg (Qa.c p_m).toArray) (cs:=Qa.c p_m) h trivial rfl rfl rfl ?_)))
 intro b1 H2 h
 refine GL.box (v:=.agg (Qj.c p_pos).toArray) (cs:=Qj.c p_pos) h trivial rfl rfl rfl ?_
 intro b3 H4 h
 refine GL.nil (GC.region (Zf (Yl h fun x5 h=>?_)))
 obtain ⟨x7,v8,h⟩:=h
 refine Zv (OV.loadT rfl rfl rfl v8) (Zv (OV.build (vs:=[(0,sv x5),(1,.agg (Qj.c x7).toArray)]) (v:=.agg (Qe.c (⟨x5,x7⟩:Qe)).toArray) rfl (fun _=>by kernel_rfl)) (Zm (Zv (OV.build (vs:=[(0,.agg (Qe.c (⟨x5,x7⟩:Qe)).toArray),(1,.int .i64 p_e)]) (v:=.agg (Qo.c (⟨(⟨x5,x7⟩:Qe),p_e⟩:Qo)).toArray) rfl (fun _=>by kernel_rfl)) (Zv (OV.makeInterface (u:=.agg (Qo.c (⟨(⟨x5,x7⟩:Qe),p_e⟩:Qo)).toArray) rfl (by kernel_rfl)) ?_))))
 exact GL.panic (t:=89) (u:=(.agg (Qo.c (⟨(⟨x5,x7⟩:Qe),p_e⟩:Qo)).toArray:Value)) h (fun _ _ _ _ h=>h) trivial rfl
def QdE (C:Ctx) (p_p:Option (Nat×Nat)) (p_name:Str) (K:Int→Heap→Prop) (H:Heap):Prop:=
 nw ([sv p_name]) (fun b1 H2=>
 nck p_p fun p3=>
 ldL H2 (p3.1,p3.2+0) fun x5=>
 QaI C x5 (.func (.func 147) (List.toArray []) (List.toArray [pv (some (b1,0))]):Value) (fun r7 H8=>
 K r7 H8) H2) H
theorem Qgt (C p_p p_name K H) (h:QdE C p_p p_name K H):Qai C p_p p_name K H:=by
 refine Ye Tryz.func57 rfl Tryz.ntmps57 [(0,pv p_p),(1,sv p_name)] (Zo (GL.box (v:=sv p_name) (cs:=[sv p_name]) h trivial rfl rfl rfl ?_))
 intro b1 H2 h
 refine Za (GL.nil (Zo (Zm ?_)))
 obtain ⟨p3,hp4,h⟩:=h
 refine Zv (OV.nilCheck (q:=p_p) rfl hp4) (Zf (Yl h fun x5 h=>?_))
 refine Zv (OV.makeFunc (vs:=[]) (us:=[pv (some (b1,0))]) rfl rfl) (Zc h Qb9 ?_)
 rintro _ H8 ⟨r7,rfl,h⟩
 refine Za (GL.nil ?_)
 exact Y1 I3 ⟨r7,rfl,h⟩
def Qz (C:Ctx) (p_s:Sl) (p_f:Value) (K:Bool→Heap→Prop) (H:Heap):Prop:=
 QaH C p_s p_f (fun r1 H2=>
 K (decide ((r1:Int) ≥ 0)) H2) H
theorem QN (C p_s p_f K H) (h:Qz C p_s p_f K H):Qp C p_s p_f K H:=by
 refine Ye Tryz.func58 rfl Tryz.ntmps58 [(0,slv p_s),(1,p_f)] (Zo (Za (GL.nil (Zo (Zm (Zm (Zc h Qb8 ?_)))))))
 rintro _ H2 ⟨r1,rfl,h⟩
 refine Zi (.bool (decide ((r1:Int) ≥ 0))) (Za (GL.nil ?_))
 exact Y1 I3 ⟨(decide ((r1:Int) ≥ 0)),rfl,h⟩
def Qcw (C:Ctx) (p_y:Qn) (v0:Nat×Nat) (K:Bool→Heap→Prop) (H:Heap):Prop:=
 nw (Qn.c p_y) (fun b1 H2=>
 ldS H2 ((b1,0).1,(b1,0).2+2) fun x3=>
 ldS H2 (v0.1,v0.2+2) fun x5=>
 K (x3 == x5) H2) H
theorem Qeg (C p_y v0 K H) (h:Qcw C p_y v0 K H):QeB C p_y v0 K H:=by
 refine Ye Tryz.func59 rfl Tryz.ntmps59 [(0,.agg (Qn.c p_y).toArray),(1,pv (some v0))] (Zo (GL.box (v:=.agg (Qn.c p_y).toArray) (cs:=Qn.c p_y) h trivial rfl rfl rfl ?_))
 intro b1 H2 h
 refine Za (GL.nil (Zo (Zf (Yl h fun x3 h=>?_))))
 refine Zf (Yl h fun x5 h=>?_)
 refine Zv (OV.sbin (a:=x3) (b:=x5) (v:=.bool (x3 == x5)) rfl rfl rfl) (Za (GL.nil ?_))
 exact Y1 I3 ⟨(x3 == x5),rfl,h⟩
def QcW (C:Ctx) (p_p:Option (Nat×Nat)) (p_from:Int) (p_to:Int) (p_seen:Option Nat) (K:Bool→Heap→Prop) (H:Heap):Prop:=
 nw ([pv p_p]) (fun b1 H2=>
 nw ([.int .i64 p_to]) (fun b3 H4=>
 nw ([mv p_seen]) (fun b5 H6=>
 ldI H6 .i64 (b3,0) fun x7=>
 ift ((p_from:Int) == x7)
 (K true H6)
 (ldM H6 (b5,0) fun x10=>
 upS kI (fun x:Bool=>(.bool x:Value)) x10 p_from true (fun H12=>
 ldP H12 (b1,0) fun x13=>
 nck x13 fun p15=>
 ldL H12 (p15.1,p15.2+0) fun x17=>
 ixa x17 p_from fun p19=>
 ldL H12 ((p19.1,p19.2+(p_from:Int).toNat*6).1,(p19.1,p19.2+(p_from:Int).toNat*6).2+1) fun x24=>
 Qp C x24 (.func (.func 149) (List.toArray []) (List.toArray [pv (some (b1,0)),pv (some (b5,0)),pv (some (b3,0))]):Value) (fun r26 H27=>
 K r26 H27) H12) H6)) H4) H2) H
theorem QeV (C p_p p_from p_to p_seen K H) (h:QcW C p_p p_from p_to p_seen K H):Qaj C p_p p_from p_to p_seen K H:=by
 refine Ye Tryz.func60 rfl Tryz.ntmps60 [(0,pv p_p),(1,.int .i64 p_from),(2,.int .i64 p_to),(3,mv p_seen)] (Zo (GL.box (v:=pv p_p) (cs:=[pv p_p]) h trivial rfl rfl rfl ?_))
 intro b1 H2 h
 refine GL.box (v:=.int .i64 p_to) (cs:=[.int .i64 p_to]) h trivial rfl rfl rfl ?_
 intro b3 H4 h
 refine GL.box (v:=mv p_seen) (cs:=[mv p_seen]) h trivial rfl rfl rfl ?_
 intro b5 H6 h
 refine Za (GL.nil (GC.seq (Zo (Zm (Yl h fun x7 h=>?_)))))
 refine Zi (.bool ((p_from:Int) == x7)) (GL.nil (Yd h (fun u9 h=>?_) fun u9 h=>?_))
 refine Zo (Za (GL.nil ?_))
 exact Y1 I3 ⟨true,rfl,h⟩
 refine GC.skip (Zo (Yl h fun x10 h=>?_))
 refine Zm (GL.mapUpdateS (ke:=kI) (enc:=(fun x:Bool=>(.bool x:Value))) (q:=x10) (k:=p_from) (x:=true) h trivial rfl rfl rfl rfl (kInt (by kernel_rfl)) ?_)
 intro H12 h
 refine GL.nil (Zo (Yl h fun x13 h=>?_))
 obtain ⟨p15,hp16,h⟩:=h
 refine Zv (OV.nilCheck (q:=x13) rfl hp16) (Zf (Yl h fun x17 h=>?_))
 refine Zm (Yx h fun p19 h=>?_)
 refine Zf (Yl h fun x24 h=>?_)
 refine Zv (OV.makeFunc (vs:=[]) (us:=[pv (some (b1,0)),pv (some (b5,0)),pv (some (b3,0))]) rfl rfl) (Zc h Qy ?_)
 rintro _ H27 ⟨r26,rfl,h⟩
 refine Za (GL.nil ?_)
 exact Y1 I3 ⟨r26,rfl,h⟩
def QdG (C:Ctx) (p_p:Option (Nat×Nat)) (p_m:Qa) (p_own:Str) (p_kind:Int) (p_pub:Bool) (K:Bool→Heap→Prop) (H:Heap):Prop:=
 nw (Qa.c p_m) (fun b1 H2=>
 ldS H2 ((b1,0).1,(b1,0).2+0) fun x3=>
 nw (Qq.c Qq.zero) (fun b5 H6=>
 stT (b5,0) (Qq.c (⟨x3,p_own,p_kind⟩:Qq)) (fun H7=>
 nck p_p fun p8=>
 ldM H7 (p8.1,p8.2+1) fun x10=>
 ldT H7 Qq.c (b5,0) fun x12=>
 lkM kp3 (fun x:Bool=>(.bool x:Value)) false x10 (x12.mod_,x12.own_,x12.kind_) (fun x14 is15=>
 jn (α:=Unit) (fun x18 H19=>
 K (!is15) H19)
 (fun J17=>ift (!is15)
 (dr H7 fun Hs22=>
 nck p_p fun p24=>
 ldM Hs22 (p24.1,p24.2+1) fun x26=>
 ldT Hs22 Qq.c (b5,0) fun x28=>
 upS kp3 (fun x:Bool=>(.bool x:Value)) x26 (x28.mod_,x28.own_,x28.kind_) p_pub (fun H31=>
 Heap.le Hs22 H31∧
 J17 () H31) H7)
 (J17 () H7))) H7) H6) H2) H
theorem Qgv (C p_p p_m p_own p_kind p_pub K H) (h:QdG C p_p p_m p_own p_kind p_pub K H):Qak C p_p p_m p_own p_kind p_pub K H:=by
 refine Ye Tryz.func61 rfl Tryz.ntmps61 [(0,pv p_p),(1,.agg (Qa.c p_m).toArray),(2,sv p_own),(3,.int .i64 p_kind),(4,.bool p_pub)] (Zo (GL.box (v:=.agg (Qa.c p_m).toArray) (cs:=Qa.c p_m) h trivial rfl rfl rfl ?_))
 intro b1 H2 h
 refine Za (GL.nil (Zo (Zf (Yl h fun x3 h=>?_))))
 refine Zm (Zm (Zv (OV.build (vs:=[(0,sv x3),(1,sv p_own),(2,.int .i64 p_kind)]) (v:=.agg (Qq.c (⟨x3,p_own,p_kind⟩:Qq)).toArray) rfl (fun _=>by kernel_rfl)) (GL.alloc (cs:=Qq.c Qq.zero) h trivial rfl rfl rfl ?_)))
 intro b5 H6 h
 refine GL.storeT (p:=(b5,0)) (vs:=Qq.c (⟨x3,p_own,p_kind⟩:Qq)) h trivial rfl rfl rfl rfl ?_
 intro H7 h
 refine GL.nil (GC.seq (GC.draw (by kernel_rfl) (by kernel_rfl) (GQ.val trivial rfl (OV.move (v:=pv p_p) rfl) ?_)))
 obtain ⟨p8,hp9,h⟩:=h
 refine GQ.val trivial rfl (OV.nilCheck (q:=p_p) rfl hp9) (GQ.val trivial rfl (OV.fieldAddr (p:=p8) rfl rfl) ?_)
 obtain ⟨x10,v11,h⟩:=h
 refine GQ.val trivial rfl (OV.load (p:=(p8.1,p8.2+1)) rfl rfl v11) ?_
 obtain ⟨x12,v13,h⟩:=h
 refine GQ.val trivial rfl (OV.loadT (p:=(b5,0)) (cs:=Qq.c x12) rfl rfl rfl v13) ?_
 obtain ⟨x14,is15,v16,h⟩:=h
 refine GQ.val trivial rfl (OV.lookup2 (v:=.tuple #[.bool x14,.bool is15]) (ke:=kp3) (enc:=(fun x:Bool=>(.bool x:Value))) (z:=false) (q:=x10) (k:=(x12.mod_,x12.own_,x12.kind_)) (x:=x14) (b:=is15) rfl v16 rfl rfl rfl kOk206 rfl) (GQ.val trivial rfl (OV.move (v:=.tuple #[.bool x14,.bool is15]) rfl) (GQ.val trivial rfl (OV.extract (v:=.bool x14) rfl rfl) (GQ.val trivial rfl (OV.extract (v:=.bool is15) rfl rfl) (GQ.val trivial rfl (OV.assign (v:=.bool x14) rfl) (GQ.val trivial rfl (OV.assign (v:=.bool is15) rfl) (GQ.nil (GL.nil ?_)))))))
 obtain ⟨J17,h,hR20⟩:=h
 refine GC.join (α:=Unit) J17 (fun _=>[(13,.bool is15)]) ?_ ?_
 refine Zo (Zm (Zv (OV.not rfl) (GL.nil (Yd h (fun u21 h=>?_) fun u21 h=>?_))))
 obtain ⟨Hs22,hle23,h⟩:=h
 refine GC.any (Hs:=Hs22) (by kernel_rfl) hle23 (Zp 0 rfl Ym ?_)
 obtain ⟨p24,hp25,h⟩:=h
 refine Zp 1 rfl (OV.nilCheck (q:=p_p) rfl hp25) (Zp 2 rfl Yf ?_)
 obtain ⟨x26,v27,h⟩:=h
 refine Zp 3 rfl (Yo v27) ?_
 obtain ⟨x28,v29,h⟩:=h
 refine Zp 4 rfl (OV.loadT rfl rfl rfl v29) (Zp 5 rfl Ym (GA.eff 6 rfl (by kernel_rfl) (GL.mapUpdateS (ke:=kp3) (enc:=(fun x:Bool=>(.bool x:Value))) (q:=x26) (k:=(x28.mod_,x28.own_,x28.kind_)) (x:=p_pub) h trivial rfl rfl rfl rfl kOk206 ?_)))
 intro H31 h
 obtain ⟨hle30,h⟩:=h
 refine GA.back hle30 (GA.done (by kernel_rfl) ?_)
 exact Yj I3 () h
 exact Yk I3 () h
 intro x18 H19 h
 replace h:=hR20 x18 H19 h
 refine Zo (Zm (Zv (OV.not rfl) (Za (GL.nil ?_))))
 exact Y1 I3 ⟨(!is15),rfl,h⟩
def Qbo (C:Ctx) (p_s:Sl) (p_v:Str) (K:Bool→Heap→Prop) (H:Heap):Prop:=
 Qcc C p_s p_v (fun r1 H2=>
 K (decide ((r1:Int) ≥ 0)) H2) H
theorem QdB (C p_s p_v K H) (h:Qbo C p_s p_v K H):Qr C p_s p_v K H:=by
 refine Ye Tryz.func62 rfl Tryz.ntmps62 [(0,slv p_s),(1,sv p_v)] (Zo (Za (GL.nil (Zo (Zm (Zm (Zc h Qd0 ?_)))))))
 rintro _ H2 ⟨r1,rfl,h⟩
 refine Zi (.bool (decide ((r1:Int) ≥ 0))) (Za (GL.nil ?_))
 exact Y1 I3 ⟨(decide ((r1:Int) ≥ 0)),rfl,h⟩
def QK (C:Ctx) (p_s:Sl) (p_f:Value) (K:Bool→Heap→Prop) (H:Heap):Prop:=
 Qav C p_s p_f (fun r1 H2=>
 K (decide ((r1:Int) ≥ 0)) H2) H
theorem Qac (C p_s p_f K H) (h:QK C p_s p_f K H):Qx C p_s p_f K H:=by
 refine Ye Tryz.func63 rfl Tryz.ntmps63 [(0,slv p_s),(1,p_f)] (Zo (Za (GL.nil (Zo (Zm (Zm (Zc h QbN ?_)))))))
 rintro _ H2 ⟨r1,rfl,h⟩
 refine Zi (.bool (decide ((r1:Int) ≥ 0))) (Za (GL.nil ?_))
 exact Y1 I3 ⟨(decide ((r1:Int) ≥ 0)),rfl,h⟩
def QcV (C:Ctx) (p_c:Qc) (v0:Nat×Nat) (K:Bool→Heap→Prop) (H:Heap):Prop:=
 nw (Qc.c p_c) (fun b1 H2=>
 ldL H2 ((b1,0).1,(b1,0).2+1) fun x3=>
 ldL H2 (v0.1,v0.2+4) fun x5=>
 Qee C x3 x5 (fun r7 H8=>
 K r7 H8) H2) H
theorem QeU (C p_c v0 K H) (h:QcV C p_c v0 K H):Qfs C p_c v0 K H:=by
 refine Ye Tryz.func64 rfl Tryz.ntmps64 [(0,.agg (Qc.c p_c).toArray),(1,pv (some v0))] (Zo (GL.box (v:=.agg (Qc.c p_c).toArray) (cs:=Qc.c p_c) h trivial rfl rfl rfl ?_))
 intro b1 H2 h
 refine Za (GL.nil (Zo (Zf (Yl h fun x3 h=>?_))))
 refine Zf (Yl h fun x5 h=>?_)
 refine Zc h QhF ?_
 rintro _ H8 ⟨r7,rfl,h⟩
 refine Za (GL.nil ?_)
 exact Y1 I3 ⟨r7,rfl,h⟩
def QhK (C:Ctx) (p_l:Sl) (p_params:Sl) (K:Bool→Heap→Prop) (H:Heap):Prop:=
 nw ([slv p_params]) (fun b1 H2=>
 Qv C p_l (.func (.func 153) (List.toArray []) (List.toArray [pv (some (b1,0))]):Value) (fun r3 H4=>
 K r3 H4) H2) H
theorem Qko (C p_l p_params K H) (h:QhK C p_l p_params K H):Qee C p_l p_params K H:=by
 refine Ye Tryz.func65 rfl Tryz.ntmps65 [(0,slv p_l),(1,slv p_params)] (Zo (GL.box (v:=slv p_params) (cs:=[slv p_params]) h trivial rfl rfl rfl ?_))
 intro b1 H2 h
 refine Za (GL.nil (Zo (Zm (Zv (OV.makeFunc (vs:=[]) (us:=[pv (some (b1,0))]) rfl rfl) (Zc h Qaa ?_)))))
 rintro _ H4 ⟨r3,rfl,h⟩
 refine Za (GL.nil ?_)
 exact Y1 I3 ⟨r3,rfl,h⟩
def QbU (C:Ctx) (p_s:Sl) (K:Sl→Heap→Prop) (H:Heap):Prop:=
 ift (Sl.isNil p_s)
 (K Sl.nil H)
 (nw ([]) (fun b2 H3=>
 apS ([sv []]) 16 (Sl.of (some (b2,0)) 0 0) p_s (fun r4 H5=>
 K r4 H5) H3) H)
theorem QdV (C p_s K H) (h:QbU C p_s K H):QJ C p_s K H:=by
 refine Ye Tryz.func66 rfl Tryz.ntmps66 [(0,slv p_s)] (Zo (Za (GL.nil (GC.seq (Zo (Zm (Zv (OV.eqlSl (s:=p_s) rfl rfl rfl) (GL.nil (Yd h (fun u1 h=>?_) fun u1 h=>?_)))))))))
 refine Zo (Za (GL.nil ?_))
 exact Y1 I3 ⟨Sl.nil,rfl,h⟩
 refine GC.skip (Zo (GL.buildSlice (cs:=[]) h trivial rfl (vs:=[]) rfl ⟨9,fun _=>by kernel_rfl⟩ ?_))
 intro b2 H3 h
 refine Zm (GL.appendS (s:=(Sl.of (some (b2,0)) 0 0)) (s2:=p_s) (zc:=[sv []]) (bytes:=16) h trivial rfl rfl rfl ⟨⟨_,_,_,rfl,rfl,rfl,rfl,rfl,rfl⟩⟩ rfl ?_)
 intro r4 H5 h
 refine Za (GL.nil ?_)
 exact Y1 I3 ⟨r4,rfl,h⟩
def Qc9 (C:Ctx) (E:Value→Heap→Prop) (p_p:Option (Nat×Nat)) (p_m:Qa) (p_l:Sl) (p_pos:Qj) (K:Sl→Heap→Prop) (H:Heap):Prop:=
 nw (Qa.c p_m) (fun b1 H2=>
 nw (Qj.c p_pos) (fun b3 H4=>
 lp (α:=Sl×Int) (Sl.nil,0) H4 (fun x5 J6 H7=>
 ift (decide ((x5.2:Int) < (Sl.len p_l:Int)))
 (ixa p_l x5.2 fun p9=>
 ldT H7 Qf.c (p9.1,p9.2+(x5.2:Int).toNat*3) fun x14=>
 nw (Qf.c Qf.zero) (fun b16 H17=>
 stT (b16,0) (Qf.c x14) (fun H18=>
 dr H18 fun Hs19=>
 ldS Hs19 ((b16,0).1,(b16,0).2+0) fun x21=>
 ldT Hs19 Qa.c (b1,0) fun x23=>
 ldT Hs19 Qd.c ((b16,0).1,(b16,0).2+1) fun x25=>
 ldT Hs19 Qj.c (b3,0) fun x27=>
 Qbt C E p_p x23 x25 x27 (fun r30 H31=>
 Heap.le Hs19 H31∧
 nw ((Qf.c (⟨x21,r30⟩:Qf))++[]) (fun b33 H34=>
 Heap.le Hs19 H34∧
 apS (Qf.c Qf.zero) 56 x5.1 (Sl.of (some (b33,0)) 1 1) (fun r36 H37=>
 Heap.le Hs19 H37∧
 J6 (r36,(w .i64 (x5.2+1))) H37) H34) H31) H18) H17) H7)
 (K x5.1 H7))) H2) H
theorem Qfg (C E p_p p_m p_l p_pos K H) (h:Qc9 C E p_p p_m p_l p_pos K H):QO C E p_p p_m p_l p_pos K H:=by
 refine SpecP.enter Tryz.func67 rfl Tryz.ntmps67 rfl (GC.sub [(0,pv p_p),(1,.agg (Qa.c p_m).toArray),(2,slv p_l),(3,.agg (Qj.c p_pos).toArray)] ⟨rfl,rfl,rfl,rfl,trivial⟩ (Zo (GL.box (v:=.agg (Qa.c p_m).toArray) (cs:=Qa.c p_m) h trivial rfl rfl rfl ?_)))
 intro b1 H2 h
 refine GL.box (v:=.agg (Qj.c p_pos).toArray) (cs:=Qj.c p_pos) h trivial rfl rfl rfl ?_
 intro b3 H4 h
 refine Za (GL.nil (Zo (Za (GL.nil (GC.seq (Zo (Zm (Zq (Zm (GL.nil (GC.block (Yp h (fun x5=>[(9,slv x5.1),(14,.int .i64 x5.2),(0,pv p_p),(5,pv (some (b1,0))),(7,pv (some (b3,0))),(12,slv p_l),(13,.int .i64 (Sl.len p_l:Int))]) ?_))))))))))))
 intro x5 H7 J6 h
 refine Zo (Zi (.bool (decide ((x5.2:Int) < (Sl.len p_l:Int)))) (GL.nil (GC.seq (Yd h (fun u8 h=>?_) fun u8 h=>?_))))
 refine GC.skip (GC.seq (GC.block (Zo (Yx h fun p9 h=>?_))))
 obtain ⟨x14,v15,h⟩:=h
 refine Zv (OV.loadT rfl rfl rfl v15) (GL.alloc (cs:=Qf.c Qf.zero) h trivial rfl rfl rfl ?_)
 intro b16 H17 h
 refine GL.storeT (p:=(b16,0)) (vs:=Qf.c x14) h trivial rfl rfl rfl rfl ?_
 intro H18 h
 refine GL.nil ?_
 obtain ⟨Hs19,hle20,h⟩:=h
 refine GC.any (Hs:=Hs19) (by kernel_rfl) hle20 (GA.takeP 0 rfl trivial (OV.move (v:=slv x5.1) rfl) (GA.takeP 1 rfl trivial (OV.fieldAddr (p:=(b16,0)) rfl rfl) ?_))
 obtain ⟨x21,v22,h⟩:=h
 refine GA.takeP 2 rfl trivial (OV.load (p:=((b16,0).1,(b16,0).2+0)) rfl rfl v22) (GA.takeP 3 rfl trivial (OV.move (v:=pv p_p) rfl) ?_)
 obtain ⟨x23,v24,h⟩:=h
 refine GA.takeP 4 rfl trivial (OV.loadT (p:=(b1,0)) (cs:=Qa.c x23) rfl rfl rfl v24) (GA.takeP 5 rfl trivial (OV.fieldAddr (p:=(b16,0)) rfl rfl) ?_)
 obtain ⟨x25,v26,h⟩:=h
 refine GA.takeP 6 rfl trivial (OV.loadT (p:=((b16,0).1,(b16,0).2+1)) (cs:=Qd.c x25) rfl rfl rfl v26) ?_
 obtain ⟨x27,v28,h⟩:=h
 refine GA.takeP 7 rfl trivial (OV.loadT (p:=(b3,0)) (cs:=Qj.c x27) rfl rfl rfl v28) (GA.eff 8 rfl (by kernel_rfl) (GL.callP h (fun _ _ _ _ h=>h) trivial rfl QdP (vs:=[pv p_p,.agg (Qa.c x23).toArray,.agg (Qd.c x25).toArray,.agg (Qj.c x27).toArray]) rfl ?_))
 rintro _ H31 ⟨r30,rfl,h⟩
 obtain ⟨hle29,h⟩:=h
 refine GA.back hle29 (GA.takeP 9 rfl trivial (OV.build (vs:=[(0,sv x21),(1,.agg (Qd.c r30).toArray)]) (v:=.agg (Qf.c (⟨x21,r30⟩:Qf)).toArray) rfl (fun _=>by kernel_rfl)) (GA.eff 10 rfl (by kernel_rfl) (GL.buildSlice (cs:=(Qf.c (⟨x21,r30⟩:Qf))++[]) h trivial rfl (vs:=[(0,.agg (Qf.c (⟨x21,r30⟩:Qf)).toArray)]) rfl ⟨31,fun _=>by kernel_rfl⟩ ?_)))
 intro b33 H34 h
 obtain ⟨hle32,h⟩:=h
 refine GA.back hle32 (GA.eff 11 rfl (by kernel_rfl) (GL.appendS (s:=x5.1) (s2:=(Sl.of (some (b33,0)) 1 1)) (zc:=Qf.c Qf.zero) (bytes:=56) h trivial rfl rfl rfl ⟨⟨_,_,_,rfl,rfl,rfl,rfl,rfl,rfl⟩⟩ rfl ?_))
 intro r36 H37 h
 obtain ⟨hle35,h⟩:=h
 refine GA.back hle35 (GA.takeP 12 rfl trivial (OV.assign (v:=slv r36) rfl) (GA.done (by kernel_rfl) (GL.nil_to I3 (GC.region (Zi (.int .i64 (w .i64 (x5.2+1))) (Zm ?_))))))
 exact Yj I3 (r36,(w .i64 (x5.2+1))) h
 refine GC.exit_to I3 (Zo (Zm (Za (GL.nil ?_))))
 exact GC.ret (fun _ _ hf hs=>postP (E:=E) hf (Qg8 rfl rfl hf hs ⟨x5.1,rfl,h⟩))
def QdF (C:Ctx) (E:Value→Heap→Prop) (p_p:Option (Nat×Nat)) (p_m:Qa) (p_s:Str) (p_kind:Int) (p_pos:Qj) (K:Str→Heap→Prop) (H:Heap):Prop:=
 nw (Qa.c p_m) (fun b1 H2=>
 nw (Qj.c p_pos) (fun b3 H4=>
 Qdq C p_s [46] (fun r5 r6 r7 H8=>
 nw ([sv []]) (fun b9 H10=>
 st (b9,0) (sv r5) (fun H11=>
 jn (α:=Str) (fun x13 H14=>
 nck p_p fun p20=>
 ldM H14 (p20.1,p20.2+1) fun x22=>
 ldS H14 (b9,0) fun x24=>
 lkM kp3 (fun x:Bool=>(.bool x:Value)) false x22 ((⟨x24,x13,p_kind⟩:Qq).mod_,(⟨x24,x13,p_kind⟩:Qq).own_,(⟨x24,x13,p_kind⟩:Qq).kind_) (fun x26 is27=>
 ldS H14 (b9,0) fun x29=>
 ldS H14 ((b1,0).1,(b1,0).2+0) fun x31=>
 jn (α:=Bool) (fun b33 H46=>
 jn (α:=Unit) (fun x48 H49=>
 ldS H49 (b9,0) fun x58=>
 catOk x58 ([46]:Str)∧
 catOk (x58++([46]:Str)) x13∧
 K ((x58++([46]:Str))++x13) H49)
 (fun J47=>ift ((!is27) || (!b33))
 (ldT H46 Qa.c (b1,0) fun x53=>
 ldT H46 Qj.c (b3,0) fun x55=>
 QA C E x53 x55 63 (fun H57=>
 J47 () H57) H46)
 (J47 () H46)))
 (fun J34=>ift (x29 == x31)
 (J34 true H14)
 (jn (α:=Bool) (fun b37 H45=>
 J34 b37 H45)
 (fun J38=>ift x26
 (ldL H14 ((b1,0).1,(b1,0).2+1) fun x41=>
 Qp C x41 (.func (.func 157) (List.toArray []) (List.toArray [pv (some (b9,0))]):Value) (fun r43 H44=>
 J38 r43 H44) H14)
 (J38 false H14))))) H14)
 (fun J12=>ift (!r7)
 (ldS H11 ((b1,0).1,(b1,0).2+0) fun x17=>
 st (b9,0) (sv x17) (fun H19=>
 J12 p_s H19) H11)
 (J12 r6 H11))) H10) H8) H4) H2) H
theorem Qgu (C E p_p p_m p_s p_kind p_pos K H) (h:QdF C E p_p p_m p_s p_kind p_pos K H):Q3 C E p_p p_m p_s p_kind p_pos K H:=by
 refine SpecP.enter Tryz.func68 rfl Tryz.ntmps68 rfl (GC.sub [(0,pv p_p),(1,.agg (Qa.c p_m).toArray),(2,sv p_s),(3,.int .i64 p_kind),(4,.agg (Qj.c p_pos).toArray)] ⟨rfl,rfl,rfl,rfl,rfl,trivial⟩ (Zo (GL.box (v:=.agg (Qa.c p_m).toArray) (cs:=Qa.c p_m) h trivial rfl rfl rfl ?_)))
 intro b1 H2 h
 refine GL.box (v:=.agg (Qj.c p_pos).toArray) (cs:=Qj.c p_pos) h trivial rfl rfl rfl ?_
 intro b3 H4 h
 refine Za (GL.nil (Zo (Zm (Zc h Qe6 ?_))))
 rintro _ H8 ⟨r5,r6,r7,rfl,h⟩
 refine Zm (Yv (sv r5) rfl rfl (Yv (sv r6) rfl rfl (Yv (.bool r7) rfl rfl (GL.alloc (cs:=[sv []]) h trivial rfl rfl rfl ?_))))
 intro b9 H10 h
 refine GL.store (p:=(b9,0)) (v:=sv r5) h trivial rfl rfl rfl rfl ?_
 intro H11 h
 refine Za (Za (GL.nil ?_))
 obtain ⟨J12,h,hR15⟩:=h
 refine GC.join (α:=Str) J12 (fun x13=>[(12,sv x13),(0,pv p_p),(3,.int .i64 p_kind),(6,pv (some (b1,0))),(9,pv (some (b3,0))),(11,pv (some (b9,0)))]) ?_ ?_
 refine Zo (Zm (Zv (OV.not rfl) (GL.nil (Yd h (fun u16 h=>?_) fun u16 h=>?_))))
 refine GC.region (Zf (Yl h fun x17 h=>?_))
 refine Zm (GL.store (p:=(b9,0)) (v:=sv x17) h trivial rfl rfl rfl rfl ?_)
 intro H19 h
 refine Za ?_
 exact Yj I3 p_s h
 exact Yk I3 r6 h
 intro x13 H14 h
 replace h:=hR15 x13 H14 h
 refine GC.seq (GC.draw (by kernel_rfl) (by kernel_rfl) (GQ.val trivial rfl (OV.move (v:=pv p_p) rfl) ?_))
 obtain ⟨p20,hp21,h⟩:=h
 refine GQ.val trivial rfl (OV.nilCheck (q:=p_p) rfl hp21) (GQ.val trivial rfl (OV.fieldAddr (p:=p20) rfl rfl) ?_)
 obtain ⟨x22,v23,h⟩:=h
 refine GQ.val trivial rfl (OV.load (p:=(p20.1,p20.2+1)) rfl rfl v23) ?_
 obtain ⟨x24,v25,h⟩:=h
 refine GQ.val trivial rfl (OV.load (p:=(b9,0)) rfl rfl v25) (GQ.val trivial rfl (OV.move (v:=sv x13) rfl) (GQ.val trivial rfl (OV.move (v:=.int .i64 p_kind) rfl) (GQ.val trivial rfl (OV.build (vs:=[(0,sv x24),(1,sv x13),(2,.int .i64 p_kind)]) (v:=.agg (Qq.c (⟨x24,x13,p_kind⟩:Qq)).toArray) rfl (fun _=>by kernel_rfl)) ?_)))
 obtain ⟨x26,is27,v28,h⟩:=h
 refine GQ.val trivial rfl (OV.lookup2 (v:=.tuple #[.bool x26,.bool is27]) (ke:=kp3) (enc:=(fun x:Bool=>(.bool x:Value))) (z:=false) (q:=x22) (k:=((⟨x24,x13,p_kind⟩:Qq).mod_,(⟨x24,x13,p_kind⟩:Qq).own_,(⟨x24,x13,p_kind⟩:Qq).kind_)) (x:=x26) (b:=is27) rfl v28 rfl rfl rfl kOk206 rfl) (GQ.val trivial rfl (OV.move (v:=.tuple #[.bool x26,.bool is27]) rfl) (GQ.val trivial rfl (OV.extract (v:=.bool x26) rfl rfl) (GQ.val trivial rfl (OV.extract (v:=.bool is27) rfl rfl) (GQ.val trivial rfl (OV.assign (v:=.bool x26) rfl) (GQ.val trivial rfl (OV.assign (v:=.bool is27) rfl) (GQ.nil (GL.nil (Zo (Yl h fun x29 h=>?_)))))))))
 refine Zf (Yl h fun x31 h=>?_)
 refine Zv (OV.sbin (a:=x29) (b:=x31) (v:=.bool (x29 == x31)) rfl rfl rfl) (Zm ?_)
 obtain ⟨J34,h,hR35⟩:=h
 refine GL.cut (α:=Bool) 8 J34 (fun b33=>[(52,.bool b33),(6,pv (some (b1,0))),(9,pv (some (b3,0))),(11,pv (some (b9,0))),(12,sv x13),(15,.bool is27)]) ?_ ?_
 rcases h.em with ⟨u36,h⟩ | ⟨u36,h⟩
 refine Zk u36 (Zk u36 (GL.skip ⟨_,rfl,.inr rfl⟩ rfl (GL.skip ⟨_,rfl,.inr rfl⟩ rfl (GL.skip ⟨_,rfl,.inr rfl⟩ rfl (GL.skip ⟨_,rfl,.inr rfl⟩ rfl (Zk u36 (Zt u36 ?_)))))))
 exact Yj I3 true h
 refine Zu u36 Ym (Zu u36 Ym ?_)
 obtain ⟨J38,h,hR39⟩:=h
 refine GL.cut (α:=Bool) 5 J38 (fun b37=>[(51,.bool b37),(6,pv (some (b1,0))),(9,pv (some (b3,0))),(11,pv (some (b9,0))),(12,sv x13),(15,.bool is27),(44,.bool (x29 == x31))]) ?_ ?_
 rcases h.em with ⟨u40,h⟩ | ⟨u40,h⟩
 refine Zu u40 Yf ?_
 obtain ⟨x41,v42,h⟩:=h
 refine Zu u40 (Yo v42) (Zu u40 (OV.makeFunc (vs:=[]) (us:=[pv (some (b9,0))]) rfl rfl) (GL.call h (Yt u40) rfl Qy (vs:=[slv x41,.func (.func 157) (List.toArray []) (List.toArray [pv (some (b9,0))])]) rfl ?_))
 rintro _ H44 ⟨r43,rfl,h⟩
 refine Zu u36 (OV.pickT rfl u40 rfl) ?_
 exact Yj I3 r43 h
 refine Zk u40 (Zk u40 (Zk u40 (Zk u40 (Zu u36 (OV.pickF rfl u40 rfl) ?_))))
 exact Yj I3 false h
 intro b37 H45 h
 replace h:=hR39 b37 H45 h
 refine Zn u36 ?_
 exact Yj I3 b37 h
 intro b33 H46 h
 replace h:=hR35 b33 H46 h
 refine Za (GL.nil ?_)
 obtain ⟨J47,h,hR50⟩:=h
 refine GC.join (α:=Unit) J47 (fun _=>[(11,pv (some (b9,0))),(12,sv x13)]) ?_ ?_
 refine Zo (Zm (Zv (OV.not rfl) (Zm (GL.cut0 3 [(58,.bool ((!is27) || (!b33))),(6,pv (some (b1,0))),(9,pv (some (b3,0))),(11,pv (some (b9,0))),(12,sv x13)] ?_ ?_))))
 rcases Zb (!is27) with u51 | u51
 refine Zk u51 (Zk u51 (Zt u51 ?_))
 exact GL.jump0 I3 () rfl ⟨(by rw [u51]; rfl),rfl,rfl,rfl,rfl,trivial⟩
 refine Zu u51 Ym (Zu u51 (OV.not rfl) (Zn u51 ?_))
 exact GL.jump0 I3 () rfl ⟨(by rw [u51]; rfl),rfl,rfl,rfl,rfl,trivial⟩
 refine GL.nil (Yd h (fun u52 h=>?_) fun u52 h=>?_)
 refine GC.region ?_
 obtain ⟨x53,v54,h⟩:=h
 refine Zv (OV.loadT rfl rfl rfl v54) ?_
 obtain ⟨x55,v56,h⟩:=h
 refine Zv (OV.loadT rfl rfl rfl v56) (GL.callP h (fun _ _ _ _ h=>h) trivial rfl QV (vs:=[.agg (Qa.c x53).toArray,.agg (Qj.c x55).toArray,.int .i64 63]) rfl ?_)
 rintro _ H57 ⟨rfl,h⟩
 exact Yj I3 () h
 exact Yk I3 () h
 intro x48 H49 h
 replace h:=hR50 x48 H49 h
 refine Zo (Yl h fun x58 h=>?_)
 obtain ⟨hl60,h⟩:=h
 refine Zv (OV.cat (a:=x58) (b:=([46]:Str)) rfl rfl hl60) (Zm ?_)
 obtain ⟨hl61,h⟩:=h
 refine Zv (OV.cat (a:=(x58++([46]:Str))) (b:=x13) rfl rfl hl61) (Za (GL.nil ?_))
 exact GC.ret (fun _ _ hf hs=>postP (E:=E) hf (Qg8 rfl rfl hf hs ⟨((x58++([46]:Str))++x13),rfl,h⟩))
def QcP (C:Ctx) (p_s:Str) (p_prefix:Str) (K:Bool→Heap→Prop) (H:Heap):Prop:=
 Q2 C p_s p_prefix (fun r1 H2=>
 K r1 H2) H
theorem Qd1 (C p_s p_prefix K H) (h:QcP C p_s p_prefix K H):QbH C p_s p_prefix K H:=by
 refine Ye Tryz.func69 rfl Tryz.ntmps69 [(0,sv p_s),(1,sv p_prefix)] (Zo (Za (GL.nil (Zo (Zm (Zm (Zc h Qbe ?_)))))))
 rintro _ H2 ⟨r1,rfl,h⟩
 refine Za (GL.nil ?_)
 exact Y1 I3 ⟨r1,rfl,h⟩
def Qdv (C:Ctx) (E:Value→Heap→Prop) (p_p:Option (Nat×Nat)) (p_m:Qa) (p_l:Sl) (K:Sl→Heap→Prop) (H:Heap):Prop:=
 nw (Qa.c p_m) (fun b1 H2=>
 lp (α:=Sl×Int) (Sl.nil,0) H2 (fun x3 J4 H5=>
 ift (decide ((x3.2:Int) < (Sl.len p_l:Int)))
 (ixa p_l x3.2 fun p7=>
 ldT H5 Qh.c (p7.1,p7.2+(x3.2:Int).toNat*9) fun x12=>
 nw (Qh.c Qh.zero) (fun b14 H15=>
 stT (b14,0) (Qh.c x12) (fun H16=>
 jn (α:=Unit) (fun x18 H19=>
 ldT H19 Qa.c (b1,0) fun x33=>
 ldL H19 ((b14,0).1,(b14,0).2+8) fun x35=>
 Qab C E p_p x33 x35 (fun r37 H38=>
 st ((b14,0).1,(b14,0).2+8) (slv r37) (fun H39=>
 ldT H39 Qh.c (b14,0) fun x40=>
 apd (Qh.c Qh.zero) 120 x3.1 ((Qh.c x40)++[]) 1 (fun r42 H43=>
 J4 (r42,(w .i64 (x3.2+1))) H43) H39) H38) H19)
 (fun J17=>ldI H16 .u8 ((b14,0).1,(b14,0).2+0) fun x21=>
 ift ((x21:Int) == 5)
 (ldT H16 Qa.c (b1,0) fun x24=>
 ldS H16 ((b14,0).1,(b14,0).2+3) fun x26=>
 ldT H16 Qj.c ((b14,0).1,(b14,0).2+1) fun x28=>
 Q3 C E p_p x24 x26 1 x28 (fun r30 H31=>
 st ((b14,0).1,(b14,0).2+3) (sv r30) (fun H32=>
 J17 () H32) H31) H16)
 (J17 () H16))) H15) H5)
 (K x3.1 H5))) H
theorem QfW (C E p_p p_m p_l K H) (h:Qdv C E p_p p_m p_l K H):Qab C E p_p p_m p_l K H:=by
 refine SpecP.enter Tryz.func70 rfl Tryz.ntmps70 rfl (GC.sub [(0,pv p_p),(1,.agg (Qa.c p_m).toArray),(2,slv p_l)] ⟨rfl,rfl,rfl,trivial⟩ (Zo (GL.box (v:=.agg (Qa.c p_m).toArray) (cs:=Qa.c p_m) h trivial rfl rfl rfl ?_)))
 intro b1 H2 h
 refine Za (GL.nil (Zo (Za (GL.nil (GC.seq (Zo (Zm (Zq (Zm (GL.nil (GC.block (Yp h (fun x3=>[(7,slv x3.1),(12,.int .i64 x3.2),(0,pv p_p),(4,pv (some (b1,0))),(10,slv p_l),(11,.int .i64 (Sl.len p_l:Int))]) ?_))))))))))))
 intro x3 H5 J4 h
 refine Zo (Zi (.bool (decide ((x3.2:Int) < (Sl.len p_l:Int)))) (GL.nil (GC.seq (Yd h (fun u6 h=>?_) fun u6 h=>?_))))
 refine GC.skip (GC.seq (GC.block (Zo (Yx h fun p7 h=>?_))))
 obtain ⟨x12,v13,h⟩:=h
 refine Zv (OV.loadT rfl rfl rfl v13) (GL.alloc (cs:=Qh.c Qh.zero) h trivial rfl rfl rfl ?_)
 intro b14 H15 h
 refine GL.storeT (p:=(b14,0)) (vs:=Qh.c x12) h trivial rfl rfl rfl rfl ?_
 intro H16 h
 refine GL.nil ?_
 obtain ⟨J17,h,hR20⟩:=h
 refine GC.join (α:=Unit) J17 (fun _=>[(0,pv p_p),(4,pv (some (b1,0))),(7,slv x3.1),(9,pv (some (b14,0))),(10,slv p_l),(11,.int .i64 (Sl.len p_l:Int)),(12,.int .i64 x3.2)]) ?_ ?_
 refine Zo (Zf (Yl h fun x21 h=>?_))
 refine Zi (.bool ((x21:Int) == 5)) (GL.nil (Yd h (fun u23 h=>?_) fun u23 h=>?_))
 refine GC.region (Zm ?_)
 obtain ⟨x24,v25,h⟩:=h
 refine Zv (OV.loadT rfl rfl rfl v25) (Zf (Yl h fun x26 h=>?_))
 refine Zf ?_
 obtain ⟨x28,v29,h⟩:=h
 refine Zv (OV.loadT rfl rfl rfl v29) (GL.callP h (fun _ _ _ _ h=>h) trivial rfl Qa6 (vs:=[pv p_p,.agg (Qa.c x24).toArray,sv x26,.int .i64 1,.agg (Qj.c x28).toArray]) rfl ?_)
 rintro _ H31 ⟨r30,rfl,h⟩
 refine Zf (GL.store (p:=((b14,0).1,(b14,0).2+3)) (v:=sv r30) h trivial rfl rfl rfl rfl ?_)
 intro H32 h
 exact Yj I3 () h
 exact Yk I3 () h
 intro x18 H19 h
 replace h:=hR20 x18 H19 h
 refine Zo (Zm ?_)
 obtain ⟨x33,v34,h⟩:=h
 refine Zv (OV.loadT rfl rfl rfl v34) (Zf (Yl h fun x35 h=>?_))
 refine GL.callP h (fun _ _ _ _ h=>h) trivial rfl QbM (vs:=[pv p_p,.agg (Qa.c x33).toArray,slv x35]) rfl ?_
 rintro _ H38 ⟨r37,rfl,h⟩
 refine Zf (GL.store (p:=((b14,0).1,(b14,0).2+8)) (v:=slv r37) h trivial rfl rfl rfl rfl ?_)
 intro H39 h
 refine GL.nil (GC.region (Zm ?_))
 obtain ⟨x40,v41,h⟩:=h
 refine Zv (OV.loadT rfl rfl rfl v41) (GL.appendLit (s:=x3.1) (ys:=(Qh.c x40)++[]) (zc:=Qh.c Qh.zero) (bytes:=120) h trivial rfl (fun _=>trivial) rfl (fun _=>rfl) (fun _=>rfl) (vs:=[(0,.agg (Qh.c x40).toArray)]) rfl ⟨40,fun _=>by kernel_rfl⟩ ⟨⟨_,_,_,rfl,rfl,rfl,rfl,rfl,rfl⟩⟩ rfl rfl ?_)
 intro _ r42 H43 h
 refine Za (GL.nil_to I3 (GC.region (Zi (.int .i64 (w .i64 (x3.2+1))) (Zm ?_))))
 exact Yj I3 (r42,(w .i64 (x3.2+1))) h
 refine GC.exit_to I3 (Zo (Zm (Za (GL.nil ?_))))
 exact GC.ret (fun _ _ hf hs=>postP (E:=E) hf (Qg8 rfl rfl hf hs ⟨x3.1,rfl,h⟩))
def QdD (C:Ctx) (E:Value→Heap→Prop) (p_p:Option (Nat×Nat)) (p_m:Qa) (p_l:Sl) (K:Sl→Heap→Prop) (H:Heap):Prop:=
 nw (Qa.c p_m) (fun b1 H2=>
 lp (α:=Sl×Int) (Sl.nil,0) H2 (fun x3 J4 H5=>
 ift (decide ((x3.2:Int) < (Sl.len p_l:Int)))
 (ixa p_l x3.2 fun p7=>
 ldT H5 Qk.c (p7.1,p7.2+(x3.2:Int).toNat*5) fun x12=>
 nw (Qk.c Qk.zero) (fun b14 H15=>
 stT (b14,0) (Qk.c x12) (fun H16=>
 jn (α:=Unit) (fun x18 H19=>
 ldT H19 Qa.c (b1,0) fun x40=>
 ldL H19 ((b14,0).1,(b14,0).2+4) fun x42=>
 Qab C E p_p x40 x42 (fun r44 H45=>
 st ((b14,0).1,(b14,0).2+4) (slv r44) (fun H46=>
 ldT H46 Qk.c (b14,0) fun x47=>
 apd (Qk.c Qk.zero) 64 x3.1 ((Qk.c x47)++[]) 1 (fun r49 H50=>
 J4 (r49,(w .i64 (x3.2+1))) H50) H46) H45) H19)
 (fun J17=>ldI H16 .u8 ((b14,0).1,(b14,0).2+0) fun x21=>
 jn (α:=Bool) (fun b23 H29=>
 ift b23
 (ldT H29 Qa.c (b1,0) fun x31=>
 ldS H29 ((b14,0).1,(b14,0).2+3) fun x33=>
 ldT H29 Qj.c ((b14,0).1,(b14,0).2+1) fun x35=>
 Q3 C E p_p x31 x33 2 x35 (fun r37 H38=>
 st ((b14,0).1,(b14,0).2+3) (sv r37) (fun H39=>
 J17 () H39) H38) H29)
 (J17 () H29))
 (fun J24=>ift ((x21:Int) == 1)
 (J24 true H16)
 (ldI H16 .u8 ((b14,0).1,(b14,0).2+0) fun x27=>
 J24 ((x27:Int) == 2) H16)))) H15) H5)
 (K x3.1 H5))) H
theorem Qgs (C E p_p p_m p_l K H) (h:QdD C E p_p p_m p_l K H):Qah C E p_p p_m p_l K H:=by
 refine SpecP.enter Tryz.func71 rfl Tryz.ntmps71 rfl (GC.sub [(0,pv p_p),(1,.agg (Qa.c p_m).toArray),(2,slv p_l)] ⟨rfl,rfl,rfl,trivial⟩ (Zo (GL.box (v:=.agg (Qa.c p_m).toArray) (cs:=Qa.c p_m) h trivial rfl rfl rfl ?_)))
 intro b1 H2 h
 refine Za (GL.nil (Zo (Za (GL.nil (GC.seq (Zo (Zm (Zq (Zm (GL.nil (GC.block (Yp h (fun x3=>[(7,slv x3.1),(12,.int .i64 x3.2),(0,pv p_p),(4,pv (some (b1,0))),(10,slv p_l),(11,.int .i64 (Sl.len p_l:Int))]) ?_))))))))))))
 intro x3 H5 J4 h
 refine Zo (Zi (.bool (decide ((x3.2:Int) < (Sl.len p_l:Int)))) (GL.nil (GC.seq (Yd h (fun u6 h=>?_) fun u6 h=>?_))))
 refine GC.skip (GC.seq (GC.block (Zo (Yx h fun p7 h=>?_))))
 obtain ⟨x12,v13,h⟩:=h
 refine Zv (OV.loadT rfl rfl rfl v13) (GL.alloc (cs:=Qk.c Qk.zero) h trivial rfl rfl rfl ?_)
 intro b14 H15 h
 refine GL.storeT (p:=(b14,0)) (vs:=Qk.c x12) h trivial rfl rfl rfl rfl ?_
 intro H16 h
 refine GL.nil ?_
 obtain ⟨J17,h,hR20⟩:=h
 refine GC.join (α:=Unit) J17 (fun _=>[(0,pv p_p),(4,pv (some (b1,0))),(7,slv x3.1),(9,pv (some (b14,0))),(10,slv p_l),(11,.int .i64 (Sl.len p_l:Int)),(12,.int .i64 x3.2)]) ?_ ?_
 refine Zo (Zf (Yl h fun x21 h=>?_))
 refine Zi (.bool ((x21:Int) == 1)) (Zm ?_)
 obtain ⟨J24,h,hR25⟩:=h
 refine GL.cut (α:=Bool) 4 J24 (fun b23=>[(23,.bool b23),(0,pv p_p),(4,pv (some (b1,0))),(7,slv x3.1),(9,pv (some (b14,0))),(10,slv p_l),(11,.int .i64 (Sl.len p_l:Int)),(12,.int .i64 x3.2)]) ?_ ?_
 rcases h.em with ⟨u26,h⟩ | ⟨u26,h⟩
 refine Zk u26 (Zk u26 (Zk u26 (Zt u26 ?_)))
 exact Yj I3 true h
 refine Zu u26 Yf ?_
 obtain ⟨x27,v28,h⟩:=h
 refine Zu u26 (Yo v28) (Zu u26 (OV.ibin (v:=.bool ((x27:Int) == 2)) rfl rfl rfl) (Zn u26 ?_))
 exact Yj I3 ((x27:Int) == 2) h
 intro b23 H29 h
 replace h:=hR25 b23 H29 h
 refine GL.nil (Yd h (fun u30 h=>?_) fun u30 h=>?_)
 refine GC.region (Zm ?_)
 obtain ⟨x31,v32,h⟩:=h
 refine Zv (OV.loadT rfl rfl rfl v32) (Zf (Yl h fun x33 h=>?_))
 refine Zf ?_
 obtain ⟨x35,v36,h⟩:=h
 refine Zv (OV.loadT rfl rfl rfl v36) (GL.callP h (fun _ _ _ _ h=>h) trivial rfl Qa6 (vs:=[pv p_p,.agg (Qa.c x31).toArray,sv x33,.int .i64 2,.agg (Qj.c x35).toArray]) rfl ?_)
 rintro _ H38 ⟨r37,rfl,h⟩
 refine Zf (GL.store (p:=((b14,0).1,(b14,0).2+3)) (v:=sv r37) h trivial rfl rfl rfl rfl ?_)
 intro H39 h
 exact Yj I3 () h
 exact Yk I3 () h
 intro x18 H19 h
 replace h:=hR20 x18 H19 h
 refine Zo (Zm ?_)
 obtain ⟨x40,v41,h⟩:=h
 refine Zv (OV.loadT rfl rfl rfl v41) (Zf (Yl h fun x42 h=>?_))
 refine GL.callP h (fun _ _ _ _ h=>h) trivial rfl QbM (vs:=[pv p_p,.agg (Qa.c x40).toArray,slv x42]) rfl ?_
 rintro _ H45 ⟨r44,rfl,h⟩
 refine Zf (GL.store (p:=((b14,0).1,(b14,0).2+4)) (v:=slv r44) h trivial rfl rfl rfl rfl ?_)
 intro H46 h
 refine GL.nil (GC.region (Zm ?_))
 obtain ⟨x47,v48,h⟩:=h
 refine Zv (OV.loadT rfl rfl rfl v48) (GL.appendLit (s:=x3.1) (ys:=(Qk.c x47)++[]) (zc:=Qk.c Qk.zero) (bytes:=64) h trivial rfl (fun _=>trivial) rfl (fun _=>rfl) (fun _=>rfl) (vs:=[(0,.agg (Qk.c x47).toArray)]) rfl ⟨35,fun _=>by kernel_rfl⟩ ⟨⟨_,_,_,rfl,rfl,rfl,rfl,rfl,rfl⟩⟩ rfl rfl ?_)
 intro _ r49 H50 h
 refine Za (GL.nil_to I3 (GC.region (Zi (.int .i64 (w .i64 (x3.2+1))) (Zm ?_))))
 exact Yj I3 (r49,(w .i64 (x3.2+1))) h
 refine GC.exit_to I3 (Zo (Zm (Za (GL.nil ?_))))
 exact GC.ret (fun _ _ hf hs=>postP (E:=E) hf (Qg8 rfl rfl hf hs ⟨x3.1,rfl,h⟩))
end
section
set_option maxRecDepth 100000
open Go Go.Proofs
def QcA (C:Ctx) (p_l:Sl) (p_depth:Value) (K:Int→Heap→Prop) (H:Heap):Prop:=
 lp (α:=Int×Int) (0,0) H (fun x1 J2 H3=>
 ift (decide ((x1.2:Int) < (Sl.len p_l:Int)))
 (ixa p_l x1.2 fun p5=>
 ldT H3 Qb.c (p5.1,p5.2+(x1.2:Int).toNat*6) fun x10=>
 nw (Qb.c Qb.zero) (fun b12 H13=>
 stT (b12,0) (Qb.c x10) (fun H14=>
 ldT H14 Qb.c (b12,0) fun x15=>
 callU Tryz.prog C p_depth [.agg (Qb.c x15).toArray] H14 (fun v H18=>∃ (r17:Int),v=.int .i64 r17∧
 J2 ((if r17 > x1.1 then r17 else x1.1:Int),(w .i64 (x1.2+1))) H18)) H13) H3)
 (K x1.1 H3))
theorem Qek (C p_l p_depth K H) (h:QcA C p_l p_depth K H):QF C p_l p_depth K H:=by
 refine Ye Tryz.func104 rfl Tryz.ntmps104 [(0,slv p_l),(1,p_depth)] (Zo (Za (GL.nil (Zo (Za (GL.nil (GC.seq (Zo (Zm (Zq (Zm (GL.nil (GC.block (Yp h (fun x1=>[(5,.int .i64 x1.1),(10,.int .i64 x1.2),(1,p_depth),(8,slv p_l),(9,.int .i64 (Sl.len p_l:Int))]) ?_))))))))))))))
 intro x1 H3 J2 h
 refine Zo (Zi (.bool (decide ((x1.2:Int) < (Sl.len p_l:Int)))) (GL.nil (GC.seq (Yd h (fun u4 h=>?_) fun u4 h=>?_))))
 refine GC.skip (GC.seq (GC.block (Zo (Yx h fun p5 h=>?_))))
 obtain ⟨x10,v11,h⟩:=h
 refine Zv (OV.loadT rfl rfl rfl v11) (GL.alloc (cs:=Qb.c Qb.zero) h trivial rfl rfl rfl ?_)
 intro b12 H13 h
 refine GL.storeT (p:=(b12,0)) (vs:=Qb.c x10) h trivial rfl rfl rfl rfl ?_
 intro H14 h
 refine GL.nil (GC.region (Zm (Zm ?_)))
 obtain ⟨x15,v16,h⟩:=h
 refine Zv (OV.loadT rfl rfl rfl v16) (GL.callU (xv:=p_depth) (vs:=[.agg (Qb.c x15).toArray]) h trivial rfl rfl rfl ?_)
 rintro _ H18 ⟨r17,rfl,h⟩
 refine Zv (OV.maxI rfl rfl) (Za (GL.nil_to I3 (GC.region (Zi (.int .i64 (w .i64 (x1.2+1))) (Zm ?_)))))
 exact Yj I3 ((if r17 > x1.1 then r17 else x1.1:Int),(w .i64 (x1.2+1))) h
 refine GC.exit_to I3 (Zo (Zm (Za (GL.nil ?_))))
 exact Y1 I3 ⟨x1.1,rfl,h⟩
def QhM (C:Ctx) (p_t:Qb) (K:Int→Heap→Prop) (H:Heap):Prop:=
 nw (Qb.c p_t) (fun b1 H2=>
 ldL H2 ((b1,0).1,(b1,0).2+5) fun x3=>
 QE C x3 (.func (.func 107) (List.toArray []) (List.toArray []):Value) (fun r5 H6=>
 K r5 H6) H2) H
theorem Qkq (C p_t K H) (h:QhM C p_t K H):QcB C p_t K H:=by
 refine Ye Tryz.func105 rfl Tryz.ntmps105 [(0,.agg (Qb.c p_t).toArray)] (Zo (GL.box (v:=.agg (Qb.c p_t).toArray) (cs:=Qb.c p_t) h trivial rfl rfl rfl ?_))
 intro b1 H2 h
 refine Za (GL.nil (Zo (Zf (Yl h fun x3 h=>?_))))
 refine Zc h Qet ?_
 rintro _ H6 ⟨r5,rfl,h⟩
 refine Za (GL.nil ?_)
 exact Y1 I3 ⟨r5,rfl,h⟩
def Qcy (C:Ctx) (p_l:Sl) (p_depth:Value) (K:Int→Heap→Prop) (H:Heap):Prop:=
 lp (α:=Int×Int) (0,0) H (fun x1 J2 H3=>
 ift (decide ((x1.2:Int) < (Sl.len p_l:Int)))
 (ixa p_l x1.2 fun p5=>
 ldT H3 Qc.c (p5.1,p5.2+(x1.2:Int).toNat*2) fun x10=>
 nw (Qc.c Qc.zero) (fun b12 H13=>
 stT (b12,0) (Qc.c x10) (fun H14=>
 ldT H14 Qc.c (b12,0) fun x15=>
 callU Tryz.prog C p_depth [.agg (Qc.c x15).toArray] H14 (fun v H18=>∃ (r17:Int),v=.int .i64 r17∧
 J2 ((if r17 > x1.1 then r17 else x1.1:Int),(w .i64 (x1.2+1))) H18)) H13) H3)
 (K x1.1 H3))
theorem Qei (C p_l p_depth K H) (h:Qcy C p_l p_depth K H):QE C p_l p_depth K H:=by
 refine Ye Tryz.func106 rfl Tryz.ntmps106 [(0,slv p_l),(1,p_depth)] (Zo (Za (GL.nil (Zo (Za (GL.nil (GC.seq (Zo (Zm (Zq (Zm (GL.nil (GC.block (Yp h (fun x1=>[(5,.int .i64 x1.1),(10,.int .i64 x1.2),(1,p_depth),(8,slv p_l),(9,.int .i64 (Sl.len p_l:Int))]) ?_))))))))))))))
 intro x1 H3 J2 h
 refine Zo (Zi (.bool (decide ((x1.2:Int) < (Sl.len p_l:Int)))) (GL.nil (GC.seq (Yd h (fun u4 h=>?_) fun u4 h=>?_))))
 refine GC.skip (GC.seq (GC.block (Zo (Yx h fun p5 h=>?_))))
 obtain ⟨x10,v11,h⟩:=h
 refine Zv (OV.loadT rfl rfl rfl v11) (GL.alloc (cs:=Qc.c Qc.zero) h trivial rfl rfl rfl ?_)
 intro b12 H13 h
 refine GL.storeT (p:=(b12,0)) (vs:=Qc.c x10) h trivial rfl rfl rfl rfl ?_
 intro H14 h
 refine GL.nil (GC.region (Zm (Zm ?_)))
 obtain ⟨x15,v16,h⟩:=h
 refine Zv (OV.loadT rfl rfl rfl v16) (GL.callU (xv:=p_depth) (vs:=[.agg (Qc.c x15).toArray]) h trivial rfl rfl rfl ?_)
 rintro _ H18 ⟨r17,rfl,h⟩
 refine Zv (OV.maxI rfl rfl) (Za (GL.nil_to I3 (GC.region (Zi (.int .i64 (w .i64 (x1.2+1))) (Zm ?_)))))
 exact Yj I3 ((if r17 > x1.1 then r17 else x1.1:Int),(w .i64 (x1.2+1))) h
 refine GC.exit_to I3 (Zo (Zm (Za (GL.nil ?_))))
 exact Y1 I3 ⟨x1.1,rfl,h⟩
def Qgp (C:Ctx) (p_c:Qc) (K:Int→Heap→Prop) (H:Heap):Prop:=
 nw (Qc.c p_c) (fun b1 H2=>
 ldL H2 ((b1,0).1,(b1,0).2+1) fun x3=>
 Qt C x3 (.func (.func 109) (List.toArray []) (List.toArray []):Value) (fun r5 H6=>
 K r5 H6) H2) H
theorem Qja (C p_c K H) (h:Qgp C p_c K H):Qbw C p_c K H:=by
 refine Ye Tryz.func107 rfl Tryz.ntmps107 [(0,.agg (Qc.c p_c).toArray)] (Zo (GL.box (v:=.agg (Qc.c p_c).toArray) (cs:=Qc.c p_c) h trivial rfl rfl rfl ?_))
 intro b1 H2 h
 refine Za (GL.nil (Zo (Zf (Yl h fun x3 h=>?_))))
 refine Zc h Qce ?_
 rintro _ H6 ⟨r5,rfl,h⟩
 refine Za (GL.nil ?_)
 exact Y1 I3 ⟨r5,rfl,h⟩
def Qcg (C:Ctx) (p_l:Sl) (p_depth:Value) (K:Int→Heap→Prop) (H:Heap):Prop:=
 lp (α:=Int×Int) (0,0) H (fun x1 J2 H3=>
 ift (decide ((x1.2:Int) < (Sl.len p_l:Int)))
 (ixa p_l x1.2 fun p5=>
 ldT H3 Qf.c (p5.1,p5.2+(x1.2:Int).toNat*3) fun x10=>
 nw (Qf.c Qf.zero) (fun b12 H13=>
 stT (b12,0) (Qf.c x10) (fun H14=>
 ldT H14 Qf.c (b12,0) fun x15=>
 callU Tryz.prog C p_depth [.agg (Qf.c x15).toArray] H14 (fun v H18=>∃ (r17:Int),v=.int .i64 r17∧
 J2 ((if r17 > x1.1 then r17 else x1.1:Int),(w .i64 (x1.2+1))) H18)) H13) H3)
 (K x1.1 H3))
theorem Qec (C p_l p_depth K H) (h:Qcg C p_l p_depth K H):Qt C p_l p_depth K H:=by
 refine Ye Tryz.func108 rfl Tryz.ntmps108 [(0,slv p_l),(1,p_depth)] (Zo (Za (GL.nil (Zo (Za (GL.nil (GC.seq (Zo (Zm (Zq (Zm (GL.nil (GC.block (Yp h (fun x1=>[(5,.int .i64 x1.1),(10,.int .i64 x1.2),(1,p_depth),(8,slv p_l),(9,.int .i64 (Sl.len p_l:Int))]) ?_))))))))))))))
 intro x1 H3 J2 h
 refine Zo (Zi (.bool (decide ((x1.2:Int) < (Sl.len p_l:Int)))) (GL.nil (GC.seq (Yd h (fun u4 h=>?_) fun u4 h=>?_))))
 refine GC.skip (GC.seq (GC.block (Zo (Yx h fun p5 h=>?_))))
 obtain ⟨x10,v11,h⟩:=h
 refine Zv (OV.loadT rfl rfl rfl v11) (GL.alloc (cs:=Qf.c Qf.zero) h trivial rfl rfl rfl ?_)
 intro b12 H13 h
 refine GL.storeT (p:=(b12,0)) (vs:=Qf.c x10) h trivial rfl rfl rfl rfl ?_
 intro H14 h
 refine GL.nil (GC.region (Zm (Zm ?_)))
 obtain ⟨x15,v16,h⟩:=h
 refine Zv (OV.loadT rfl rfl rfl v16) (GL.callU (xv:=p_depth) (vs:=[.agg (Qf.c x15).toArray]) h trivial rfl rfl rfl ?_)
 rintro _ H18 ⟨r17,rfl,h⟩
 refine Zv (OV.maxI rfl rfl) (Za (GL.nil_to I3 (GC.region (Zi (.int .i64 (w .i64 (x1.2+1))) (Zm ?_)))))
 exact Yj I3 ((if r17 > x1.1 then r17 else x1.1:Int),(w .i64 (x1.2+1))) h
 refine GC.exit_to I3 (Zo (Zm (Za (GL.nil ?_))))
 exact Y1 I3 ⟨x1.1,rfl,h⟩
def QeQ (C:Ctx) (p_f:Qf) (K:Int→Heap→Prop) (H:Heap):Prop:=
 nw (Qf.c p_f) (fun b1 H2=>
 ldT H2 Qd.c ((b1,0).1,(b1,0).2+1) fun x3=>
 QaT C x3 (fun r5 H6=>
 K r5 H6) H2) H
theorem Qia (C p_f K H) (h:QeQ C p_f K H):Qa3 C p_f K H:=by
 refine Ye Tryz.func109 rfl Tryz.ntmps109 [(0,.agg (Qf.c p_f).toArray)] (Zo (GL.box (v:=.agg (Qf.c p_f).toArray) (cs:=Qf.c p_f) h trivial rfl rfl rfl ?_))
 intro b1 H2 h
 refine Za (GL.nil (Zo (Zf ?_)))
 obtain ⟨x3,v4,h⟩:=h
 refine Zv (OV.loadT rfl rfl rfl v4) (Zc h QfM ?_)
 rintro _ H6 ⟨r5,rfl,h⟩
 refine Za (GL.nil ?_)
 exact Y1 I3 ⟨r5,rfl,h⟩
def QcH (C:Ctx) (p_l:Sl) (p_depth:Value) (K:Int→Heap→Prop) (H:Heap):Prop:=
 lp (α:=Int×Int) (0,0) H (fun x1 J2 H3=>
 ift (decide ((x1.2:Int) < (Sl.len p_l:Int)))
 (ixa p_l x1.2 fun p5=>
 ldT H3 Qg.c (p5.1,p5.2+(x1.2:Int).toNat*6) fun x10=>
 nw (Qg.c Qg.zero) (fun b12 H13=>
 stT (b12,0) (Qg.c x10) (fun H14=>
 ldT H14 Qg.c (b12,0) fun x15=>
 callU Tryz.prog C p_depth [.agg (Qg.c x15).toArray] H14 (fun v H18=>∃ (r17:Int),v=.int .i64 r17∧
 J2 ((if r17 > x1.1 then r17 else x1.1:Int),(w .i64 (x1.2+1))) H18)) H13) H3)
 (K x1.1 H3))
theorem Qez (C p_l p_depth K H) (h:QcH C p_l p_depth K H):QI C p_l p_depth K H:=by
 refine Ye Tryz.func110 rfl Tryz.ntmps110 [(0,slv p_l),(1,p_depth)] (Zo (Za (GL.nil (Zo (Za (GL.nil (GC.seq (Zo (Zm (Zq (Zm (GL.nil (GC.block (Yp h (fun x1=>[(5,.int .i64 x1.1),(10,.int .i64 x1.2),(1,p_depth),(8,slv p_l),(9,.int .i64 (Sl.len p_l:Int))]) ?_))))))))))))))
 intro x1 H3 J2 h
 refine Zo (Zi (.bool (decide ((x1.2:Int) < (Sl.len p_l:Int)))) (GL.nil (GC.seq (Yd h (fun u4 h=>?_) fun u4 h=>?_))))
 refine GC.skip (GC.seq (GC.block (Zo (Yx h fun p5 h=>?_))))
 obtain ⟨x10,v11,h⟩:=h
 refine Zv (OV.loadT rfl rfl rfl v11) (GL.alloc (cs:=Qg.c Qg.zero) h trivial rfl rfl rfl ?_)
 intro b12 H13 h
 refine GL.storeT (p:=(b12,0)) (vs:=Qg.c x10) h trivial rfl rfl rfl rfl ?_
 intro H14 h
 refine GL.nil (GC.region (Zm (Zm ?_)))
 obtain ⟨x15,v16,h⟩:=h
 refine Zv (OV.loadT rfl rfl rfl v16) (GL.callU (xv:=p_depth) (vs:=[.agg (Qg.c x15).toArray]) h trivial rfl rfl rfl ?_)
 rintro _ H18 ⟨r17,rfl,h⟩
 refine Zv (OV.maxI rfl rfl) (Za (GL.nil_to I3 (GC.region (Zi (.int .i64 (w .i64 (x1.2+1))) (Zm ?_)))))
 exact Yj I3 ((if r17 > x1.1 then r17 else x1.1:Int),(w .i64 (x1.2+1))) h
 refine GC.exit_to I3 (Zo (Zm (Za (GL.nil ?_))))
 exact Y1 I3 ⟨x1.1,rfl,h⟩
def QhN (C:Ctx) (p_x:Qg) (K:Int→Heap→Prop) (H:Heap):Prop:=
 nw (Qg.c p_x) (fun b1 H2=>
 ldL H2 ((b1,0).1,(b1,0).2+5) fun x3=>
 Qt C x3 (.func (.func 109) (List.toArray []) (List.toArray []):Value) (fun r5 H6=>
 K r5 H6) H2) H
theorem Qkr (C p_x K H) (h:QhN C p_x K H):QcC C p_x K H:=by
 refine Ye Tryz.func111 rfl Tryz.ntmps111 [(0,.agg (Qg.c p_x).toArray)] (Zo (GL.box (v:=.agg (Qg.c p_x).toArray) (cs:=Qg.c p_x) h trivial rfl rfl rfl ?_))
 intro b1 H2 h
 refine Za (GL.nil (Zo (Zf (Yl h fun x3 h=>?_))))
 refine Zc h Qce ?_
 rintro _ H6 ⟨r5,rfl,h⟩
 refine Za (GL.nil ?_)
 exact Y1 I3 ⟨r5,rfl,h⟩
def Qdh (C:Ctx) (p_l:Sl) (p_depth:Value) (K:Int→Heap→Prop) (H:Heap):Prop:=
 lp (α:=Int×Int) (0,0) H (fun x1 J2 H3=>
 ift (decide ((x1.2:Int) < (Sl.len p_l:Int)))
 (ixa p_l x1.2 fun p5=>
 ldT H3 Qi.c (p5.1,p5.2+(x1.2:Int).toNat*6) fun x10=>
 nw (Qi.c Qi.zero) (fun b12 H13=>
 stT (b12,0) (Qi.c x10) (fun H14=>
 ldT H14 Qi.c (b12,0) fun x15=>
 callU Tryz.prog C p_depth [.agg (Qi.c x15).toArray] H14 (fun v H18=>∃ (r17:Int),v=.int .i64 r17∧
 J2 ((if r17 > x1.1 then r17 else x1.1:Int),(w .i64 (x1.2+1))) H18)) H13) H3)
 (K x1.1 H3))
theorem Qfq (C p_l p_depth K H) (h:Qdh C p_l p_depth K H):QR C p_l p_depth K H:=by
 refine Ye Tryz.func112 rfl Tryz.ntmps112 [(0,slv p_l),(1,p_depth)] (Zo (Za (GL.nil (Zo (Za (GL.nil (GC.seq (Zo (Zm (Zq (Zm (GL.nil (GC.block (Yp h (fun x1=>[(5,.int .i64 x1.1),(10,.int .i64 x1.2),(1,p_depth),(8,slv p_l),(9,.int .i64 (Sl.len p_l:Int))]) ?_))))))))))))))
 intro x1 H3 J2 h
 refine Zo (Zi (.bool (decide ((x1.2:Int) < (Sl.len p_l:Int)))) (GL.nil (GC.seq (Yd h (fun u4 h=>?_) fun u4 h=>?_))))
 refine GC.skip (GC.seq (GC.block (Zo (Yx h fun p5 h=>?_))))
 obtain ⟨x10,v11,h⟩:=h
 refine Zv (OV.loadT rfl rfl rfl v11) (GL.alloc (cs:=Qi.c Qi.zero) h trivial rfl rfl rfl ?_)
 intro b12 H13 h
 refine GL.storeT (p:=(b12,0)) (vs:=Qi.c x10) h trivial rfl rfl rfl rfl ?_
 intro H14 h
 refine GL.nil (GC.region (Zm (Zm ?_)))
 obtain ⟨x15,v16,h⟩:=h
 refine Zv (OV.loadT rfl rfl rfl v16) (GL.callU (xv:=p_depth) (vs:=[.agg (Qi.c x15).toArray]) h trivial rfl rfl rfl ?_)
 rintro _ H18 ⟨r17,rfl,h⟩
 refine Zv (OV.maxI rfl rfl) (Za (GL.nil_to I3 (GC.region (Zi (.int .i64 (w .i64 (x1.2+1))) (Zm ?_)))))
 exact Yj I3 ((if r17 > x1.1 then r17 else x1.1:Int),(w .i64 (x1.2+1))) h
 refine GC.exit_to I3 (Zo (Zm (Za (GL.nil ?_))))
 exact Y1 I3 ⟨x1.1,rfl,h⟩
def QhO (C:Ctx) (p_x:Qi) (K:Int→Heap→Prop) (H:Heap):Prop:=
 nw (Qi.c p_x) (fun b1 H2=>
 dr H2 fun Hs3=>
 ldL Hs3 ((b1,0).1,(b1,0).2+3) fun x5=>
 ldL Hs3 ((b1,0).1,(b1,0).2+5) fun x7=>
 Qw C x5 (.func (.func 115) (List.toArray []) (List.toArray []):Value) (fun r10 H11=>
 Heap.le Hs3 H11∧
 Qu C x7 (.func (.func 117) (List.toArray []) (List.toArray []):Value) (fun r13 H14=>
 Heap.le Hs3 H14∧
 K (if r13 > r10 then r13 else r10:Int) H14) H11) H2) H
theorem Qks (C p_x K H) (h:QhO C p_x K H):QcD C p_x K H:=by
 refine Ye Tryz.func113 rfl Tryz.ntmps113 [(0,.agg (Qi.c p_x).toArray)] (Zo (GL.box (v:=.agg (Qi.c p_x).toArray) (cs:=Qi.c p_x) h trivial rfl rfl rfl ?_))
 intro b1 H2 h
 refine Za (GL.nil (GC.seq ?_))
 obtain ⟨Hs3,hle4,h⟩:=h
 refine GC.any (Hs:=Hs3) (by kernel_rfl) hle4 (Zp 0 rfl Yf ?_)
 obtain ⟨x5,v6,h⟩:=h
 refine Zp 1 rfl (Yo v6) (Zp 3 rfl Yf ?_)
 obtain ⟨x7,v8,h⟩:=h
 refine Zp 4 rfl (Yo v8) (GA.eff 2 rfl (by kernel_rfl) (Zc h Qbz ?_))
 rintro _ H11 ⟨r10,rfl,h⟩
 obtain ⟨hle9,h⟩:=h
 refine GA.back hle9 (GA.eff 5 rfl (by kernel_rfl) (Zc h Qct ?_))
 rintro _ H14 ⟨r13,rfl,h⟩
 obtain ⟨hle12,h⟩:=h
 refine GA.back hle12 (Zp 6 rfl (OV.maxI rfl rfl) (Zp 7 rfl Ya (GA.done (by kernel_rfl) (GL.nil ?_))))
 exact Y1 I3 ⟨(if r13 > r10 then r13 else r10:Int),rfl,h⟩
def Qdg (C:Ctx) (p_l:Sl) (p_depth:Value) (K:Int→Heap→Prop) (H:Heap):Prop:=
 lp (α:=Int×Int) (0,0) H (fun x1 J2 H3=>
 ift (decide ((x1.2:Int) < (Sl.len p_l:Int)))
 (ixa p_l x1.2 fun p5=>
 ldT H3 Qh.c (p5.1,p5.2+(x1.2:Int).toNat*9) fun x10=>
 nw (Qh.c Qh.zero) (fun b12 H13=>
 stT (b12,0) (Qh.c x10) (fun H14=>
 ldT H14 Qh.c (b12,0) fun x15=>
 callU Tryz.prog C p_depth [.agg (Qh.c x15).toArray] H14 (fun v H18=>∃ (r17:Int),v=.int .i64 r17∧
 J2 ((if r17 > x1.1 then r17 else x1.1:Int),(w .i64 (x1.2+1))) H18)) H13) H3)
 (K x1.1 H3))
theorem Qfp (C p_l p_depth K H) (h:Qdg C p_l p_depth K H):Qw C p_l p_depth K H:=by
 refine Ye Tryz.func114 rfl Tryz.ntmps114 [(0,slv p_l),(1,p_depth)] (Zo (Za (GL.nil (Zo (Za (GL.nil (GC.seq (Zo (Zm (Zq (Zm (GL.nil (GC.block (Yp h (fun x1=>[(5,.int .i64 x1.1),(10,.int .i64 x1.2),(1,p_depth),(8,slv p_l),(9,.int .i64 (Sl.len p_l:Int))]) ?_))))))))))))))
 intro x1 H3 J2 h
 refine Zo (Zi (.bool (decide ((x1.2:Int) < (Sl.len p_l:Int)))) (GL.nil (GC.seq (Yd h (fun u4 h=>?_) fun u4 h=>?_))))
 refine GC.skip (GC.seq (GC.block (Zo (Yx h fun p5 h=>?_))))
 obtain ⟨x10,v11,h⟩:=h
 refine Zv (OV.loadT rfl rfl rfl v11) (GL.alloc (cs:=Qh.c Qh.zero) h trivial rfl rfl rfl ?_)
 intro b12 H13 h
 refine GL.storeT (p:=(b12,0)) (vs:=Qh.c x10) h trivial rfl rfl rfl rfl ?_
 intro H14 h
 refine GL.nil (GC.region (Zm (Zm ?_)))
 obtain ⟨x15,v16,h⟩:=h
 refine Zv (OV.loadT rfl rfl rfl v16) (GL.callU (xv:=p_depth) (vs:=[.agg (Qh.c x15).toArray]) h trivial rfl rfl rfl ?_)
 rintro _ H18 ⟨r17,rfl,h⟩
 refine Zv (OV.maxI rfl rfl) (Za (GL.nil_to I3 (GC.region (Zi (.int .i64 (w .i64 (x1.2+1))) (Zm ?_)))))
 exact Yj I3 ((if r17 > x1.1 then r17 else x1.1:Int),(w .i64 (x1.2+1))) h
 refine GC.exit_to I3 (Zo (Zm (Za (GL.nil ?_))))
 exact Y1 I3 ⟨x1.1,rfl,h⟩
def QiA (C:Ctx) (p_e:Qh) (K:Int→Heap→Prop) (H:Heap):Prop:=
 nw (Qh.c p_e) (fun b1 H2=>
 ldL H2 ((b1,0).1,(b1,0).2+8) fun x3=>
 Qw C x3 (.func (.func 115) (List.toArray []) (List.toArray []):Value) (fun r5 H6=>
 K (w .i64 (1+r5)) H6) H2) H
theorem Qlh (C p_e K H) (h:QiA C p_e K H):Qc3 C p_e K H:=by
 refine Ye Tryz.func115 rfl Tryz.ntmps115 [(0,.agg (Qh.c p_e).toArray)] (Zo (GL.box (v:=.agg (Qh.c p_e).toArray) (cs:=Qh.c p_e) h trivial rfl rfl rfl ?_))
 intro b1 H2 h
 refine Za (GL.nil (Zo (Zf (Yl h fun x3 h=>?_))))
 refine Zc h Qbz ?_
 rintro _ H6 ⟨r5,rfl,h⟩
 refine Zi (.int .i64 (w .i64 (1+r5))) (Za (GL.nil ?_))
 exact Y1 I3 ⟨(w .i64 (1+r5)),rfl,h⟩
def Qcz (C:Ctx) (p_l:Sl) (p_depth:Value) (K:Int→Heap→Prop) (H:Heap):Prop:=
 lp (α:=Int×Int) (0,0) H (fun x1 J2 H3=>
 ift (decide ((x1.2:Int) < (Sl.len p_l:Int)))
 (ixa p_l x1.2 fun p5=>
 ldT H3 Qk.c (p5.1,p5.2+(x1.2:Int).toNat*5) fun x10=>
 nw (Qk.c Qk.zero) (fun b12 H13=>
 stT (b12,0) (Qk.c x10) (fun H14=>
 ldT H14 Qk.c (b12,0) fun x15=>
 callU Tryz.prog C p_depth [.agg (Qk.c x15).toArray] H14 (fun v H18=>∃ (r17:Int),v=.int .i64 r17∧
 J2 ((if r17 > x1.1 then r17 else x1.1:Int),(w .i64 (x1.2+1))) H18)) H13) H3)
 (K x1.1 H3))
theorem Qej (C p_l p_depth K H) (h:Qcz C p_l p_depth K H):Qu C p_l p_depth K H:=by
 refine Ye Tryz.func116 rfl Tryz.ntmps116 [(0,slv p_l),(1,p_depth)] (Zo (Za (GL.nil (Zo (Za (GL.nil (GC.seq (Zo (Zm (Zq (Zm (GL.nil (GC.block (Yp h (fun x1=>[(5,.int .i64 x1.1),(10,.int .i64 x1.2),(1,p_depth),(8,slv p_l),(9,.int .i64 (Sl.len p_l:Int))]) ?_))))))))))))))
 intro x1 H3 J2 h
 refine Zo (Zi (.bool (decide ((x1.2:Int) < (Sl.len p_l:Int)))) (GL.nil (GC.seq (Yd h (fun u4 h=>?_) fun u4 h=>?_))))
 refine GC.skip (GC.seq (GC.block (Zo (Yx h fun p5 h=>?_))))
 obtain ⟨x10,v11,h⟩:=h
 refine Zv (OV.loadT rfl rfl rfl v11) (GL.alloc (cs:=Qk.c Qk.zero) h trivial rfl rfl rfl ?_)
 intro b12 H13 h
 refine GL.storeT (p:=(b12,0)) (vs:=Qk.c x10) h trivial rfl rfl rfl rfl ?_
 intro H14 h
 refine GL.nil (GC.region (Zm (Zm ?_)))
 obtain ⟨x15,v16,h⟩:=h
 refine Zv (OV.loadT rfl rfl rfl v16) (GL.callU (xv:=p_depth) (vs:=[.agg (Qk.c x15).toArray]) h trivial rfl rfl rfl ?_)
 rintro _ H18 ⟨r17,rfl,h⟩
 refine Zv (OV.maxI rfl rfl) (Za (GL.nil_to I3 (GC.region (Zi (.int .i64 (w .i64 (x1.2+1))) (Zm ?_)))))
 exact Yj I3 ((if r17 > x1.1 then r17 else x1.1:Int),(w .i64 (x1.2+1))) h
 refine GC.exit_to I3 (Zo (Zm (Za (GL.nil ?_))))
 exact Y1 I3 ⟨x1.1,rfl,h⟩
def Qd9 (C:Ctx) (p_x:Qk) (K:Int→Heap→Prop) (H:Heap):Prop:=
 nw (Qk.c p_x) (fun b1 H2=>
 ldL H2 ((b1,0).1,(b1,0).2+4) fun x3=>
 Qw C x3 (.func (.func 115) (List.toArray []) (List.toArray []):Value) (fun r5 H6=>
 K r5 H6) H2) H
theorem Qhz (C p_x K H) (h:Qd9 C p_x K H):QaD C p_x K H:=by
 refine Ye Tryz.func117 rfl Tryz.ntmps117 [(0,.agg (Qk.c p_x).toArray)] (Zo (GL.box (v:=.agg (Qk.c p_x).toArray) (cs:=Qk.c p_x) h trivial rfl rfl rfl ?_))
 intro b1 H2 h
 refine Za (GL.nil (Zo (Zf (Yl h fun x3 h=>?_))))
 refine Zc h Qbz ?_
 rintro _ H6 ⟨r5,rfl,h⟩
 refine Za (GL.nil ?_)
 exact Y1 I3 ⟨r5,rfl,h⟩
def QcY (C:Ctx) (p_l:Sl) (p_depth:Value) (K:Int→Heap→Prop) (H:Heap):Prop:=
 lp (α:=Int×Int) (0,0) H (fun x1 J2 H3=>
 ift (decide ((x1.2:Int) < (Sl.len p_l:Int)))
 (ixa p_l x1.2 fun p5=>
 ldT H3 Ql.c (p5.1,p5.2+(x1.2:Int).toNat*4) fun x10=>
 nw (Ql.c Ql.zero) (fun b12 H13=>
 stT (b12,0) (Ql.c x10) (fun H14=>
 ldT H14 Ql.c (b12,0) fun x15=>
 callU Tryz.prog C p_depth [.agg (Ql.c x15).toArray] H14 (fun v H18=>∃ (r17:Int),v=.int .i64 r17∧
 J2 ((if r17 > x1.1 then r17 else x1.1:Int),(w .i64 (x1.2+1))) H18)) H13) H3)
 (K x1.1 H3))
theorem Qe0 (C p_l p_depth K H) (h:QcY C p_l p_depth K H):QL C p_l p_depth K H:=by
 refine Ye Tryz.func118 rfl Tryz.ntmps118 [(0,slv p_l),(1,p_depth)] (Zo (Za (GL.nil (Zo (Za (GL.nil (GC.seq (Zo (Zm (Zq (Zm (GL.nil (GC.block (Yp h (fun x1=>[(5,.int .i64 x1.1),(10,.int .i64 x1.2),(1,p_depth),(8,slv p_l),(9,.int .i64 (Sl.len p_l:Int))]) ?_))))))))))))))
 intro x1 H3 J2 h
 refine Zo (Zi (.bool (decide ((x1.2:Int) < (Sl.len p_l:Int)))) (GL.nil (GC.seq (Yd h (fun u4 h=>?_) fun u4 h=>?_))))
 refine GC.skip (GC.seq (GC.block (Zo (Yx h fun p5 h=>?_))))
 obtain ⟨x10,v11,h⟩:=h
 refine Zv (OV.loadT rfl rfl rfl v11) (GL.alloc (cs:=Ql.c Ql.zero) h trivial rfl rfl rfl ?_)
 intro b12 H13 h
 refine GL.storeT (p:=(b12,0)) (vs:=Ql.c x10) h trivial rfl rfl rfl rfl ?_
 intro H14 h
 refine GL.nil (GC.region (Zm (Zm ?_)))
 obtain ⟨x15,v16,h⟩:=h
 refine Zv (OV.loadT rfl rfl rfl v16) (GL.callU (xv:=p_depth) (vs:=[.agg (Ql.c x15).toArray]) h trivial rfl rfl rfl ?_)
 rintro _ H18 ⟨r17,rfl,h⟩
 refine Zv (OV.maxI rfl rfl) (Za (GL.nil_to I3 (GC.region (Zi (.int .i64 (w .i64 (x1.2+1))) (Zm ?_)))))
 exact Yj I3 ((if r17 > x1.1 then r17 else x1.1:Int),(w .i64 (x1.2+1))) h
 refine GC.exit_to I3 (Zo (Zm (Za (GL.nil ?_))))
 exact Y1 I3 ⟨x1.1,rfl,h⟩
def QhP (C:Ctx) (p_x:Ql) (K:Int→Heap→Prop) (H:Heap):Prop:=
 nw (Ql.c p_x) (fun b1 H2=>
 ldL H2 ((b1,0).1,(b1,0).2+3) fun x3=>
 Qu C x3 (.func (.func 117) (List.toArray []) (List.toArray []):Value) (fun r5 H6=>
 K r5 H6) H2) H
theorem Qkt (C p_x K H) (h:QhP C p_x K H):QcE C p_x K H:=by
 refine Ye Tryz.func119 rfl Tryz.ntmps119 [(0,.agg (Ql.c p_x).toArray)] (Zo (GL.box (v:=.agg (Ql.c p_x).toArray) (cs:=Ql.c p_x) h trivial rfl rfl rfl ?_))
 intro b1 H2 h
 refine Za (GL.nil (Zo (Zf (Yl h fun x3 h=>?_))))
 refine Zc h Qct ?_
 rintro _ H6 ⟨r5,rfl,h⟩
 refine Za (GL.nil ?_)
 exact Y1 I3 ⟨r5,rfl,h⟩
def Qi4 (C:Ctx) (p_s:Str) (K:Bool→Heap→Prop) (H:Heap):Prop:=
 lp (α:=Int) 0 H (fun x1 J2 H3=>
 ift (decide ((x1:Int) < (List.length p_s:Int)))
 (ixs p_s x1 fun c5=>
 ift (!(((((decide (((c5.toNat:Int):Int) ≥ 97)) && (decide (((c5.toNat:Int):Int)≤122))) || ((decide (((c5.toNat:Int):Int) ≥ 65)) && (decide (((c5.toNat:Int):Int)≤90)))) || ((decide (((c5.toNat:Int):Int) ≥ 48)) && (decide (((c5.toNat:Int):Int)≤57)))) || (((c5.toNat:Int):Int) == 95)))
 (K false H3)
 (J2 (w .i64 (x1+1)) H3))
 (K (decide (((List.length p_s:Int):Int)≤32)) H3))
theorem QlX (C p_s K H) (h:Qi4 C p_s K H):Qf9 C p_s K H:=by
 refine Ye Tryz.func120 rfl Tryz.ntmps120 [(0,sv p_s)] (Zo (Za (GL.nil (GC.seq (Zo (Zm (Zr (Zm (GL.nil (GC.block (Yp h (fun x1=>[(7,.int .i64 x1),(0,sv p_s),(6,.int .i64 (List.length p_s:Int))]) ?_)))))))))))
 intro x1 H3 J2 h
 refine Zo (Zi (.bool (decide ((x1:Int) < (List.length p_s:Int)))) (GL.nil (GC.seq (Yd h (fun hc4 h=>?_) fun hc4 h=>?_))))
 refine GC.skip (GC.seq (GC.block (Zo (Zm (Za (GL.nil (Zo (Zm (Zm (Ys h fun c5 h=>?_))))))))))
 refine Za (GL.nil (Zo (Zm (Zi (.bool (decide (((c5.toNat:Int):Int) ≥ 97))) (Zm (GL.cut0 3 [(18,.bool ((decide (((c5.toNat:Int):Int) ≥ 97)) && (decide (((c5.toNat:Int):Int)≤122)))),(0,sv p_s),(4,.int .u8 (c5.toNat:Int)),(6,.int .i64 (List.length p_s:Int)),(7,.int .i64 x1)] ?_ ?_))))))
 rcases Zb (decide (((c5.toNat:Int):Int) ≥ 97)) with hc8 | hc8
 refine Zu hc8 Ym (Zu hc8 (OV.ibin (v:=.bool (decide (((c5.toNat:Int):Int)≤122))) rfl rfl rfl) (Zt hc8 ?_))
 exact GL.jump0 I3 () rfl ⟨(by rw [hc8]; rfl),rfl,rfl,rfl,rfl,trivial⟩
 refine Zk hc8 (Zk hc8 (Zn hc8 ?_))
 exact GL.jump0 I3 () rfl ⟨(by rw [hc8]; rfl),rfl,rfl,rfl,rfl,trivial⟩
 refine Zm (GL.cut0 7 [(26,.bool (((decide (((c5.toNat:Int):Int) ≥ 97)) && (decide (((c5.toNat:Int):Int)≤122))) || ((decide (((c5.toNat:Int):Int) ≥ 65)) && (decide (((c5.toNat:Int):Int)≤90))))),(0,sv p_s),(4,.int .u8 (c5.toNat:Int)),(6,.int .i64 (List.length p_s:Int)),(7,.int .i64 x1)] ?_ ?_)
 rcases Zb ((decide (((c5.toNat:Int):Int) ≥ 97)) && (decide (((c5.toNat:Int):Int)≤122))) with hc9 | hc9
 refine Zk hc9 (Zk hc9 (Zk hc9 (GL.skip ⟨_,rfl,.inr rfl⟩ rfl (GL.skip ⟨_,rfl,.inr rfl⟩ rfl (Zk hc9 (Zt hc9 ?_))))))
 exact GL.jump0 I3 () rfl ⟨(by rw [hc9]; rfl),rfl,rfl,rfl,rfl,trivial⟩
 refine Zu hc9 Ym (Zu hc9 (OV.ibin (v:=.bool (decide (((c5.toNat:Int):Int) ≥ 65))) rfl rfl rfl) (Zu hc9 Ym (GL.cut0 3 [(25,.bool ((decide (((c5.toNat:Int):Int) ≥ 65)) && (decide (((c5.toNat:Int):Int)≤90)))),(0,sv p_s),(4,.int .u8 (c5.toNat:Int)),(6,.int .i64 (List.length p_s:Int)),(7,.int .i64 x1),(19,.bool ((decide (((c5.toNat:Int):Int) ≥ 97)) && (decide (((c5.toNat:Int):Int)≤122))))] ?_ ?_)))
 rcases Zb (decide (((c5.toNat:Int):Int) ≥ 65)) with hc10 | hc10
 refine Zu hc10 Ym (Zu hc10 (OV.ibin (v:=.bool (decide (((c5.toNat:Int):Int)≤90))) rfl rfl rfl) (Zu hc9 (OV.pickT rfl hc10 rfl) ?_))
 exact GL.jump0 I3 () rfl ⟨(by rw [hc10]; rfl),rfl,rfl,rfl,rfl,rfl,trivial⟩
 refine Zk hc10 (Zk hc10 (Zu hc9 (OV.pickF rfl hc10 rfl) ?_))
 exact GL.jump0 I3 () rfl ⟨(by rw [hc10]; rfl),rfl,rfl,rfl,rfl,rfl,trivial⟩
 refine Zn hc9 ?_
 exact GL.jump0 I3 () rfl ⟨(by rw [hc9]; rfl),rfl,rfl,rfl,rfl,trivial⟩
 refine Zm (GL.cut0 7 [(34,.bool ((((decide (((c5.toNat:Int):Int) ≥ 97)) && (decide (((c5.toNat:Int):Int)≤122))) || ((decide (((c5.toNat:Int):Int) ≥ 65)) && (decide (((c5.toNat:Int):Int)≤90)))) || ((decide (((c5.toNat:Int):Int) ≥ 48)) && (decide (((c5.toNat:Int):Int)≤57))))),(0,sv p_s),(4,.int .u8 (c5.toNat:Int)),(6,.int .i64 (List.length p_s:Int)),(7,.int .i64 x1)] ?_ ?_)
 rcases Zb (((decide (((c5.toNat:Int):Int) ≥ 97)) && (decide (((c5.toNat:Int):Int)≤122))) || ((decide (((c5.toNat:Int):Int) ≥ 65)) && (decide (((c5.toNat:Int):Int)≤90)))) with hc11 | hc11
 refine Zk hc11 (Zk hc11 (Zk hc11 (GL.skip ⟨_,rfl,.inr rfl⟩ rfl (GL.skip ⟨_,rfl,.inr rfl⟩ rfl (Zk hc11 (Zt hc11 ?_))))))
 exact GL.jump0 I3 () rfl ⟨(by rw [hc11]; rfl),rfl,rfl,rfl,rfl,trivial⟩
 refine Zu hc11 Ym (Zu hc11 (OV.ibin (v:=.bool (decide (((c5.toNat:Int):Int) ≥ 48))) rfl rfl rfl) (Zu hc11 Ym (GL.cut0 3 [(33,.bool ((decide (((c5.toNat:Int):Int) ≥ 48)) && (decide (((c5.toNat:Int):Int)≤57)))),(0,sv p_s),(4,.int .u8 (c5.toNat:Int)),(6,.int .i64 (List.length p_s:Int)),(7,.int .i64 x1),(27,.bool (((decide (((c5.toNat:Int):Int) ≥ 97)) && (decide (((c5.toNat:Int):Int)≤122))) || ((decide (((c5.toNat:Int):Int) ≥ 65)) && (decide (((c5.toNat:Int):Int)≤90)))))] ?_ ?_)))
 rcases Zb (decide (((c5.toNat:Int):Int) ≥ 48)) with hc12 | hc12
 refine Zu hc12 Ym (Zu hc12 (OV.ibin (v:=.bool (decide (((c5.toNat:Int):Int)≤57))) rfl rfl rfl) (Zu hc11 (OV.pickT rfl hc12 rfl) ?_))
 exact GL.jump0 I3 () rfl ⟨(by rw [hc12]; rfl),rfl,rfl,rfl,rfl,rfl,trivial⟩
 refine Zk hc12 (Zk hc12 (Zu hc11 (OV.pickF rfl hc12 rfl) ?_))
 exact GL.jump0 I3 () rfl ⟨(by rw [hc12]; rfl),rfl,rfl,rfl,rfl,rfl,trivial⟩
 refine Zn hc11 ?_
 exact GL.jump0 I3 () rfl ⟨(by rw [hc11]; rfl),rfl,rfl,rfl,rfl,trivial⟩
 refine Zm (GL.cut0 3 [(38,.bool (((((decide (((c5.toNat:Int):Int) ≥ 97)) && (decide (((c5.toNat:Int):Int)≤122))) || ((decide (((c5.toNat:Int):Int) ≥ 65)) && (decide (((c5.toNat:Int):Int)≤90)))) || ((decide (((c5.toNat:Int):Int) ≥ 48)) && (decide (((c5.toNat:Int):Int)≤57)))) || (((c5.toNat:Int):Int) == 95))),(0,sv p_s),(6,.int .i64 (List.length p_s:Int)),(7,.int .i64 x1)] ?_ ?_)
 rcases Zb ((((decide (((c5.toNat:Int):Int) ≥ 97)) && (decide (((c5.toNat:Int):Int)≤122))) || ((decide (((c5.toNat:Int):Int) ≥ 65)) && (decide (((c5.toNat:Int):Int)≤90)))) || ((decide (((c5.toNat:Int):Int) ≥ 48)) && (decide (((c5.toNat:Int):Int)≤57)))) with hc13 | hc13
 refine Zk hc13 (Zk hc13 (Zt hc13 ?_))
 exact GL.jump0 I3 () rfl ⟨(by rw [hc13]; rfl),rfl,rfl,rfl,trivial⟩
 refine Zu hc13 Ym (Zu hc13 (OV.ibin (v:=.bool (((c5.toNat:Int):Int) == 95)) rfl rfl rfl) (Zn hc13 ?_))
 exact GL.jump0 I3 () rfl ⟨(by rw [hc13]; rfl),rfl,rfl,rfl,trivial⟩
 refine Zv (OV.not rfl) (GL.nil (Yd h (fun hc14 h=>?_) fun hc14 h=>?_))
 refine Zo (Za (GL.nil ?_))
 exact Y1 I3 ⟨false,rfl,h⟩
 refine GC.skip_to I3 (GC.region (Zi (.int .i64 (w .i64 (x1+1))) (Zm ?_)))
 exact Yj I3 (w .i64 (x1+1)) h
 refine GC.exit_to I3 (Zo (Zm (Zr (Zi (.bool (decide (((List.length p_s:Int):Int)≤32))) (Za (GL.nil ?_))))))
 exact Y1 I3 ⟨(decide (((List.length p_s:Int):Int)≤32)),rfl,h⟩
def QfR (C:Ctx) (p_x:Qn) (v0:Nat×Nat) (K:Bool→Heap→Prop) (H:Heap):Prop:=
 nw (Qn.c p_x) (fun b1 H2=>
 ldV H2 v0 fun x3=>
 ldT H2 Qn.c (b1,0) fun x5=>
 callU Tryz.prog C x3 [.agg (Qn.c x5).toArray] H2 (fun v H8=>∃ (r7:Bool),v=.bool r7∧
 K (!r7) H8)) H
theorem Qfn (C p_x v0 K H) (h:QfR C p_x v0 K H):Qf7 C p_x v0 K H:=by
 refine Ye Tryz.func122 rfl Tryz.ntmps122 [(0,.agg (Qn.c p_x).toArray),(1,pv (some v0))] (Zo (GL.box (v:=.agg (Qn.c p_x).toArray) (cs:=Qn.c p_x) h trivial rfl rfl rfl ?_))
 intro b1 H2 h
 refine Za (GL.nil (Zo (Yl h fun x3 h=>?_)))
 obtain ⟨x5,hr6,h⟩:=h
 refine Zv (OV.loadT rfl rfl rfl hr6) (GL.callU (xv:=x3) (vs:=[.agg (Qn.c x5).toArray]) h trivial rfl rfl rfl ?_)
 rintro _ H8 ⟨r7,rfl,h⟩
 refine Zv (OV.not rfl) (Za (GL.nil ?_))
 exact Y1 I3 ⟨(!r7),rfl,h⟩
def Qaf (C:Ctx) (p_s:Sl) (p_f:Value) (K:Bool→Heap→Prop) (H:Heap):Prop:=
 Qax C p_s p_f (fun r1 H2=>
 K (decide ((r1:Int) ≥ 0)) H2) H
theorem Qbq (C p_s p_f K H) (h:Qaf C p_s p_f K H):Qam C p_s p_f K H:=by
 refine Ye Tryz.func123 rfl Tryz.ntmps123 [(0,slv p_s),(1,p_f)] (Zo (Za (GL.nil (Zo (Zm (Zm (Zc h QbP ?_)))))))
 rintro _ H2 ⟨r1,rfl,h⟩
 refine Zi (.bool (decide ((r1:Int) ≥ 0))) (Za (GL.nil ?_))
 exact Y1 I3 ⟨(decide ((r1:Int) ≥ 0)),rfl,h⟩
def Qff (C:Ctx) (p_x:Qb) (v0:Nat×Nat) (K:Bool→Heap→Prop) (H:Heap):Prop:=
 nw (Qb.c p_x) (fun b1 H2=>
 ldV H2 v0 fun x3=>
 ldT H2 Qb.c (b1,0) fun x5=>
 callU Tryz.prog C x3 [.agg (Qb.c x5).toArray] H2 (fun v H8=>∃ (r7:Bool),v=.bool r7∧
 K (!r7) H8)) H
theorem QeZ (C p_x v0 K H) (h:Qff C p_x v0 K H):Qfv C p_x v0 K H:=by
 refine Ye Tryz.func124 rfl Tryz.ntmps124 [(0,.agg (Qb.c p_x).toArray),(1,pv (some v0))] (Zo (GL.box (v:=.agg (Qb.c p_x).toArray) (cs:=Qb.c p_x) h trivial rfl rfl rfl ?_))
 intro b1 H2 h
 refine Za (GL.nil (Zo (Yl h fun x3 h=>?_)))
 obtain ⟨x5,hr6,h⟩:=h
 refine Zv (OV.loadT rfl rfl rfl hr6) (GL.callU (xv:=x3) (vs:=[.agg (Qb.c x5).toArray]) h trivial rfl rfl rfl ?_)
 rintro _ H8 ⟨r7,rfl,h⟩
 refine Zv (OV.not rfl) (Za (GL.nil ?_))
 exact Y1 I3 ⟨(!r7),rfl,h⟩
def QeP (C:Ctx) (p_l:Sl) (p_is:Value) (K:Bool→Heap→Prop) (H:Heap):Prop:=
 (Value.cells p_is = #[p_is])∧nw ([p_is]) (fun b1 H2=>
 Qa4 C p_l (.func (.func 190) (List.toArray []) (List.toArray [pv (some (b1,0))]):Value) (fun r4 H5=>
 K (!r4) H5) H2) H
theorem Qh9 (C p_l p_is K H) (h:QeP C p_l p_is K H):Qan C p_l p_is K H:=by
 refine Ye Tryz.func125 rfl Tryz.ntmps125 [(0,slv p_l),(1,p_is)] (Zo ?_)
 obtain ⟨u3,h⟩:=h
 refine GL.box (v:=p_is) (cs:=[p_is]) h trivial rfl rfl u3 ?_
 intro b1 H2 h
 refine Za (GL.nil (Zo (Zm (Zv (OV.makeFunc (vs:=[]) (us:=[pv (some (b1,0))]) rfl rfl) (Zc h QcT ?_)))))
 rintro _ H5 ⟨r4,rfl,h⟩
 refine Zv (OV.not rfl) (Za (GL.nil ?_))
 exact Y1 I3 ⟨(!r4),rfl,h⟩
def QiB (C:Ctx) (p_s:Str) (K:Bool→Heap→Prop) (H:Heap):Prop:=
 QbH C p_s [39] (fun r1 H2=>
 jn (α:=Bool) (fun b3 H15=>
 K b3 H15)
 (fun J4=>ift r1
 (slS p_s 1 (List.length p_s:Int) fun t7=>
 QaE C t7 (fun r13 H14=>
 J4 r13 H14) H2)
 (J4 false H2))) H
theorem Qli (C p_s K H) (h:QiB C p_s K H):QgV C p_s K H:=by
 refine Ye Tryz.func126 rfl Tryz.ntmps126 [(0,sv p_s)] (Zo (Za (GL.nil (Zo (Zm (Zc h Qd2 ?_))))))
 rintro _ H2 ⟨r1,rfl,h⟩
 refine Zm ?_
 obtain ⟨J4,h,hR5⟩:=h
 refine GL.cut (α:=Bool) 4 J4 (fun b3=>[(9,.bool b3)]) ?_ ?_
 rcases h.em with ⟨u6,h⟩ | ⟨u6,h⟩
 refine Zu u6 Ym ?_
 obtain ⟨h8,h9,h10,t7,h11,h⟩:=h
 refine Zu u6 (OV.sliceStr (s:=p_s) h8 h9 h10 h11 rfl rfl rfl rfl rfl rfl) (GL.call h (Yt u6) rfl QaQ (vs:=[sv t7]) rfl ?_)
 rintro _ H14 ⟨r13,rfl,h⟩
 refine Zt u6 ?_
 exact Yj I3 r13 h
 refine Zk u6 (Zk u6 (Zk u6 (Zn u6 ?_)))
 exact Yj I3 false h
 intro b3 H15 h
 replace h:=hR5 b3 H15 h
 refine Za (GL.nil ?_)
 exact Y1 I3 ⟨b3,rfl,h⟩
def Qdy (C:Ctx) (p_l:Sl) (p_is:Value) (K:Bool→Heap→Prop) (H:Heap):Prop:=
 (Value.cells p_is = #[p_is])∧nw ([p_is]) (fun b1 H2=>
 Qx C p_l (.func (.func 191) (List.toArray []) (List.toArray [pv (some (b1,0))]):Value) (fun r4 H5=>
 K (!r4) H5) H2) H
theorem QfZ (C p_l p_is K H) (h:Qdy C p_l p_is K H):QZ C p_l p_is K H:=by
 refine Ye Tryz.func127 rfl Tryz.ntmps127 [(0,slv p_l),(1,p_is)] (Zo ?_)
 obtain ⟨u3,h⟩:=h
 refine GL.box (v:=p_is) (cs:=[p_is]) h trivial rfl rfl u3 ?_
 intro b1 H2 h
 refine Za (GL.nil (Zo (Zm (Zv (OV.makeFunc (vs:=[]) (us:=[pv (some (b1,0))]) rfl rfl) (Zc h Qad ?_)))))
 rintro _ H5 ⟨r4,rfl,h⟩
 refine Zv (OV.not rfl) (Za (GL.nil ?_))
 exact Y1 I3 ⟨(!r4),rfl,h⟩
def QfT (C:Ctx) (p_c:Qc) (K:Bool→Heap→Prop) (H:Heap):Prop:=
 nw (Qc.c p_c) (fun b1 H2=>
 ldS H2 ((b1,0).1,(b1,0).2+0) fun x3=>
 QaE C x3 (fun r5 H6=>
 jn (α:=Bool) (fun b7 H15=>
 K b7 H15)
 (fun J8=>ift r5
 (ldL H6 ((b1,0).1,(b1,0).2+1) fun x11=>
 Qbd C x11 false (fun r13 H14=>
 J8 r13 H14) H6)
 (J8 false H6))) H2) H
theorem QiJ (C p_c K H) (h:QfT C p_c K H):Qba C p_c K H:=by
 refine Ye Tryz.func128 rfl Tryz.ntmps128 [(0,.agg (Qc.c p_c).toArray)] (Zo (GL.box (v:=.agg (Qc.c p_c).toArray) (cs:=Qc.c p_c) h trivial rfl rfl rfl ?_))
 intro b1 H2 h
 refine Za (GL.nil (Zo (Zf (Yl h fun x3 h=>?_))))
 refine Zc h QaQ ?_
 rintro _ H6 ⟨r5,rfl,h⟩
 refine Zm ?_
 obtain ⟨J8,h,hR9⟩:=h
 refine GL.cut (α:=Bool) 4 J8 (fun b7=>[(10,.bool b7)]) ?_ ?_
 rcases h.em with ⟨u10,h⟩ | ⟨u10,h⟩
 refine Zu u10 Yf ?_
 obtain ⟨x11,v12,h⟩:=h
 refine Zu u10 (Yo v12) (GL.call h (Yt u10) rfl QhG (vs:=[slv x11,.bool false]) rfl ?_)
 rintro _ H14 ⟨r13,rfl,h⟩
 refine Zt u10 ?_
 exact Yj I3 r13 h
 refine Zk u10 (Zk u10 (Zk u10 (Zn u10 ?_)))
 exact Yj I3 false h
 intro b7 H15 h
 replace h:=hR9 b7 H15 h
 refine Za (GL.nil ?_)
 exact Y1 I3 ⟨b7,rfl,h⟩
def Qap (C:Ctx) (p_s:Sl) (p_f:Value) (K:Bool→Heap→Prop) (H:Heap):Prop:=
 QaJ C p_s p_f (fun r1 H2=>
 K (decide ((r1:Int) ≥ 0)) H2) H
theorem QbA (C p_s p_f K H) (h:Qap C p_s p_f K H):Qar C p_s p_f K H:=by
 refine Ye Tryz.func129 rfl Tryz.ntmps129 [(0,slv p_s),(1,p_f)] (Zo (Za (GL.nil (Zo (Zm (Zm (Zc h Qca ?_)))))))
 rintro _ H2 ⟨r1,rfl,h⟩
 refine Zi (.bool (decide ((r1:Int) ≥ 0))) (Za (GL.nil ?_))
 exact Y1 I3 ⟨(decide ((r1:Int) ≥ 0)),rfl,h⟩
def QfS (C:Ctx) (p_x:Qg) (v0:Nat×Nat) (K:Bool→Heap→Prop) (H:Heap):Prop:=
 nw (Qg.c p_x) (fun b1 H2=>
 ldV H2 v0 fun x3=>
 ldT H2 Qg.c (b1,0) fun x5=>
 callU Tryz.prog C x3 [.agg (Qg.c x5).toArray] H2 (fun v H8=>∃ (r7:Bool),v=.bool r7∧
 K (!r7) H8)) H
theorem Qfo (C p_x v0 K H) (h:QfS C p_x v0 K H):Qf8 C p_x v0 K H:=by
 refine Ye Tryz.func130 rfl Tryz.ntmps130 [(0,.agg (Qg.c p_x).toArray),(1,pv (some v0))] (Zo (GL.box (v:=.agg (Qg.c p_x).toArray) (cs:=Qg.c p_x) h trivial rfl rfl rfl ?_))
 intro b1 H2 h
 refine Za (GL.nil (Zo (Yl h fun x3 h=>?_)))
 obtain ⟨x5,hr6,h⟩:=h
 refine Zv (OV.loadT rfl rfl rfl hr6) (GL.callU (xv:=x3) (vs:=[.agg (Qg.c x5).toArray]) h trivial rfl rfl rfl ?_)
 rintro _ H8 ⟨r7,rfl,h⟩
 refine Zv (OV.not rfl) (Za (GL.nil ?_))
 exact Y1 I3 ⟨(!r7),rfl,h⟩
def Qdf (C:Ctx) (p_l:Sl) (p_is:Value) (K:Bool→Heap→Prop) (H:Heap):Prop:=
 (Value.cells p_is = #[p_is])∧nw ([p_is]) (fun b1 H2=>
 Qv C p_l (.func (.func 193) (List.toArray []) (List.toArray [pv (some (b1,0))]):Value) (fun r4 H5=>
 K (!r4) H5) H2) H
theorem Qfm (C p_l p_is K H) (h:Qdf C p_l p_is K H):QP C p_l p_is K H:=by
 refine Ye Tryz.func131 rfl Tryz.ntmps131 [(0,slv p_l),(1,p_is)] (Zo ?_)
 obtain ⟨u3,h⟩:=h
 refine GL.box (v:=p_is) (cs:=[p_is]) h trivial rfl rfl u3 ?_
 intro b1 H2 h
 refine Za (GL.nil (Zo (Zm (Zv (OV.makeFunc (vs:=[]) (us:=[pv (some (b1,0))]) rfl rfl) (Zc h Qaa ?_)))))
 rintro _ H5 ⟨r4,rfl,h⟩
 refine Zv (OV.not rfl) (Za (GL.nil ?_))
 exact Y1 I3 ⟨(!r4),rfl,h⟩
def Qgq (C:Ctx) (p_f:Qf) (v0:Nat×Nat) (K:Bool→Heap→Prop) (H:Heap):Prop:=
 nw (Qf.c p_f) (fun b1 H2=>
 ldS H2 ((b1,0).1,(b1,0).2+0) fun x3=>
 QaE C x3 (fun r5 H6=>
 jn (α:=Bool) (fun b7 H20=>
 jn (α:=Bool) (fun b21 H29=>
 K b21 H29)
 (fun J22=>ift b7
 (ldT H20 Qd.c ((b1,0).1,(b1,0).2+1) fun x25=>
 Qcp C x25 (fun r27 H28=>
 J22 r27 H28) H20)
 (J22 false H20)))
 (fun J8=>ift r5
 (J8 true H6)
 (ldB H6 v0 fun x11=>
 jn (α:=Bool) (fun b13 H19=>
 J8 b13 H19)
 (fun J14=>ift (!x11)
 (ldS H6 ((b1,0).1,(b1,0).2+0) fun x17=>
 J14 (x17 == ([]:Str)) H6)
 (J14 false H6))))) H2) H
theorem Qjb (C p_f v0 K H) (h:Qgq C p_f v0 K H):Qbx C p_f v0 K H:=by
 refine Ye Tryz.func132 rfl Tryz.ntmps132 [(0,.agg (Qf.c p_f).toArray),(1,pv (some v0))] (Zo (GL.box (v:=.agg (Qf.c p_f).toArray) (cs:=Qf.c p_f) h trivial rfl rfl rfl ?_))
 intro b1 H2 h
 refine Za (GL.nil (Zo (Zf (Yl h fun x3 h=>?_))))
 refine Zc h QaQ ?_
 rintro _ H6 ⟨r5,rfl,h⟩
 refine Zm ?_
 obtain ⟨J8,h,hR9⟩:=h
 refine GL.cut (α:=Bool) 8 J8 (fun b7=>[(15,.bool b7),(2,pv (some (b1,0)))]) ?_ ?_
 rcases h.em with ⟨u10,h⟩ | ⟨u10,h⟩
 refine Zk u10 (Zk u10 (Zk u10 (GL.skip ⟨_,rfl,.inr rfl⟩ rfl (GL.skip ⟨_,rfl,.inr rfl⟩ rfl (GL.skip ⟨_,rfl,.inr rfl⟩ rfl (Zk u10 (Zt u10 ?_)))))))
 exact Yj I3 true h
 obtain ⟨x11,hr12,h⟩:=h
 refine Zu u10 (Yo hr12) (Zu u10 (OV.not rfl) (Zu u10 Ym ?_))
 obtain ⟨J14,h,hR15⟩:=h
 refine GL.cut (α:=Bool) 4 J14 (fun b13=>[(14,.bool b13),(2,pv (some (b1,0))),(7,.bool r5)]) ?_ ?_
 rcases h.em with ⟨u16,h⟩ | ⟨u16,h⟩
 refine Zu u16 Yf ?_
 obtain ⟨x17,hr18,h⟩:=h
 refine Zu u16 (Yo hr18) (Zu u16 (OV.sbin (a:=x17) (b:=([]:Str)) (v:=.bool (x17 == ([]:Str))) rfl rfl rfl) (Zu u10 (OV.pickT rfl u16 rfl) ?_))
 exact Yj I3 (x17 == ([]:Str)) h
 refine Zk u16 (Zk u16 (Zk u16 (Zu u10 (OV.pickF rfl u16 rfl) ?_)))
 exact Yj I3 false h
 intro b13 H19 h
 replace h:=hR15 b13 H19 h
 refine Zn u10 ?_
 exact Yj I3 b13 h
 intro b7 H20 h
 replace h:=hR9 b7 H20 h
 refine Zm ?_
 obtain ⟨J22,h,hR23⟩:=h
 refine GL.cut (α:=Bool) 4 J22 (fun b21=>[(20,.bool b21)]) ?_ ?_
 rcases h.em with ⟨u24,h⟩ | ⟨u24,h⟩
 refine Zu u24 Yf ?_
 obtain ⟨x25,hr26,h⟩:=h
 refine Zu u24 (OV.loadT rfl rfl rfl hr26) (GL.call h (Yt u24) rfl Qiu (vs:=[.agg (Qd.c x25).toArray]) rfl ?_)
 rintro _ H28 ⟨r27,rfl,h⟩
 refine Zt u24 ?_
 exact Yj I3 r27 h
 refine Zk u24 (Zk u24 (Zk u24 (Zn u24 ?_)))
 exact Yj I3 false h
 intro b21 H29 h
 replace h:=hR23 b21 H29 h
 refine Za (GL.nil ?_)
 exact Y1 I3 ⟨b21,rfl,h⟩
def QiC (C:Ctx) (p_t:Qd) (K:Bool→Heap→Prop) (H:Heap):Prop:=
 nw (Qd.c p_t) (fun b1 H2=>
 ldL H2 ((b1,0).1,(b1,0).2+1) fun x3=>
 ldS H2 ((b1,0).1,(b1,0).2+0) fun x5=>
 jn (α:=Bool) (fun x8 H9=>
 ift x8
 (K (((Sl.len x3:Int):Int) == 0) H9)
 (ift (x5 == ([116,117,112,108,101]:Str))
 (jn (α:=Bool) (fun b17 H25=>
 K b17 H25)
 (fun J18=>ift ((((Sl.len x3:Int):Int) != 1) && (decide (((Sl.len x3:Int):Int)≤16)))
 (ldL H9 ((b1,0).1,(b1,0).2+1) fun x21=>
 QQ C x21 (.func (.func 133) (List.toArray []) (List.toArray []):Value) (fun r23 H24=>
 J18 r23 H24) H9)
 (J18 false H9)))
 (ldS H9 ((b1,0).1,(b1,0).2+0) fun x26=>
 QgV C x26 (fun r28 H29=>
 jn (α:=Bool) (fun b31 H49=>
 K b31 H49)
 (fun J32=>ift (r28 && (((Sl.len x3:Int):Int) == 0))
 (J32 true H29)
 (ldS H29 ((b1,0).1,(b1,0).2+0) fun x35=>
 QdK C x35 (fun r37 H38=>
 jn (α:=Bool) (fun b40 H48=>
 J32 b40 H48)
 (fun J41=>ift (r37 && (decide (((Sl.len x3:Int):Int)≤8)))
 (ldL H38 ((b1,0).1,(b1,0).2+1) fun x44=>
 QQ C x44 (.func (.func 133) (List.toArray []) (List.toArray []):Value) (fun r46 H47=>
 J41 r46 H47) H38)
 (J41 false H38))) H29))) H9)))
 (fun J7=>ift (x5 == ([98,111,111,108]:Str))
 (J7 (x5 == ([98,111,111,108]:Str)) H2)
 (ift (x5 == ([105,110,116]:Str))
 (J7 (x5 == ([105,110,116]:Str)) H2)
 (ift (x5 == ([98,105,103]:Str))
 (J7 (x5 == ([98,105,103]:Str)) H2)
 (J7 (x5 == ([116,101,120,116]:Str)) H2))))) H
theorem Qlj (C p_t K H) (h:QiC C p_t K H):Qcp C p_t K H:=by
 refine Ye Tryz.func133 rfl Tryz.ntmps133 [(0,.agg (Qd.c p_t).toArray)] (Zo (GL.box (v:=.agg (Qd.c p_t).toArray) (cs:=Qd.c p_t) h trivial rfl rfl rfl ?_))
 intro b1 H2 h
 refine Za (GL.nil (Zo (Zf (Yl h fun x3 h=>?_))))
 refine Zq (Za (GL.nil (GC.seq (Zo (Zf (Yl h fun x5 h=>?_))))))
 refine GL.nil (GC.block ?_)
 obtain ⟨J7,h,hR10⟩:=h
 refine GC.join (α:=Bool) J7 (fun x8=>[(9,.bool x8),(1,pv (some (b1,0))),(3,.int .i64 (Sl.len x3:Int)),(8,sv x5)]) ?_ ?_
 refine Zo (Zv (OV.sbin (a:=x5) (b:=([98,111,111,108]:Str)) (v:=.bool (x5 == ([98,111,111,108]:Str))) rfl rfl rfl) (Za (GL.nil (Yd h (fun u11 h=>?_) fun u11 h=>?_))))
 exact Yk I3 (x5 == ([98,111,111,108]:Str)) h
 refine Zo (Zv (OV.sbin (a:=x5) (b:=([105,110,116]:Str)) (v:=.bool (x5 == ([105,110,116]:Str))) rfl rfl rfl) (Za (GL.nil (Yd h (fun u12 h=>?_) fun u12 h=>?_))))
 exact Yk I3 (x5 == ([105,110,116]:Str)) h
 refine Zo (Zv (OV.sbin (a:=x5) (b:=([98,105,103]:Str)) (v:=.bool (x5 == ([98,105,103]:Str))) rfl rfl rfl) (Za (GL.nil (Yd h (fun u13 h=>?_) fun u13 h=>?_))))
 exact Yk I3 (x5 == ([98,105,103]:Str)) h
 refine GC.region (Zv (OV.sbin (a:=x5) (b:=([116,101,120,116]:Str)) (v:=.bool (x5 == ([116,101,120,116]:Str))) rfl rfl rfl) (Za ?_))
 exact Yj I3 (x5 == ([116,101,120,116]:Str)) h
 intro x8 H9 h
 replace h:=hR10 x8 H9 h
 refine Yd h (fun u14 h=>?_) fun u14 h=>?_
 refine Zo (Zm (Zi (.bool (((Sl.len x3:Int):Int) == 0)) (Za (GL.nil ?_))))
 exact Y1 I3 ⟨(((Sl.len x3:Int):Int) == 0),rfl,h⟩
 refine Zo (Zv (OV.sbin (a:=x5) (b:=([116,117,112,108,101]:Str)) (v:=.bool (x5 == ([116,117,112,108,101]:Str))) rfl rfl rfl) (Za (GL.nil (Yd h (fun u15 h=>?_) fun u15 h=>?_))))
 refine Zo (Zm (Zi (.bool (((Sl.len x3:Int):Int) != 1)) (Zm (GL.cut0 3 [(23,.bool ((((Sl.len x3:Int):Int) != 1) && (decide (((Sl.len x3:Int):Int)≤16)))),(1,pv (some (b1,0)))] ?_ ?_))))
 rcases Zb (((Sl.len x3:Int):Int) != 1) with u16 | u16
 refine Zu u16 Ym (Zu u16 (OV.ibin (v:=.bool (decide (((Sl.len x3:Int):Int)≤16))) rfl rfl rfl) (Zt u16 ?_))
 exact GL.jump0 I3 () rfl ⟨(by rw [u16]; rfl),rfl,trivial⟩
 refine Zk u16 (Zk u16 (Zn u16 ?_))
 exact GL.jump0 I3 () rfl ⟨(by rw [u16]; rfl),rfl,trivial⟩
 refine Zm ?_
 obtain ⟨J18,h,hR19⟩:=h
 refine GL.cut (α:=Bool) 4 J18 (fun b17=>[(28,.bool b17)]) ?_ ?_
 rcases h.em with ⟨u20,h⟩ | ⟨u20,h⟩
 refine Zu u20 Yf ?_
 obtain ⟨x21,v22,h⟩:=h
 refine Zu u20 (Yo v22) (GL.call h (Yt u20) rfl Qd4 (vs:=[slv x21,.func (.func 133) (List.toArray []) (List.toArray [])]) rfl ?_)
 rintro _ H24 ⟨r23,rfl,h⟩
 refine Zt u20 ?_
 exact Yj I3 r23 h
 refine Zk u20 (Zk u20 (Zk u20 (Zn u20 ?_)))
 exact Yj I3 false h
 intro b17 H25 h
 replace h:=hR19 b17 H25 h
 refine Za (GL.nil ?_)
 exact Y1 I3 ⟨b17,rfl,h⟩
 refine GC.skip_to I3 (Zo (Zf ?_))
 refine Yl h fun x26 h=>?_
 refine Zc h Qit ?_
 rintro _ H29 ⟨r28,rfl,h⟩
 refine Zm (GL.cut0 3 [(35,.bool (r28 && (((Sl.len x3:Int):Int) == 0))),(1,pv (some (b1,0))),(3,.int .i64 (Sl.len x3:Int))] ?_ ?_)
 rcases Bool.eq_false_or_eq_true r28 with u30 | u30
 refine Zu u30 Ym (Zu u30 (OV.ibin (v:=.bool (((Sl.len x3:Int):Int) == 0)) rfl rfl rfl) (Zt u30 ?_))
 exact GL.jump0 I3 () rfl ⟨(by rw [u30]; rfl),rfl,rfl,trivial⟩
 refine Zk u30 (Zk u30 (Zn u30 ?_))
 exact GL.jump0 I3 () rfl ⟨(by rw [u30]; rfl),rfl,rfl,trivial⟩
 refine Zm ?_
 obtain ⟨J32,h,hR33⟩:=h
 refine GL.cut (α:=Bool) 13 J32 (fun b31=>[(49,.bool b31)]) ?_ ?_
 rcases h.em with ⟨u34,h⟩ | ⟨u34,h⟩
 refine Zk u34 (Zk u34 (Zk u34 (Zk u34 (GL.skip ⟨_,rfl,.inr rfl⟩ rfl (GL.skip ⟨_,rfl,.inr rfl⟩ rfl (Zk u34 (Zk u34 (GL.skip ⟨_,rfl,.inr rfl⟩ rfl (GL.skip ⟨_,rfl,.inr rfl⟩ rfl (GL.skip ⟨_,rfl,.inr rfl⟩ rfl (Zk u34 (Zt u34 ?_))))))))))))
 exact Yj I3 true h
 refine Zu u34 Yf ?_
 obtain ⟨x35,v36,h⟩:=h
 refine Zu u34 (Yo v36) (GL.call h (Yt u34) rfl QeM (vs:=[sv x35]) rfl ?_)
 rintro _ H38 ⟨r37,rfl,h⟩
 refine Zu u34 Ym (GL.cut0 3 [(43,.bool (r37 && (decide (((Sl.len x3:Int):Int)≤8)))),(1,pv (some (b1,0))),(36,.bool (r28 && (((Sl.len x3:Int):Int) == 0)))] ?_ ?_)
 rcases Bool.eq_false_or_eq_true r37 with u39 | u39
 refine Zu u39 Ym (Zu u39 (OV.ibin (v:=.bool (decide (((Sl.len x3:Int):Int)≤8))) rfl rfl rfl) (Zu u34 (OV.pickT rfl u39 rfl) ?_))
 exact GL.jump0 I3 () rfl ⟨(by rw [u39]; rfl),rfl,rfl,trivial⟩
 refine Zk u39 (Zk u39 (Zu u34 (OV.pickF rfl u39 rfl) ?_))
 exact GL.jump0 I3 () rfl ⟨(by rw [u39]; rfl),rfl,rfl,trivial⟩
 refine Zu u34 Ym ?_
 obtain ⟨J41,h,hR42⟩:=h
 refine GL.cut (α:=Bool) 4 J41 (fun b40=>[(48,.bool b40),(36,.bool (r28 && (((Sl.len x3:Int):Int) == 0)))]) ?_ ?_
 rcases h.em with ⟨u43,h⟩ | ⟨u43,h⟩
 refine Zu u43 Yf ?_
 obtain ⟨x44,v45,h⟩:=h
 refine Zu u43 (Yo v45) (GL.call h (Yt u43) rfl Qd4 (vs:=[slv x44,.func (.func 133) (List.toArray []) (List.toArray [])]) rfl ?_)
 rintro _ H47 ⟨r46,rfl,h⟩
 refine Zu u34 (OV.pickT rfl u43 rfl) ?_
 exact Yj I3 r46 h
 refine Zk u43 (Zk u43 (Zk u43 (Zu u34 (OV.pickF rfl u43 rfl) ?_)))
 exact Yj I3 false h
 intro b40 H48 h
 replace h:=hR42 b40 H48 h
 refine Zn u34 ?_
 exact Yj I3 b40 h
 intro b31 H49 h
 replace h:=hR33 b31 H49 h
 refine Za (GL.nil ?_)
 exact Y1 I3 ⟨b31,rfl,h⟩
def QaN (C:Ctx) (p_s:Sl) (p_f:Value) (K:Bool→Heap→Prop) (H:Heap):Prop:=
 Qa0 C p_s p_f (fun r1 H2=>
 K (decide ((r1:Int) ≥ 0)) H2) H
theorem Qci (C p_s p_f K H) (h:QaN C p_s p_f K H):QaP C p_s p_f K H:=by
 refine Ye Tryz.func134 rfl Tryz.ntmps134 [(0,slv p_s),(1,p_f)] (Zo (Za (GL.nil (Zo (Zm (Zm (Zc h QcM ?_)))))))
 rintro _ H2 ⟨r1,rfl,h⟩
 refine Zi (.bool (decide ((r1:Int) ≥ 0))) (Za (GL.nil ?_))
 exact Y1 I3 ⟨(decide ((r1:Int) ≥ 0)),rfl,h⟩
def QgL (C:Ctx) (p_x:Qi) (v0:Nat×Nat) (K:Bool→Heap→Prop) (H:Heap):Prop:=
 nw (Qi.c p_x) (fun b1 H2=>
 ldV H2 v0 fun x3=>
 ldT H2 Qi.c (b1,0) fun x5=>
 callU Tryz.prog C x3 [.agg (Qi.c x5).toArray] H2 (fun v H8=>∃ (r7:Bool),v=.bool r7∧
 K (!r7) H8)) H
theorem QgA (C p_x v0 K H) (h:QgL C p_x v0 K H):QgS C p_x v0 K H:=by
 refine Ye Tryz.func135 rfl Tryz.ntmps135 [(0,.agg (Qi.c p_x).toArray),(1,pv (some v0))] (Zo (GL.box (v:=.agg (Qi.c p_x).toArray) (cs:=Qi.c p_x) h trivial rfl rfl rfl ?_))
 intro b1 H2 h
 refine Za (GL.nil (Zo (Yl h fun x3 h=>?_)))
 obtain ⟨x5,hr6,h⟩:=h
 refine Zv (OV.loadT rfl rfl rfl hr6) (GL.callU (xv:=x3) (vs:=[.agg (Qi.c x5).toArray]) h trivial rfl rfl rfl ?_)
 rintro _ H8 ⟨r7,rfl,h⟩
 refine Zv (OV.not rfl) (Za (GL.nil ?_))
 exact Y1 I3 ⟨(!r7),rfl,h⟩
def Qi2 (C:Ctx) (p_s:Str) (K:Bool→Heap→Prop) (H:Heap):Prop:=
 Qdq C p_s [46] (fun r1 r2 r3 H4=>
 QaE C r1 (fun r5 H6=>
 jn (α:=Bool) (fun b7 H18=>
 K b7 H18)
 (fun J8=>ift r5
 (jn (α:=Bool) (fun b11 H17=>
 J8 b11 H17)
 (fun J12=>ift (!r3)
 (J12 true H6)
 (QaE C r2 (fun r15 H16=>
 J12 r15 H16) H6)))
 (J8 false H6))) H4) H
theorem QlV (C p_s K H) (h:Qi2 C p_s K H):QdK C p_s K H:=by
 refine Ye Tryz.func136 rfl Tryz.ntmps136 [(0,sv p_s)] (Zo (Za (GL.nil (Zo (Zm (Zc h Qe6 ?_))))))
 rintro _ H4 ⟨r1,r2,r3,rfl,h⟩
 refine Zm (Yv (sv r1) rfl rfl (Yv (sv r2) rfl rfl (Yv (.bool r3) rfl rfl (Za (Za (Za (GL.nil (Zo (Zm (Zc h QaQ ?_))))))))))
 rintro _ H6 ⟨r5,rfl,h⟩
 refine Zm ?_
 obtain ⟨J8,h,hR9⟩:=h
 refine GL.cut (α:=Bool) 7 J8 (fun b7=>[(21,.bool b7)]) ?_ ?_
 rcases h.em with ⟨u10,h⟩ | ⟨u10,h⟩
 refine Zu u10 Ym (Zu u10 (OV.not rfl) (Zu u10 Ym ?_))
 obtain ⟨J12,h,hR13⟩:=h
 refine GL.cut (α:=Bool) 3 J12 (fun b11=>[(20,.bool b11),(14,.bool r5)]) ?_ ?_
 rcases h.em with ⟨u14,h⟩ | ⟨u14,h⟩
 refine Zk u14 (Zk u14 (Zu u10 (OV.pickT rfl u14 rfl) ?_))
 exact Yj I3 true h
 refine Zu u14 Ym (GL.call h (Yt u14) rfl QaQ (vs:=[sv r2]) rfl ?_)
 rintro _ H16 ⟨r15,rfl,h⟩
 refine Zu u10 (OV.pickF rfl u14 rfl) ?_
 exact Yj I3 r15 h
 intro b11 H17 h
 replace h:=hR13 b11 H17 h
 refine Zt u10 ?_
 exact Yj I3 b11 h
 refine Zk u10 (Zk u10 (Zk u10 (GL.skip ⟨_,rfl,.inr rfl⟩ rfl (GL.skip ⟨_,rfl,.inr rfl⟩ rfl (Zk u10 (Zn u10 ?_))))))
 exact Yj I3 false h
 intro b7 H18 h
 replace h:=hR9 b7 H18 h
 refine Za (GL.nil ?_)
 exact Y1 I3 ⟨b7,rfl,h⟩
def Qd5 (C:Ctx) (p_l:Sl) (p_is:Value) (K:Bool→Heap→Prop) (H:Heap):Prop:=
 (Value.cells p_is = #[p_is])∧nw ([p_is]) (fun b1 H2=>
 QaO C p_l (.func (.func 197) (List.toArray []) (List.toArray [pv (some (b1,0))]):Value) (fun r4 H5=>
 K (!r4) H5) H2) H
theorem Qhv (C p_l p_is K H) (h:Qd5 C p_l p_is K H):QB C p_l p_is K H:=by
 refine Ye Tryz.func137 rfl Tryz.ntmps137 [(0,slv p_l),(1,p_is)] (Zo ?_)
 obtain ⟨u3,h⟩:=h
 refine GL.box (v:=p_is) (cs:=[p_is]) h trivial rfl rfl u3 ?_
 intro b1 H2 h
 refine Za (GL.nil (Zo (Zm (Zv (OV.makeFunc (vs:=[]) (us:=[pv (some (b1,0))]) rfl rfl) (Zc h Qck ?_)))))
 rintro _ H5 ⟨r4,rfl,h⟩
 refine Zv (OV.not rfl) (Za (GL.nil ?_))
 exact Y1 I3 ⟨(!r4),rfl,h⟩
def Qi0 (C:Ctx) (p_e:Qh) (K:Bool→Heap→Prop) (H:Heap):Prop:=
 nw (Qh.c p_e) (fun b1 H2=>
 ldT H2 Qh.c (b1,0) fun x3=>
 QbK C x3 false (fun r5 H6=>
 K r5 H6) H2) H
theorem QlT (C p_e K H) (h:Qi0 C p_e K H):QbJ C p_e K H:=by
 refine Ye Tryz.func138 rfl Tryz.ntmps138 [(0,.agg (Qh.c p_e).toArray)] (Zo (GL.box (v:=.agg (Qh.c p_e).toArray) (cs:=Qh.c p_e) h trivial rfl rfl rfl ?_))
 intro b1 H2 h
 refine Za (GL.nil (Zo ?_))
 obtain ⟨x3,v4,h⟩:=h
 refine Zv (OV.loadT rfl rfl rfl v4) (Zc h Qg6 ?_)
 rintro _ H6 ⟨r5,rfl,h⟩
 refine Za (GL.nil ?_)
 exact Y1 I3 ⟨r5,rfl,h⟩
def QhS (C:Ctx) (p_s:Str) (K:Bool→Heap→Prop) (H:Heap):Prop:=
 K (((((p_s == ([]:Str)) || (p_s == ([99,111,117,110,116]:Str))) || (p_s == ([115,117,109]:Str))) || (p_s == ([109,105,110]:Str))) || (p_s == ([109,97,120]:Str))) H
theorem Qkw (C p_s K H) (h:QhS C p_s K H):Qid C p_s K H:=by
 refine Ye Tryz.func139 rfl Tryz.ntmps139 [(0,sv p_s)] (Zo (Za (GL.nil (Zo (Zm (Zv (OV.sbin (a:=p_s) (b:=([]:Str)) (v:=.bool (p_s == ([]:Str))) rfl rfl rfl) (Zm (GL.cut0 3 [(8,.bool ((p_s == ([]:Str)) || (p_s == ([99,111,117,110,116]:Str)))),(0,sv p_s)] ?_ ?_))))))))
 rcases Zb (p_s == ([]:Str)) with u1 | u1
 refine Zk u1 (Zk u1 (Zt u1 ?_))
 exact GL.jump0 I3 () rfl ⟨(by rw [u1]; rfl),rfl,trivial⟩
 refine Zu u1 Ym (Zu u1 (OV.sbin (a:=p_s) (b:=([99,111,117,110,116]:Str)) (v:=.bool (p_s == ([99,111,117,110,116]:Str))) rfl rfl rfl) (Zn u1 ?_))
 exact GL.jump0 I3 () rfl ⟨(by rw [u1]; rfl),rfl,trivial⟩
 refine Zm (GL.cut0 3 [(12,.bool (((p_s == ([]:Str)) || (p_s == ([99,111,117,110,116]:Str))) || (p_s == ([115,117,109]:Str)))),(0,sv p_s)] ?_ ?_)
 rcases Zb ((p_s == ([]:Str)) || (p_s == ([99,111,117,110,116]:Str))) with u2 | u2
 refine Zk u2 (Zk u2 (Zt u2 ?_))
 exact GL.jump0 I3 () rfl ⟨(by rw [u2]; rfl),rfl,trivial⟩
 refine Zu u2 Ym (Zu u2 (OV.sbin (a:=p_s) (b:=([115,117,109]:Str)) (v:=.bool (p_s == ([115,117,109]:Str))) rfl rfl rfl) (Zn u2 ?_))
 exact GL.jump0 I3 () rfl ⟨(by rw [u2]; rfl),rfl,trivial⟩
 refine Zm (GL.cut0 3 [(16,.bool ((((p_s == ([]:Str)) || (p_s == ([99,111,117,110,116]:Str))) || (p_s == ([115,117,109]:Str))) || (p_s == ([109,105,110]:Str)))),(0,sv p_s)] ?_ ?_)
 rcases Zb (((p_s == ([]:Str)) || (p_s == ([99,111,117,110,116]:Str))) || (p_s == ([115,117,109]:Str))) with u3 | u3
 refine Zk u3 (Zk u3 (Zt u3 ?_))
 exact GL.jump0 I3 () rfl ⟨(by rw [u3]; rfl),rfl,trivial⟩
 refine Zu u3 Ym (Zu u3 (OV.sbin (a:=p_s) (b:=([109,105,110]:Str)) (v:=.bool (p_s == ([109,105,110]:Str))) rfl rfl rfl) (Zn u3 ?_))
 exact GL.jump0 I3 () rfl ⟨(by rw [u3]; rfl),rfl,trivial⟩
 refine Zm (GL.cut0 3 [(20,.bool (((((p_s == ([]:Str)) || (p_s == ([99,111,117,110,116]:Str))) || (p_s == ([115,117,109]:Str))) || (p_s == ([109,105,110]:Str))) || (p_s == ([109,97,120]:Str))))] ?_ ?_)
 rcases Zb ((((p_s == ([]:Str)) || (p_s == ([99,111,117,110,116]:Str))) || (p_s == ([115,117,109]:Str))) || (p_s == ([109,105,110]:Str))) with u4 | u4
 refine Zk u4 (Zk u4 (Zt u4 ?_))
 exact GL.jump0 I3 () rfl ⟨(by rw [u4]; rfl),trivial⟩
 refine Zu u4 Ym (Zu u4 (OV.sbin (a:=p_s) (b:=([109,97,120]:Str)) (v:=.bool (p_s == ([109,97,120]:Str))) rfl rfl rfl) (Zn u4 ?_))
 exact GL.jump0 I3 () rfl ⟨(by rw [u4]; rfl),trivial⟩
 refine Za (GL.nil ?_)
 exact Y1 I3 ⟨(((((p_s == ([]:Str)) || (p_s == ([99,111,117,110,116]:Str))) || (p_s == ([115,117,109]:Str))) || (p_s == ([109,105,110]:Str))) || (p_s == ([109,97,120]:Str))),rfl,h⟩
def Qay (C:Ctx) (p_s:Sl) (p_f:Value) (K:Bool→Heap→Prop) (H:Heap):Prop:=
 QaS C p_s p_f (fun r1 H2=>
 K (decide ((r1:Int) ≥ 0)) H2) H
theorem QbQ (C p_s p_f K H) (h:Qay C p_s p_f K H):QaA C p_s p_f K H:=by
 refine Ye Tryz.func140 rfl Tryz.ntmps140 [(0,slv p_s),(1,p_f)] (Zo (Za (GL.nil (Zo (Zm (Zm (Zc h Qcs ?_)))))))
 rintro _ H2 ⟨r1,rfl,h⟩
 refine Zi (.bool (decide ((r1:Int) ≥ 0))) (Za (GL.nil ?_))
 exact Y1 I3 ⟨(decide ((r1:Int) ≥ 0)),rfl,h⟩
def Qgj (C:Ctx) (p_x:Ql) (v0:Nat×Nat) (K:Bool→Heap→Prop) (H:Heap):Prop:=
 nw (Ql.c p_x) (fun b1 H2=>
 ldV H2 v0 fun x3=>
 ldT H2 Ql.c (b1,0) fun x5=>
 callU Tryz.prog C x3 [.agg (Ql.c x5).toArray] H2 (fun v H8=>∃ (r7:Bool),v=.bool r7∧
 K (!r7) H8)) H
theorem Qf1 (C p_x v0 K H) (h:Qgj C p_x v0 K H):QgD C p_x v0 K H:=by
 refine Ye Tryz.func141 rfl Tryz.ntmps141 [(0,.agg (Ql.c p_x).toArray),(1,pv (some v0))] (Zo (GL.box (v:=.agg (Ql.c p_x).toArray) (cs:=Ql.c p_x) h trivial rfl rfl rfl ?_))
 intro b1 H2 h
 refine Za (GL.nil (Zo (Yl h fun x3 h=>?_)))
 obtain ⟨x5,hr6,h⟩:=h
 refine Zv (OV.loadT rfl rfl rfl hr6) (GL.callU (xv:=x3) (vs:=[.agg (Ql.c x5).toArray]) h trivial rfl rfl rfl ?_)
 rintro _ H8 ⟨r7,rfl,h⟩
 refine Zv (OV.not rfl) (Za (GL.nil ?_))
 exact Y1 I3 ⟨(!r7),rfl,h⟩
def Qae (C:Ctx) (p_s:Sl) (p_f:Value) (K:Bool→Heap→Prop) (H:Heap):Prop:=
 Qaw C p_s p_f (fun r1 H2=>
 K (decide ((r1:Int) ≥ 0)) H2) H
theorem Qbp (C p_s p_f K H) (h:Qae C p_s p_f K H):Qal C p_s p_f K H:=by
 refine Ye Tryz.func142 rfl Tryz.ntmps142 [(0,slv p_s),(1,p_f)] (Zo (Za (GL.nil (Zo (Zm (Zm (Zc h QbO ?_)))))))
 rintro _ H2 ⟨r1,rfl,h⟩
 refine Zi (.bool (decide ((r1:Int) ≥ 0))) (Za (GL.nil ?_))
 exact Y1 I3 ⟨(decide ((r1:Int) ≥ 0)),rfl,h⟩
def Qfe (C:Ctx) (p_x:Qk) (v0:Nat×Nat) (K:Bool→Heap→Prop) (H:Heap):Prop:=
 nw (Qk.c p_x) (fun b1 H2=>
 ldV H2 v0 fun x3=>
 ldT H2 Qk.c (b1,0) fun x5=>
 callU Tryz.prog C x3 [.agg (Qk.c x5).toArray] H2 (fun v H8=>∃ (r7:Bool),v=.bool r7∧
 K (!r7) H8)) H
theorem QeY (C p_x v0 K H) (h:Qfe C p_x v0 K H):Qfu C p_x v0 K H:=by
 refine Ye Tryz.func143 rfl Tryz.ntmps143 [(0,.agg (Qk.c p_x).toArray),(1,pv (some v0))] (Zo (GL.box (v:=.agg (Qk.c p_x).toArray) (cs:=Qk.c p_x) h trivial rfl rfl rfl ?_))
 intro b1 H2 h
 refine Za (GL.nil (Zo (Yl h fun x3 h=>?_)))
 obtain ⟨x5,hr6,h⟩:=h
 refine Zv (OV.loadT rfl rfl rfl hr6) (GL.callU (xv:=x3) (vs:=[.agg (Qk.c x5).toArray]) h trivial rfl rfl rfl ?_)
 rintro _ H8 ⟨r7,rfl,h⟩
 refine Zv (OV.not rfl) (Za (GL.nil ?_))
 exact Y1 I3 ⟨(!r7),rfl,h⟩
def Qhj (C:Ctx) (p_e:Qh) (K:Bool→Heap→Prop) (H:Heap):Prop:=
 nw (Qh.c p_e) (fun b1 H2=>
 ldT H2 Qh.c (b1,0) fun x3=>
 QbK C x3 true (fun r5 H6=>
 K r5 H6) H2) H
theorem Qjw (C p_e K H) (h:Qhj C p_e K H):Qb2 C p_e K H:=by
 refine Ye Tryz.func144 rfl Tryz.ntmps144 [(0,.agg (Qh.c p_e).toArray)] (Zo (GL.box (v:=.agg (Qh.c p_e).toArray) (cs:=Qh.c p_e) h trivial rfl rfl rfl ?_))
 intro b1 H2 h
 refine Za (GL.nil (Zo ?_))
 obtain ⟨x3,v4,h⟩:=h
 refine Zv (OV.loadT rfl rfl rfl v4) (Zc h Qg6 ?_)
 rintro _ H6 ⟨r5,rfl,h⟩
 refine Za (GL.nil ?_)
 exact Y1 I3 ⟨r5,rfl,h⟩
def Qgr (C:Ctx) (p_s:Str) (K:Bool→Heap→Prop) (H:Heap):Prop:=
 jn (α:=Bool) (fun b1 H8=>
 jn (α:=Bool) (fun b9 H16=>
 jn (α:=Bool) (fun b17 H23=>
 K b17 H23)
 (fun J18=>ift b9
 (Qf9 C p_s (fun r21 H22=>
 J18 r21 H22) H16)
 (J18 false H16)))
 (fun J10=>ift b1
 (ixs p_s 0 fun c13=>
 J10 (decide (((c13.toNat:Int):Int)≤90)) H8)
 (J10 false H8)))
 (fun J2=>ift (!(p_s == ([]:Str)))
 (ixs p_s 0 fun c5=>
 J2 (decide (((c5.toNat:Int):Int) ≥ 65)) H)
 (J2 false H))
theorem Qjc (C p_s K H) (h:Qgr C p_s K H):Qdr C p_s K H:=by
 refine Ye Tryz.func145 rfl Tryz.ntmps145 [(0,sv p_s)] (Zo (Za (GL.nil (Zo (Zm (Zv (OV.sbin (a:=p_s) (b:=([]:Str)) (v:=.bool (!(p_s == ([]:Str)))) rfl rfl rfl) (Zm ?_)))))))
 obtain ⟨J2,h,hR3⟩:=h
 refine GL.cut (α:=Bool) 4 J2 (fun b1=>[(9,.bool b1),(0,sv p_s)]) ?_ ?_
 rcases h.em with ⟨u4,h⟩ | ⟨u4,h⟩
 refine Zu u4 Ym ?_
 obtain ⟨c5,ha6,hb7,h⟩:=h
 refine Zu u4 (OV.indexStr rfl rfl rfl ha6 hb7) (Zu u4 (OV.ibin (v:=.bool (decide (((c5.toNat:Int):Int) ≥ 65))) rfl rfl rfl) (Zt u4 ?_))
 exact Yj I3 (decide (((c5.toNat:Int):Int) ≥ 65)) h
 refine Zk u4 (Zk u4 (Zk u4 (Zn u4 ?_)))
 exact Yj I3 false h
 intro b1 H8 h
 replace h:=hR3 b1 H8 h
 refine Zm ?_
 obtain ⟨J10,h,hR11⟩:=h
 refine GL.cut (α:=Bool) 4 J10 (fun b9=>[(14,.bool b9),(0,sv p_s)]) ?_ ?_
 rcases h.em with ⟨u12,h⟩ | ⟨u12,h⟩
 refine Zu u12 Ym ?_
 obtain ⟨c13,ha14,hb15,h⟩:=h
 refine Zu u12 (OV.indexStr rfl rfl rfl ha14 hb15) (Zu u12 (OV.ibin (v:=.bool (decide (((c13.toNat:Int):Int)≤90))) rfl rfl rfl) (Zt u12 ?_))
 exact Yj I3 (decide (((c13.toNat:Int):Int)≤90)) h
 refine Zk u12 (Zk u12 (Zk u12 (Zn u12 ?_)))
 exact Yj I3 false h
 intro b9 H16 h
 replace h:=hR11 b9 H16 h
 refine Zm ?_
 obtain ⟨J18,h,hR19⟩:=h
 refine GL.cut (α:=Bool) 3 J18 (fun b17=>[(18,.bool b17)]) ?_ ?_
 rcases h.em with ⟨u20,h⟩ | ⟨u20,h⟩
 refine Zu u20 Ym (GL.call h (Yt u20) rfl QiX (vs:=[sv p_s]) rfl ?_)
 rintro _ H22 ⟨r21,rfl,h⟩
 refine Zt u20 ?_
 exact Yj I3 r21 h
 refine Zk u20 (Zk u20 (Zn u20 ?_))
 exact Yj I3 false h
 intro b17 H23 h
 replace h:=hR19 b17 H23 h
 refine Za (GL.nil ?_)
 exact Y1 I3 ⟨b17,rfl,h⟩
def QaB (C:Ctx) (p_s:Sl) (p_f:Value) (K:Int→Heap→Prop) (H:Heap):Prop:=
 lp (α:=Int) 0 H (fun x1 J2 H3=>
 ift (decide ((x1:Int) < (Sl.len p_s:Int)))
 (ixa p_s x1 fun p5=>
 ldT H3 Qa.c (p5.1,p5.2+(x1:Int).toNat*6) fun x10=>
 callU Tryz.prog C p_f [.agg (Qa.c x10).toArray] H3 (fun v H13=>∃ (r12:Bool),v=.bool r12∧
 ift r12
 (K x1 H13)
 (J2 (w .i64 (x1+1)) H13)))
 (K (-1) H3))
theorem Qb4 (C p_s p_f K H) (h:QaB C p_s p_f K H):QaI C p_s p_f K H:=by
 refine Ye Tryz.func146 rfl Tryz.ntmps146 [(0,slv p_s),(1,p_f)] (Zo (Za (GL.nil (GC.seq (Zo (Zm (Zq (Zm (GL.nil (GC.block (Yp h (fun x1=>[(8,.int .i64 x1),(0,slv p_s),(1,p_f),(7,.int .i64 (Sl.len p_s:Int))]) ?_)))))))))))
 intro x1 H3 J2 h
 refine Zo (Zi (.bool (decide ((x1:Int) < (Sl.len p_s:Int)))) (GL.nil (GC.seq (Yd h (fun u4 h=>?_) fun u4 h=>?_))))
 refine GC.skip (GC.seq (GC.block (Zo (Zm (Za (GL.nil (Zo (Zm (Zm (Zm (Yx h fun p5 h=>?_)))))))))))
 obtain ⟨x10,v11,h⟩:=h
 refine Zv (OV.loadT rfl rfl rfl v11) (GL.callU (xv:=p_f) (vs:=[.agg (Qa.c x10).toArray]) h trivial rfl rfl rfl ?_)
 rintro _ H13 ⟨r12,rfl,h⟩
 refine GL.nil (Yd h (fun u14 h=>?_) fun u14 h=>?_)
 refine Zo (Zm (Za (GL.nil ?_)))
 exact Y1 I3 ⟨x1,rfl,h⟩
 refine GC.skip_to I3 (GC.region (Zi (.int .i64 (w .i64 (x1+1))) (Zm ?_)))
 exact Yj I3 (w .i64 (x1+1)) h
 refine GC.exit_to I3 (Zo (Za (GL.nil ?_)))
 exact Y1 I3 ⟨(-1),rfl,h⟩
def Qda (C:Ctx) (p_m:Qa) (v0:Nat×Nat) (K:Bool→Heap→Prop) (H:Heap):Prop:=
 nw (Qa.c p_m) (fun b1 H2=>
 ldS H2 ((b1,0).1,(b1,0).2+0) fun x3=>
 ldS H2 v0 fun x5=>
 K (x3 == x5) H2) H
theorem Qfh (C p_m v0 K H) (h:Qda C p_m v0 K H):Qf4 C p_m v0 K H:=by
 refine Ye Tryz.func147 rfl Tryz.ntmps147 [(0,.agg (Qa.c p_m).toArray),(1,pv (some v0))] (Zo (GL.box (v:=.agg (Qa.c p_m).toArray) (cs:=Qa.c p_m) h trivial rfl rfl rfl ?_))
 intro b1 H2 h
 refine Za (GL.nil (Zo (Zf (Yl h fun x3 h=>?_))))
 refine Yl h fun x5 h=>?_
 refine Zv (OV.sbin (a:=x3) (b:=x5) (v:=.bool (x3 == x5)) rfl rfl rfl) (Za (GL.nil ?_))
 exact Y1 I3 ⟨(x3 == x5),rfl,h⟩
def QD (C:Ctx) (p_s:Sl) (p_f:Value) (K:Int→Heap→Prop) (H:Heap):Prop:=
 lp (α:=Int) 0 H (fun x1 J2 H3=>
 ift (decide ((x1:Int) < (Sl.len p_s:Int)))
 (ixa p_s x1 fun p5=>
 ldT H3 Qn.c (p5.1,p5.2+(x1:Int).toNat*3) fun x10=>
 callU Tryz.prog C p_f [.agg (Qn.c x10).toArray] H3 (fun v H13=>∃ (r12:Bool),v=.bool r12∧
 ift r12
 (K x1 H13)
 (J2 (w .i64 (x1+1)) H13)))
 (K (-1) H3))
theorem QX (C p_s p_f K H) (h:QD C p_s p_f K H):QaH C p_s p_f K H:=by
 refine Ye Tryz.func148 rfl Tryz.ntmps148 [(0,slv p_s),(1,p_f)] (Zo (Za (GL.nil (GC.seq (Zo (Zm (Zq (Zm (GL.nil (GC.block (Yp h (fun x1=>[(8,.int .i64 x1),(0,slv p_s),(1,p_f),(7,.int .i64 (Sl.len p_s:Int))]) ?_)))))))))))
 intro x1 H3 J2 h
 refine Zo (Zi (.bool (decide ((x1:Int) < (Sl.len p_s:Int)))) (GL.nil (GC.seq (Yd h (fun u4 h=>?_) fun u4 h=>?_))))
 refine GC.skip (GC.seq (GC.block (Zo (Zm (Za (GL.nil (Zo (Zm (Zm (Zm (Yx h fun p5 h=>?_)))))))))))
 obtain ⟨x10,v11,h⟩:=h
 refine Zv (OV.loadT rfl rfl rfl v11) (GL.callU (xv:=p_f) (vs:=[.agg (Qn.c x10).toArray]) h trivial rfl rfl rfl ?_)
 rintro _ H13 ⟨r12,rfl,h⟩
 refine GL.nil (Yd h (fun u14 h=>?_) fun u14 h=>?_)
 refine Zo (Zm (Za (GL.nil ?_)))
 exact Y1 I3 ⟨x1,rfl,h⟩
 refine GC.skip_to I3 (GC.region (Zi (.int .i64 (w .i64 (x1+1))) (Zm ?_)))
 exact Yj I3 (w .i64 (x1+1)) h
 refine GC.exit_to I3 (Zo (Za (GL.nil ?_)))
 exact Y1 I3 ⟨(-1),rfl,h⟩
def Qcx (C:Ctx) (p_x:Qn) (v0:Nat×Nat) (v1:Nat×Nat) (v2:Nat×Nat) (K:Bool→Heap→Prop) (H:Heap):Prop:=
 nw (Qn.c p_x) (fun b1 H2=>
 ldP H2 v0 fun x3=>
 ldS H2 ((b1,0).1,(b1,0).2+2) fun x5=>
 Qai C x3 x5 (fun r7 H8=>
 ldM H8 v1 fun x9=>
 lkM kI (fun x:Bool=>(.bool x:Value)) false x9 r7 (fun x11 is12=>
 jn (α:=Bool) (fun b14 H26=>
 K b14 H26)
 (fun J15=>ift (!x11)
 (ldP H8 v0 fun x18=>
 ldI H8 .i64 v2 fun x20=>
 ldM H8 v1 fun x22=>
 Qaj C x18 r7 x20 x22 (fun r24 H25=>
 J15 r24 H25) H8)
 (J15 false H8))) H8) H2) H
theorem Qeh (C p_x v0 v1 v2 K H) (h:Qcx C p_x v0 v1 v2 K H):QeC C p_x v0 v1 v2 K H:=by
 refine Ye Tryz.func149 rfl Tryz.ntmps149 [(0,.agg (Qn.c p_x).toArray),(1,pv (some v0)),(2,pv (some v1)),(3,pv (some v2))] (Zo (GL.box (v:=.agg (Qn.c p_x).toArray) (cs:=Qn.c p_x) h trivial rfl rfl rfl ?_))
 intro b1 H2 h
 refine Za (GL.nil (Zo (Yl h fun x3 h=>?_)))
 refine Zf (Yl h fun x5 h=>?_)
 refine Zc h Qa5 ?_
 rintro _ H8 ⟨r7,rfl,h⟩
 refine Za (GL.nil (Zo (Yl h fun x9 h=>?_)))
 refine Zm ?_
 obtain ⟨x11,is12,hr13,h⟩:=h
 refine Zv (OV.lookup1 (v:=.bool x11) (ke:=kI) (enc:=(fun x:Bool=>(.bool x:Value))) (z:=false) (q:=x9) (k:=r7) (x:=x11) (b:=is12) rfl hr13 rfl rfl rfl (kInt (by kernel_rfl)) rfl) (Zv (OV.not rfl) (Zm ?_))
 obtain ⟨J15,h,hR16⟩:=h
 refine GL.cut (α:=Bool) 6 J15 (fun b14=>[(21,.bool b14)]) ?_ ?_
 rcases h.em with ⟨u17,h⟩ | ⟨u17,h⟩
 obtain ⟨x18,hr19,h⟩:=h
 refine Zu u17 (Yo hr19) (Zu u17 Ym ?_)
 obtain ⟨x20,hr21,h⟩:=h
 refine Zu u17 (Yo hr21) ?_
 obtain ⟨x22,hr23,h⟩:=h
 refine Zu u17 (Yo hr23) (GL.call h (Yt u17) rfl QcS (vs:=[pv x18,.int .i64 r7,.int .i64 x20,mv x22]) rfl ?_)
 rintro _ H25 ⟨r24,rfl,h⟩
 refine Zt u17 ?_
 exact Yj I3 r24 h
 refine Zk u17 (Zk u17 (Zk u17 (Zk u17 (Zk u17 (Zn u17 ?_)))))
 exact Yj I3 false h
 intro b14 H26 h
 replace h:=hR16 b14 H26 h
 refine Za (GL.nil ?_)
 exact Y1 I3 ⟨b14,rfl,h⟩
def QbV (C:Ctx) (p_s:Sl) (p_v:Str) (K:Int→Heap→Prop) (H:Heap):Prop:=
 lp (α:=Int) 0 H (fun x1 J2 H3=>
 ift (decide ((x1:Int) < (Sl.len p_s:Int)))
 (ixa p_s x1 fun p5=>
 ldS H3 (p5.1,p5.2+(x1:Int).toNat*1) fun x10=>
 ift (p_v == x10)
 (K x1 H3)
 (J2 (w .i64 (x1+1)) H3))
 (K (-1) H3))
theorem QdW (C p_s p_v K H) (h:QbV C p_s p_v K H):Qcc C p_s p_v K H:=by
 refine Ye Tryz.func150 rfl Tryz.ntmps150 [(0,slv p_s),(1,sv p_v)] (Zo (Za (GL.nil (GC.seq (Zo (Zm (Zq (Zm (GL.nil (GC.block (Yp h (fun x1=>[(8,.int .i64 x1),(0,slv p_s),(1,sv p_v),(7,.int .i64 (Sl.len p_s:Int))]) ?_)))))))))))
 intro x1 H3 J2 h
 refine Zo (Zi (.bool (decide ((x1:Int) < (Sl.len p_s:Int)))) (GL.nil (GC.seq (Yd h (fun u4 h=>?_) fun u4 h=>?_))))
 refine GC.skip (GC.seq (GC.block (Zo (Zm (Za (GL.nil (Zo (Zm (Zm (Zm (Yx h fun p5 h=>?_)))))))))))
 refine Yl h fun x10 h=>?_
 refine Zv (OV.sbin (a:=p_v) (b:=x10) (v:=.bool (p_v == x10)) rfl rfl rfl) (GL.nil (Yd h (fun u12 h=>?_) fun u12 h=>?_))
 refine Zo (Zm (Za (GL.nil ?_)))
 exact Y1 I3 ⟨x1,rfl,h⟩
 refine GC.skip_to I3 (GC.region (Zi (.int .i64 (w .i64 (x1+1))) (Zm ?_)))
 exact Yj I3 (w .i64 (x1+1)) h
 refine GC.exit_to I3 (Zo (Za (GL.nil ?_)))
 exact Y1 I3 ⟨(-1),rfl,h⟩
def QT (C:Ctx) (p_s:Sl) (p_f:Value) (K:Int→Heap→Prop) (H:Heap):Prop:=
 lp (α:=Int) 0 H (fun x1 J2 H3=>
 ift (decide ((x1:Int) < (Sl.len p_s:Int)))
 (ixa p_s x1 fun p5=>
 ldT H3 Qc.c (p5.1,p5.2+(x1:Int).toNat*2) fun x10=>
 callU Tryz.prog C p_f [.agg (Qc.c x10).toArray] H3 (fun v H13=>∃ (r12:Bool),v=.bool r12∧
 ift r12
 (K x1 H13)
 (J2 (w .i64 (x1+1)) H13)))
 (K (-1) H3))
theorem Qaq (C p_s p_f K H) (h:QT C p_s p_f K H):Qav C p_s p_f K H:=by
 refine Ye Tryz.func151 rfl Tryz.ntmps151 [(0,slv p_s),(1,p_f)] (Zo (Za (GL.nil (GC.seq (Zo (Zm (Zq (Zm (GL.nil (GC.block (Yp h (fun x1=>[(8,.int .i64 x1),(0,slv p_s),(1,p_f),(7,.int .i64 (Sl.len p_s:Int))]) ?_)))))))))))
 intro x1 H3 J2 h
 refine Zo (Zi (.bool (decide ((x1:Int) < (Sl.len p_s:Int)))) (GL.nil (GC.seq (Yd h (fun u4 h=>?_) fun u4 h=>?_))))
 refine GC.skip (GC.seq (GC.block (Zo (Zm (Za (GL.nil (Zo (Zm (Zm (Zm (Yx h fun p5 h=>?_)))))))))))
 obtain ⟨x10,v11,h⟩:=h
 refine Zv (OV.loadT rfl rfl rfl v11) (GL.callU (xv:=p_f) (vs:=[.agg (Qc.c x10).toArray]) h trivial rfl rfl rfl ?_)
 rintro _ H13 ⟨r12,rfl,h⟩
 refine GL.nil (Yd h (fun u14 h=>?_) fun u14 h=>?_)
 refine Zo (Zm (Za (GL.nil ?_)))
 exact Y1 I3 ⟨x1,rfl,h⟩
 refine GC.skip_to I3 (GC.region (Zi (.int .i64 (w .i64 (x1+1))) (Zm ?_)))
 exact Yj I3 (w .i64 (x1+1)) h
 refine GC.exit_to I3 (Zo (Za (GL.nil ?_)))
 exact Y1 I3 ⟨(-1),rfl,h⟩
def QH (C:Ctx) (p_s:Sl) (p_f:Value) (K:Bool→Heap→Prop) (H:Heap):Prop:=
 Qao C p_s p_f (fun r1 H2=>
 K (decide ((r1:Int) ≥ 0)) H2) H
theorem Q9 (C p_s p_f K H) (h:QH C p_s p_f K H):Qv C p_s p_f K H:=by
 refine Ye Tryz.func152 rfl Tryz.ntmps152 [(0,slv p_s),(1,p_f)] (Zo (Za (GL.nil (Zo (Zm (Zm (Zc h Qby ?_)))))))
 rintro _ H2 ⟨r1,rfl,h⟩
 refine Zi (.bool (decide ((r1:Int) ≥ 0))) (Za (GL.nil ?_))
 exact Y1 I3 ⟨(decide ((r1:Int) ≥ 0)),rfl,h⟩
def Qgo (C:Ctx) (p_f:Qf) (v0:Nat×Nat) (K:Bool→Heap→Prop) (H:Heap):Prop:=
 nw (Qf.c p_f) (fun b1 H2=>
 ldT H2 Qd.c ((b1,0).1,(b1,0).2+1) fun x3=>
 ldL H2 v0 fun x5=>
 Qed C x3 x5 (fun r7 H8=>
 K r7 H8) H2) H
theorem Qi9 (C p_f v0 K H) (h:Qgo C p_f v0 K H):QjA C p_f v0 K H:=by
 refine Ye Tryz.func153 rfl Tryz.ntmps153 [(0,.agg (Qf.c p_f).toArray),(1,pv (some v0))] (Zo (GL.box (v:=.agg (Qf.c p_f).toArray) (cs:=Qf.c p_f) h trivial rfl rfl rfl ?_))
 intro b1 H2 h
 refine Za (GL.nil (Zo (Zf ?_)))
 obtain ⟨x3,hr4,h⟩:=h
 refine Zv (OV.loadT rfl rfl rfl hr4) (Yl h fun x5 h=>?_)
 refine Zc h QhE ?_
 rintro _ H8 ⟨r7,rfl,h⟩
 refine Za (GL.nil ?_)
 exact Y1 I3 ⟨r7,rfl,h⟩
def QhJ (C:Ctx) (p_t:Qd) (p_params:Sl) (K:Bool→Heap→Prop) (H:Heap):Prop:=
 nw (Qd.c p_t) (fun b1 H2=>
 nw ([slv p_params]) (fun b3 H4=>
 ldS H4 ((b1,0).1,(b1,0).2+0) fun x5=>
 ixs x5 0 fun c7=>
 ift (((c7.toNat:Int):Int) == 39)
 (ldL H4 (b3,0) fun x11=>
 ldS H4 ((b1,0).1,(b1,0).2+0) fun x13=>
 Qr C x11 x13 (fun r15 H16=>
 K (!r15) H16) H4)
 (ldL H4 ((b1,0).1,(b1,0).2+1) fun x17=>
 QG C x17 (.func (.func 203) (List.toArray []) (List.toArray [pv (some (b3,0))]):Value) (fun r19 H20=>
 K r19 H20) H4)) H2) H
theorem Qkn (C p_t p_params K H) (h:QhJ C p_t p_params K H):Qed C p_t p_params K H:=by
 refine Ye Tryz.func154 rfl Tryz.ntmps154 [(0,.agg (Qd.c p_t).toArray),(1,slv p_params)] (Zo (GL.box (v:=.agg (Qd.c p_t).toArray) (cs:=Qd.c p_t) h trivial rfl rfl rfl ?_))
 intro b1 H2 h
 refine GL.box (v:=slv p_params) (cs:=[slv p_params]) h trivial rfl rfl rfl ?_
 intro b3 H4 h
 refine Za (GL.nil (GC.seq (Zo (Zf (Yl h fun x5 h=>?_)))))
 refine Ys h fun c7 h=>?_
 refine Zi (.bool (((c7.toNat:Int):Int) == 39)) (GL.nil (Yd h (fun u10 h=>?_) fun u10 h=>?_))
 refine Zo (Yl h fun x11 h=>?_)
 refine Zf (Yl h fun x13 h=>?_)
 refine Zc h Qbn ?_
 rintro _ H16 ⟨r15,rfl,h⟩
 refine Zv (OV.not rfl) (Za (GL.nil ?_))
 exact Y1 I3 ⟨(!r15),rfl,h⟩
 refine GC.skip (Zo (Zf (Yl h fun x17 h=>?_)))
 refine Zv (OV.makeFunc (vs:=[]) (us:=[pv (some (b3,0))]) rfl rfl) (Zc h QaK ?_)
 rintro _ H20 ⟨r19,rfl,h⟩
 refine Za (GL.nil ?_)
 exact Y1 I3 ⟨r19,rfl,h⟩
def QdR (C:Ctx) (E:Value→Heap→Prop) (p_p:Option (Nat×Nat)) (p_m:Qa) (p_t:Qd) (p_pos:Qj) (K:Qd→Heap→Prop) (H:Heap):Prop:=
 nw (Qa.c p_m) (fun b1 H2=>
 nw (Qd.c p_t) (fun b3 H4=>
 nw (Qj.c p_pos) (fun b5 H6=>
 nw (Qd.c Qd.zero) (fun b7 H8=>
 jn (α:=Unit) (fun x10 H11=>
 ldL H11 ((b3,0).1,(b3,0).2+1) fun x39=>
 st ((b3,0).1,(b3,0).2+1) (slv Sl.nil) (fun H41=>
 lp (α:=Int) 0 H41 (fun x42 J43 H44=>
 ift (decide ((x42:Int) < (Sl.len x39:Int)))
 (ixa x39 x42 fun p46=>
 ldT H44 Qd.c (p46.1,p46.2+(x42:Int).toNat*2) fun x51=>
 nw (Qd.c Qd.zero) (fun b53 H54=>
 stT (b53,0) (Qd.c x51) (fun H55=>
 dr H55 fun Hs56=>
 ldL Hs56 ((b3,0).1,(b3,0).2+1) fun x58=>
 ldT Hs56 Qa.c (b1,0) fun x60=>
 ldT Hs56 Qd.c (b53,0) fun x62=>
 ldT Hs56 Qj.c (b5,0) fun x64=>
 Qbt C E p_p x60 x62 x64 (fun r67 H68=>
 Heap.le Hs56 H68∧
 nw ((Qd.c r67)++[]) (fun b70 H71=>
 Heap.le Hs56 H71∧
 apS (Qd.c Qd.zero) 40 x58 (Sl.of (some (b70,0)) 1 1) (fun r73 H74=>
 Heap.le Hs56 H74∧
 st ((b3,0).1,(b3,0).2+1) (slv r73) (fun H75=>
 J43 (w .i64 (x42+1)) H75) H74) H71) H68) H55) H54) H44)
 (ldT H44 Qd.c (b3,0) fun x76=>
 stT (b7,0) (Qd.c x76) (fun H78=>
 ldT H78 Qd.c (b7,0) fun x79=>
 K x79 H78) H44))) H11)
 (fun J9=>ldS H8 ((b3,0).1,(b3,0).2+0) fun x13=>
 jn (α:=Bool) (fun x16 H17=>
 ift x16
 (J9 () H17)
 (ldS H17 ((b3,0).1,(b3,0).2+0) fun x24=>
 ixs x24 0 fun c26=>
 ift (((c26.toNat:Int):Int) != 39)
 (ldT H17 Qa.c (b1,0) fun x30=>
 ldS H17 ((b3,0).1,(b3,0).2+0) fun x32=>
 ldT H17 Qj.c (b5,0) fun x34=>
 Q3 C E p_p x30 x32 0 x34 (fun r36 H37=>
 st ((b3,0).1,(b3,0).2+0) (sv r36) (fun H38=>
 J9 () H38) H37) H17)
 (J9 () H17)))
 (fun J15=>ift (x13 == ([98,111,111,108]:Str))
 (J15 (x13 == ([98,111,111,108]:Str)) H8)
 (ift (x13 == ([105,110,116]:Str))
 (J15 (x13 == ([105,110,116]:Str)) H8)
 (ift (x13 == ([98,105,103]:Str))
 (J15 (x13 == ([98,105,103]:Str)) H8)
 (ift (x13 == ([116,101,120,116]:Str))
 (J15 (x13 == ([116,101,120,116]:Str)) H8)
 (J15 (x13 == ([116,117,112,108,101]:Str)) H8))))))) H6) H4) H2) H
theorem QgO (C E p_p p_m p_t p_pos K H) (h:QdR C E p_p p_m p_t p_pos K H):Qbt C E p_p p_m p_t p_pos K H:=by
 refine SpecP.enter Tryz.func155 rfl Tryz.ntmps155 rfl (GC.sub [(0,pv p_p),(1,.agg (Qa.c p_m).toArray),(2,.agg (Qd.c p_t).toArray),(3,.agg (Qj.c p_pos).toArray)] ⟨rfl,rfl,rfl,rfl,trivial⟩ (Zo (GL.box (v:=.agg (Qa.c p_m).toArray) (cs:=Qa.c p_m) h trivial rfl rfl rfl ?_)))
 intro b1 H2 h
 refine GL.box (v:=.agg (Qd.c p_t).toArray) (cs:=Qd.c p_t) h trivial rfl rfl rfl ?_
 intro b3 H4 h
 refine GL.box (v:=.agg (Qj.c p_pos).toArray) (cs:=Qj.c p_pos) h trivial rfl rfl rfl ?_
 intro b5 H6 h
 refine GL.alloc (cs:=Qd.c Qd.zero) h trivial rfl rfl rfl ?_
 intro b7 H8 h
 refine GL.nil ?_
 obtain ⟨J9,h,hR12⟩:=h
 refine GC.join (α:=Unit) J9 (fun _=>[(0,pv p_p),(5,pv (some (b1,0))),(6,pv (some (b3,0))),(7,pv (some (b5,0))),(8,pv (some (b7,0)))]) ?_ ?_
 refine Zo (Zf (Yl h fun x13 h=>?_))
 refine GL.nil (GC.block ?_)
 obtain ⟨J15,h,hR18⟩:=h
 refine GC.join (α:=Bool) J15 (fun x16=>[(25,.bool x16),(0,pv p_p),(5,pv (some (b1,0))),(6,pv (some (b3,0))),(7,pv (some (b5,0))),(8,pv (some (b7,0)))]) ?_ ?_
 refine Zo (Zv (OV.sbin (a:=x13) (b:=([98,111,111,108]:Str)) (v:=.bool (x13 == ([98,111,111,108]:Str))) rfl rfl rfl) (Za (GL.nil (Yd h (fun u19 h=>?_) fun u19 h=>?_))))
 exact Yk I3 (x13 == ([98,111,111,108]:Str)) h
 refine Zo (Zv (OV.sbin (a:=x13) (b:=([105,110,116]:Str)) (v:=.bool (x13 == ([105,110,116]:Str))) rfl rfl rfl) (Za (GL.nil (Yd h (fun u20 h=>?_) fun u20 h=>?_))))
 exact Yk I3 (x13 == ([105,110,116]:Str)) h
 refine Zo (Zv (OV.sbin (a:=x13) (b:=([98,105,103]:Str)) (v:=.bool (x13 == ([98,105,103]:Str))) rfl rfl rfl) (Za (GL.nil (Yd h (fun u21 h=>?_) fun u21 h=>?_))))
 exact Yk I3 (x13 == ([98,105,103]:Str)) h
 refine Zo (Zv (OV.sbin (a:=x13) (b:=([116,101,120,116]:Str)) (v:=.bool (x13 == ([116,101,120,116]:Str))) rfl rfl rfl) (Za (GL.nil (Yd h (fun u22 h=>?_) fun u22 h=>?_))))
 exact Yk I3 (x13 == ([116,101,120,116]:Str)) h
 refine GC.region (Zv (OV.sbin (a:=x13) (b:=([116,117,112,108,101]:Str)) (v:=.bool (x13 == ([116,117,112,108,101]:Str))) rfl rfl rfl) (Za ?_))
 exact Yj I3 (x13 == ([116,117,112,108,101]:Str)) h
 intro x16 H17 h
 replace h:=hR18 x16 H17 h
 refine Yd h (fun u23 h=>?_) fun u23 h=>?_
 exact Yk I3 () h
 refine Zo (Zf (Yl h fun x24 h=>?_))
 refine Ys h fun c26 h=>?_
 refine Zi (.bool (((c26.toNat:Int):Int) != 39)) (GL.nil (Yd h (fun u29 h=>?_) fun u29 h=>?_))
 refine GC.region (Zm ?_)
 obtain ⟨x30,v31,h⟩:=h
 refine Zv (OV.loadT rfl rfl rfl v31) (Zf (Yl h fun x32 h=>?_))
 obtain ⟨x34,v35,h⟩:=h
 refine Zv (OV.loadT rfl rfl rfl v35) (GL.callP h (fun _ _ _ _ h=>h) trivial rfl Qa6 (vs:=[pv p_p,.agg (Qa.c x30).toArray,sv x32,.int .i64 0,.agg (Qj.c x34).toArray]) rfl ?_)
 rintro _ H37 ⟨r36,rfl,h⟩
 refine Zf (GL.store (p:=((b3,0).1,(b3,0).2+0)) (v:=sv r36) h trivial rfl rfl rfl rfl ?_)
 intro H38 h
 exact Yj I3 () h
 exact Yk I3 () h
 intro x10 H11 h
 replace h:=hR12 x10 H11 h
 refine Zo (Zf (Yl h fun x39 h=>?_))
 refine Za (GL.nil (Zo (Zf (GL.store (p:=((b3,0).1,(b3,0).2+1)) (v:=slv Sl.nil) h trivial rfl rfl rfl rfl ?_))))
 intro H41 h
 refine GL.nil (GC.seq (Zo (Zm (Zq (Zm (GL.nil (GC.block (Yp h (fun x42=>[(36,.int .i64 x42),(0,pv p_p),(5,pv (some (b1,0))),(6,pv (some (b3,0))),(7,pv (some (b5,0))),(8,pv (some (b7,0))),(34,slv x39),(35,.int .i64 (Sl.len x39:Int))]) ?_))))))))
 intro x42 H44 J43 h
 refine Zo (Zi (.bool (decide ((x42:Int) < (Sl.len x39:Int)))) (GL.nil (GC.seq (Yd h (fun u45 h=>?_) fun u45 h=>?_))))
 refine GC.skip (GC.seq (GC.block (Zo (Yx h fun p46 h=>?_))))
 obtain ⟨x51,v52,h⟩:=h
 refine Zv (OV.loadT rfl rfl rfl v52) (GL.alloc (cs:=Qd.c Qd.zero) h trivial rfl rfl rfl ?_)
 intro b53 H54 h
 refine GL.storeT (p:=(b53,0)) (vs:=Qd.c x51) h trivial rfl rfl rfl rfl ?_
 intro H55 h
 refine GL.nil ?_
 obtain ⟨Hs56,hle57,h⟩:=h
 refine GC.tail (Hs:=Hs56) 10 (by kernel_rfl) hle57 (by kernel_rfl) (GT.takeP 0 rfl trivial (OV.fieldAddr (p:=(b3,0)) rfl rfl) ?_)
 obtain ⟨x58,v59,h⟩:=h
 refine GT.takeP 1 rfl trivial (OV.load (p:=((b3,0).1,(b3,0).2+1)) rfl rfl v59) (GT.takeP 2 rfl trivial (OV.move (v:=pv p_p) rfl) ?_)
 obtain ⟨x60,v61,h⟩:=h
 refine GT.takeP 3 rfl trivial (OV.loadT (p:=(b1,0)) (cs:=Qa.c x60) rfl rfl rfl v61) ?_
 obtain ⟨x62,v63,h⟩:=h
 refine GT.takeP 4 rfl trivial (OV.loadT (p:=(b53,0)) (cs:=Qd.c x62) rfl rfl rfl v63) ?_
 obtain ⟨x64,v65,h⟩:=h
 refine GT.takeP 5 rfl trivial (OV.loadT (p:=(b5,0)) (cs:=Qj.c x64) rfl rfl rfl v65) (GT.eff 6 rfl (by kernel_rfl) rfl (GL.callP h (fun _ _ _ _ h=>h) trivial rfl QdP (vs:=[pv p_p,.agg (Qa.c x60).toArray,.agg (Qd.c x62).toArray,.agg (Qj.c x64).toArray]) rfl ?_))
 rintro _ H68 ⟨r67,rfl,h⟩
 obtain ⟨hle66,h⟩:=h
 refine GT.back hle66 (GT.eff 7 rfl (by kernel_rfl) rfl (GL.buildSlice (cs:=(Qd.c r67)++[]) h trivial rfl (vs:=[(0,.agg (Qd.c r67).toArray)]) rfl ⟨24,fun _=>by kernel_rfl⟩ ?_))
 intro b70 H71 h
 obtain ⟨hle69,h⟩:=h
 refine GT.back hle69 (GT.eff 8 rfl (by kernel_rfl) rfl (GL.appendS (s:=x58) (s2:=(Sl.of (some (b70,0)) 1 1)) (zc:=Qd.c Qd.zero) (bytes:=40) h trivial rfl rfl rfl ⟨⟨_,_,_,rfl,rfl,rfl,rfl,rfl,rfl⟩⟩ rfl ?_))
 intro r73 H74 h
 obtain ⟨hle72,h⟩:=h
 refine GT.back hle72 (GT.takeP 9 rfl trivial (OV.fieldAddr (p:=(b3,0)) rfl rfl) (GT.done (by kernel_rfl) ?_))
 show GL _ _ _ _ _ [_] _ _
 refine GL.store (p:=((b3,0).1,(b3,0).2+1)) (v:=slv r73) h trivial rfl rfl rfl rfl ?_
 intro H75 h
 refine GL.nil_to I3 (GC.region (Zi (.int .i64 (w .i64 (x42+1))) (Zm ?_)))
 exact Yj I3 (w .i64 (x42+1)) h
 refine GC.exit_to I3 (Zo ?_)
 obtain ⟨x76,v77,h⟩:=h
 refine Zv (OV.loadT rfl rfl rfl v77) (GL.storeT (p:=(b7,0)) (vs:=Qd.c x76) h trivial rfl rfl rfl rfl ?_)
 intro H78 h
 refine GL.nil ?_
 obtain ⟨x79,v80,h⟩:=h
 exact GC.ret (fun _ _ hf hs=>postP (E:=E) hf (Qmq rfl (RV.cellT (p:=(b7,0)) (cs:=Qd.c x79) rfl rfl rfl v80) hf hs ⟨x79,rfl,h⟩))
def QhL (C:Ctx) (p_s:Str) (p_sep:Str) (K:Str→Str→Bool→Heap→Prop) (H:Heap):Prop:=
 QcG C p_s p_sep (fun r1 r2 r3 H4=>
 K r1 r2 r3 H4) H
theorem Qkp (C p_s p_sep K H) (h:QhL C p_s p_sep K H):Qdq C p_s p_sep K H:=by
 refine Ye Tryz.func156 rfl Tryz.ntmps156 [(0,sv p_s),(1,sv p_sep)] (Zo (Za (Za (Za (GL.nil (Zo (Zm (Zm (Zc h Qep ?_)))))))))
 rintro _ H4 ⟨r1,r2,r3,rfl,h⟩
 refine Yv (sv r1) rfl rfl (Yv (sv r2) rfl rfl (Yv (.bool r3) rfl rfl (Za (Za (Za (GL.nil ?_))))))
 exact Y3 I3 ⟨r1,r2,r3,rfl,h⟩
def Qdb (C:Ctx) (p_x:Qn) (v0:Nat×Nat) (K:Bool→Heap→Prop) (H:Heap):Prop:=
 nw (Qn.c p_x) (fun b1 H2=>
 ldS H2 ((b1,0).1,(b1,0).2+2) fun x3=>
 ldS H2 v0 fun x5=>
 K (x3 == x5) H2) H
theorem Qfi (C p_x v0 K H) (h:Qdb C p_x v0 K H):Qf5 C p_x v0 K H:=by
 refine Ye Tryz.func157 rfl Tryz.ntmps157 [(0,.agg (Qn.c p_x).toArray),(1,pv (some v0))] (Zo (GL.box (v:=.agg (Qn.c p_x).toArray) (cs:=Qn.c p_x) h trivial rfl rfl rfl ?_))
 intro b1 H2 h
 refine Za (GL.nil (Zo (Zf (Yl h fun x3 h=>?_))))
 refine Yl h fun x5 h=>?_
 refine Zv (OV.sbin (a:=x3) (b:=x5) (v:=.bool (x3 == x5)) rfl rfl rfl) (Za (GL.nil ?_))
 exact Y1 I3 ⟨(x3 == x5),rfl,h⟩
def Qbg (C:Ctx) (p_s:Str) (p_prefix:Str) (K:Bool→Heap→Prop) (H:Heap):Prop:=
 jn (α:=Bool) (fun b1 H11=>
 K b1 H11)
 (fun J2=>ift (decide (((List.length p_s:Int):Int) ≥ (List.length p_prefix:Int)))
 (slS p_s 0 (List.length p_prefix:Int) fun t5=>
 J2 (t5 == p_prefix) H)
 (J2 false H))
theorem Qdn (C p_s p_prefix K H) (h:Qbg C p_s p_prefix K H):Q2 C p_s p_prefix K H:=by
 refine Ye Tryz.func158 rfl Tryz.ntmps158 [(0,sv p_s),(1,sv p_prefix)] (Zo (Za (GL.nil (Zo (Zm (Zr (Zm (Zr (Zi (.bool (decide (((List.length p_s:Int):Int) ≥ (List.length p_prefix:Int)))) (Zm ?_))))))))))
 obtain ⟨J2,h,hR3⟩:=h
 refine GL.cut (α:=Bool) 7 J2 (fun b1=>[(17,.bool b1)]) ?_ ?_
 rcases h.em with ⟨u4,h⟩ | ⟨u4,h⟩
 refine Zu u4 Ym (Zu u4 Ym (Zu u4 (OV.lenStr rfl rfl) ?_))
 obtain ⟨h6,h7,h8,t5,h9,h⟩:=h
 refine Zu u4 (OV.sliceStr (s:=p_s) h6 h7 h8 h9 rfl rfl rfl rfl rfl rfl) (Zu u4 Ym (Zu u4 (OV.sbin (a:=t5) (b:=p_prefix) (v:=.bool (t5 == p_prefix)) rfl rfl rfl) (Zt u4 ?_)))
 exact Yj I3 (t5 == p_prefix) h
 refine Zk u4 (Zk u4 (Zk u4 (Zk u4 (Zk u4 (Zk u4 (Zn u4 ?_))))))
 exact Yj I3 false h
 intro b1 H11 h
 replace h:=hR3 b1 H11 h
 refine Za (GL.nil ?_)
 exact Y1 I3 ⟨b1,rfl,h⟩
end
end Sx
end
