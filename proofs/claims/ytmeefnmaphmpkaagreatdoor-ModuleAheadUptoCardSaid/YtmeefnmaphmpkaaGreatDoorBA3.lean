/-
  Texts of this family, one behind the other: Sh4, Sh5.
-/
import Derived.Test.YtmeefnmaphmpkaaGreatDoorBA2
noncomputable section
set_option linter.unusedVariables false
set_option linter.unusedSimpArgs false
set_option maxRecDepth 10000
namespace Sx
section
set_option maxRecDepth 100000
open Go Go.Proofs
def QmD (C:Ctx) (p_r:Qk) (K:Bool→Heap→Prop) (H:Heap):Prop:=
 nw (Qk.c p_r) (fun b1 H2=>
 ldS H2 ((b1,0).1,(b1,0).2+2) fun x3=>
 Qe4 C x3 (fun r5 H6=>
 jn (α:=Bool) (fun b7 H13=>
 jn (α:=Bool) (fun b14 H22=>
 jn (α:=Bool) (fun b23 H31=>
 jn (α:=Bool) (fun b32 H40=>
 jn (α:=Bool) (fun b41 H49=>
 K b41 H49)
 (fun J42=>ift b32
 (ldL H40 ((b1,0).1,(b1,0).2+4) fun x45=>
 QaE C x45 (.func (.func 139) (List.toArray []) (List.toArray []):Value) (fun r47 H48=>
 J42 r47 H48) H40)
 (J42 false H40)))
 (fun J33=>ift b23
 (ldL H31 ((b1,0).1,(b1,0).2+5) fun x36=>
 QJ C x36 (.func (.func 53) (List.toArray []) (List.toArray []):Value) (fun r38 H39=>
 J33 r38 H39) H31)
 (J33 false H31)))
 (fun J24=>ift b14
 (ldL H22 ((b1,0).1,(b1,0).2+3) fun x27=>
 QI C x27 (.func (.func 138) (List.toArray []) (List.toArray []):Value) (fun r29 H30=>
 J24 r29 H30) H22)
 (J24 false H22)))
 (fun J15=>ift b7
 (ldL H13 ((b1,0).1,(b1,0).2+4) fun x18=>
 ldL H13 ((b1,0).1,(b1,0).2+3) fun x20=>
 J15 (((Sl.len x18:Int):Int) == (Sl.len x20:Int)) H13)
 (J15 false H13)))
 (fun J8=>ift r5
 (ldL H6 ((b1,0).1,(b1,0).2+3) fun x11=>
 J8 (decide (((Sl.len x11:Int):Int)≤8)) H6)
 (J8 false H6))) H2) H
theorem QpL (C p_r K H) (h:QmD C p_r K H):Qe5 C p_r K H:=by
 refine Ye Tryz.func49 rfl Tryz.ntmps49 [(0,.agg (Qk.c p_r).toArray)] (Zo (GL.box (v:=.agg (Qk.c p_r).toArray) (cs:=Qk.c p_r) h trivial rfl rfl rfl ?_))
 intro b1 H2 h
 refine Za (GL.nil (Zo (Zf (Yl h fun x3 h=>?_))))
 refine Zc h QgL ?_
 rintro _ H6 ⟨r5,rfl,h⟩
 refine Zm ?_
 obtain ⟨J8,h,hR9⟩:=h
 refine GL.cut (α:=Bool) 5 J8 (fun b7=>[(11,.bool b7),(1,pv (some (b1,0)))]) ?_ ?_
 rcases h.em with ⟨u10,h⟩ | ⟨u10,h⟩
 refine Zu u10 Yf ?_
 obtain ⟨x11,v12,h⟩:=h
 refine Zu u10 (Yo v12) (Zu u10 (OV.lenSl rfl rfl) (Zu u10 (OV.ibin (v:=.bool (decide (((Sl.len x11:Int):Int)≤8))) rfl rfl rfl) (Zt u10 ?_)))
 exact Yj I3 (decide (((Sl.len x11:Int):Int)≤8)) h
 refine Zk u10 (Zk u10 (Zk u10 (Zk u10 (Zn u10 ?_))))
 exact Yj I3 false h
 intro b7 H13 h
 replace h:=hR9 b7 H13 h
 refine Zm ?_
 obtain ⟨J15,h,hR16⟩:=h
 refine GL.cut (α:=Bool) 8 J15 (fun b14=>[(20,.bool b14),(1,pv (some (b1,0)))]) ?_ ?_
 rcases h.em with ⟨u17,h⟩ | ⟨u17,h⟩
 refine Zu u17 Yf ?_
 obtain ⟨x18,v19,h⟩:=h
 refine Zu u17 (Yo v19) (Zu u17 (OV.lenSl rfl rfl) (Zu u17 Yf ?_))
 obtain ⟨x20,v21,h⟩:=h
 refine Zu u17 (Yo v21) (Zu u17 (OV.lenSl rfl rfl) (Zu u17 (OV.ibin (v:=.bool (((Sl.len x18:Int):Int) == (Sl.len x20:Int))) rfl rfl rfl) (Zt u17 ?_)))
 exact Yj I3 (((Sl.len x18:Int):Int) == (Sl.len x20:Int)) h
 refine Zk u17 (Zk u17 (Zk u17 (Zk u17 (Zk u17 (Zk u17 (Zk u17 (Zn u17 ?_)))))))
 exact Yj I3 false h
 intro b14 H22 h
 replace h:=hR16 b14 H22 h
 refine Zm ?_
 obtain ⟨J24,h,hR25⟩:=h
 refine GL.cut (α:=Bool) 4 J24 (fun b23=>[(25,.bool b23),(1,pv (some (b1,0)))]) ?_ ?_
 rcases h.em with ⟨u26,h⟩ | ⟨u26,h⟩
 refine Zu u26 Yf ?_
 obtain ⟨x27,v28,h⟩:=h
 refine Zu u26 (Yo v28) (GL.call h (Yt u26) rfl QdH (vs:=[slv x27,.func (.func 138) (List.toArray []) (List.toArray [])]) rfl ?_)
 rintro _ H30 ⟨r29,rfl,h⟩
 refine Zt u26 ?_
 exact Yj I3 r29 h
 refine Zk u26 (Zk u26 (Zk u26 (Zn u26 ?_)))
 exact Yj I3 false h
 intro b23 H31 h
 replace h:=hR25 b23 H31 h
 refine Zm ?_
 obtain ⟨J33,h,hR34⟩:=h
 refine GL.cut (α:=Bool) 4 J33 (fun b32=>[(30,.bool b32),(1,pv (some (b1,0)))]) ?_ ?_
 rcases h.em with ⟨u35,h⟩ | ⟨u35,h⟩
 refine Zu u35 Yf ?_
 obtain ⟨x36,v37,h⟩:=h
 refine Zu u35 (Yo v37) (GL.call h (Yt u35) rfl QeE (vs:=[slv x36,.func (.func 53) (List.toArray []) (List.toArray [])]) rfl ?_)
 rintro _ H39 ⟨r38,rfl,h⟩
 refine Zt u35 ?_
 exact Yj I3 r38 h
 refine Zk u35 (Zk u35 (Zk u35 (Zn u35 ?_)))
 exact Yj I3 false h
 intro b32 H40 h
 replace h:=hR34 b32 H40 h
 refine Zm ?_
 obtain ⟨J42,h,hR43⟩:=h
 refine GL.cut (α:=Bool) 4 J42 (fun b41=>[(35,.bool b41)]) ?_ ?_
 rcases h.em with ⟨u44,h⟩ | ⟨u44,h⟩
 refine Zu u44 Yf ?_
 obtain ⟨x45,v46,h⟩:=h
 refine Zu u44 (Yo v46) (GL.call h (Yt u44) rfl QgK (vs:=[slv x45,.func (.func 139) (List.toArray []) (List.toArray [])]) rfl ?_)
 rintro _ H48 ⟨r47,rfl,h⟩
 refine Zt u44 ?_
 exact Yj I3 r47 h
 refine Zk u44 (Zk u44 (Zk u44 (Zn u44 ?_)))
 exact Yj I3 false h
 intro b41 H49 h
 replace h:=hR43 b41 H49 h
 refine Za (GL.nil ?_)
 exact Y1 I3 ⟨b41,rfl,h⟩
def Qfp (C:Ctx) (p_l:Sl) (p_is:Value) (K:Bool→Heap→Prop) (H:Heap):Prop:=
 (Value.cells p_is = #[p_is])∧nw ([p_is]) (fun b1 H2=>
 QaZ C p_l (.func (.func 141) (List.toArray []) (List.toArray [pv (some (b1,0))]):Value) (fun r4 H5=>
 K (!r4) H5) H2) H
theorem Qjx (C p_l p_is K H) (h:Qfp C p_l p_is K H):Q8 C p_l p_is K H:=by
 refine Ye Tryz.func50 rfl Tryz.ntmps50 [(0,slv p_l),(1,p_is)] (Zo ?_)
 obtain ⟨u3,h⟩:=h
 refine GL.box (v:=p_is) (cs:=[p_is]) h trivial rfl rfl u3 ?_
 intro b1 H2 h
 refine Za (GL.nil (Zo (Zm (Zv (OV.makeFunc (vs:=[]) (us:=[pv (some (b1,0))]) rfl rfl) (Zc h Qcw ?_)))))
 rintro _ H5 ⟨r4,rfl,h⟩
 refine Zv (OV.not rfl) (Za (GL.nil ?_))
 exact Y1 I3 ⟨(!r4),rfl,h⟩
def Qj8 (C:Ctx) (p_x:Qn) (K:Bool→Heap→Prop) (H:Heap):Prop:=
 nw (Qn.c p_x) (fun b1 H2=>
 ldS H2 ((b1,0).1,(b1,0).2+2) fun x3=>
 Qa3 C x3 (fun r5 H6=>
 jn (α:=Bool) (fun b7 H13=>
 jn (α:=Bool) (fun b14 H22=>
 K b14 H22)
 (fun J15=>ift b7
 (ldL H13 ((b1,0).1,(b1,0).2+3) fun x18=>
 QJ C x18 (.func (.func 53) (List.toArray []) (List.toArray []):Value) (fun r20 H21=>
 J15 r20 H21) H13)
 (J15 false H13)))
 (fun J8=>ift r5
 (ldL H6 ((b1,0).1,(b1,0).2+3) fun x11=>
 J8 (decide (((Sl.len x11:Int):Int) > 0)) H6)
 (J8 false H6))) H2) H
theorem Qm7 (C p_x K H) (h:Qj8 C p_x K H):QcE C p_x K H:=by
 refine Ye Tryz.func51 rfl Tryz.ntmps51 [(0,.agg (Qn.c p_x).toArray)] (Zo (GL.box (v:=.agg (Qn.c p_x).toArray) (cs:=Qn.c p_x) h trivial rfl rfl rfl ?_))
 intro b1 H2 h
 refine Za (GL.nil (Zo (Zf (Yl h fun x3 h=>?_))))
 refine Zc h Qbf ?_
 rintro _ H6 ⟨r5,rfl,h⟩
 refine Zm ?_
 obtain ⟨J8,h,hR9⟩:=h
 refine GL.cut (α:=Bool) 5 J8 (fun b7=>[(11,.bool b7),(1,pv (some (b1,0)))]) ?_ ?_
 rcases h.em with ⟨u10,h⟩ | ⟨u10,h⟩
 refine Zu u10 Yf ?_
 obtain ⟨x11,v12,h⟩:=h
 refine Zu u10 (Yo v12) (Zu u10 (OV.lenSl rfl rfl) (Zu u10 (OV.ibin (v:=.bool (decide (((Sl.len x11:Int):Int) > 0))) rfl rfl rfl) (Zt u10 ?_)))
 exact Yj I3 (decide (((Sl.len x11:Int):Int) > 0)) h
 refine Zk u10 (Zk u10 (Zk u10 (Zk u10 (Zn u10 ?_))))
 exact Yj I3 false h
 intro b7 H13 h
 replace h:=hR9 b7 H13 h
 refine Zm ?_
 obtain ⟨J15,h,hR16⟩:=h
 refine GL.cut (α:=Bool) 4 J15 (fun b14=>[(16,.bool b14)]) ?_ ?_
 rcases h.em with ⟨u17,h⟩ | ⟨u17,h⟩
 refine Zu u17 Yf ?_
 obtain ⟨x18,v19,h⟩:=h
 refine Zu u17 (Yo v19) (GL.call h (Yt u17) rfl QeE (vs:=[slv x18,.func (.func 53) (List.toArray []) (List.toArray [])]) rfl ?_)
 rintro _ H21 ⟨r20,rfl,h⟩
 refine Zt u17 ?_
 exact Yj I3 r20 h
 refine Zk u17 (Zk u17 (Zk u17 (Zn u17 ?_)))
 exact Yj I3 false h
 intro b14 H22 h
 replace h:=hR16 b14 H22 h
 refine Za (GL.nil ?_)
 exact Y1 I3 ⟨b14,rfl,h⟩
def QeJ (C:Ctx) (p_l:Sl) (p_is:Value) (K:Bool→Heap→Prop) (H:Heap):Prop:=
 (Value.cells p_is = #[p_is])∧nw ([p_is]) (fun b1 H2=>
 QaC C p_l (.func (.func 143) (List.toArray []) (List.toArray [pv (some (b1,0))]):Value) (fun r4 H5=>
 K (!r4) H5) H2) H
theorem Qim (C p_l p_is K H) (h:QeJ C p_l p_is K H):QJ C p_l p_is K H:=by
 refine Ye Tryz.func52 rfl Tryz.ntmps52 [(0,slv p_l),(1,p_is)] (Zo ?_)
 obtain ⟨u3,h⟩:=h
 refine GL.box (v:=p_is) (cs:=[p_is]) h trivial rfl rfl u3 ?_
 intro b1 H2 h
 refine Za (GL.nil (Zo (Zm (Zv (OV.makeFunc (vs:=[]) (us:=[pv (some (b1,0))]) rfl rfl) (Zc h QbV ?_)))))
 rintro _ H5 ⟨r4,rfl,h⟩
 refine Zv (OV.not rfl) (Za (GL.nil ?_))
 exact Y1 I3 ⟨(!r4),rfl,h⟩
def Qkd (C:Ctx) (p_x:Qi) (K:Bool→Heap→Prop) (H:Heap):Prop:=
 nw (Qi.c p_x) (fun b1 H2=>
 ldI H2 .u8 ((b1,0).1,(b1,0).2+0) fun x3=>
 jn (α:=Bool) (fun x6 H7=>
 ift x6
 (ldS H7 ((b1,0).1,(b1,0).2+3) fun x11=>
 Qe4 C x11 (fun r13 H14=>
 jn (α:=Bool) (fun b15 H21=>
 jn (α:=Bool) (fun b22 H30=>
 K b22 H30)
 (fun J23=>ift b15
 (ldL H21 ((b1,0).1,(b1,0).2+4) fun x26=>
 QI C x26 (.func (.func 144) (List.toArray []) (List.toArray []):Value) (fun r28 H29=>
 J23 r28 H29) H21)
 (J23 false H21)))
 (fun J16=>ift r13
 (ldL H14 ((b1,0).1,(b1,0).2+4) fun x19=>
 J16 (decide (((Sl.len x19:Int):Int)≤8)) H14)
 (J16 false H14))) H7)
 (ift ((x3:Int) == 3)
 (ldS H7 ((b1,0).1,(b1,0).2+3) fun x32=>
 jn (α:=Bool) (fun b34 H40=>
 jn (α:=Bool) (fun b41 H56=>
 K b41 H56)
 (fun J42=>ift b34
 (ldL H40 ((b1,0).1,(b1,0).2+4) fun x45=>
 ixa x45 0 fun p47=>
 ldT H40 Qb.c (p47.1,p47.2+(0:Int).toNat*9) fun x52=>
 Qch C x52 (fun r54 H55=>
 J42 r54 H55) H40)
 (J42 false H40)))
 (fun J35=>ift (x32 == ([]:Str))
 (ldL H7 ((b1,0).1,(b1,0).2+4) fun x38=>
 J35 (((Sl.len x38:Int):Int) == 1) H7)
 (J35 false H7)))
 (ift ((x3:Int) == 4)
 (ldS H7 ((b1,0).1,(b1,0).2+3) fun x58=>
 Qex C x58 (fun r60 H61=>
 jn (α:=Bool) (fun b62 H68=>
 jn (α:=Bool) (fun b69 H84=>
 K b69 H84)
 (fun J70=>ift b62
 (ldL H68 ((b1,0).1,(b1,0).2+4) fun x73=>
 ixa x73 0 fun p75=>
 ldT H68 Qb.c (p75.1,p75.2+(0:Int).toNat*9) fun x80=>
 Qch C x80 (fun r82 H83=>
 J70 r82 H83) H68)
 (J70 false H68)))
 (fun J63=>ift r60
 (ldL H61 ((b1,0).1,(b1,0).2+4) fun x66=>
 J63 (((Sl.len x66:Int):Int) == 1) H61)
 (J63 false H61))) H7)
 (K false H7))))
 (fun J5=>ift ((x3:Int) == 1)
 (J5 ((x3:Int) == 1) H2)
 (J5 ((x3:Int) == 2) H2))) H
theorem Qnc (C p_x K H) (h:Qkd C p_x K H):QcH C p_x K H:=by
 refine Ye Tryz.func53 rfl Tryz.ntmps53 [(0,.agg (Qi.c p_x).toArray)] (Zo (GL.box (v:=.agg (Qi.c p_x).toArray) (cs:=Qi.c p_x) h trivial rfl rfl rfl ?_))
 intro b1 H2 h
 refine Za (GL.nil (GC.seq (Zo (Zf (Yl h fun x3 h=>?_)))))
 refine GL.nil (GC.block ?_)
 obtain ⟨J5,h,hR8⟩:=h
 refine GC.join (α:=Bool) J5 (fun x6=>[(5,.bool x6),(1,pv (some (b1,0))),(4,.int .u8 x3)]) ?_ ?_
 refine Zo (Zi (.bool ((x3:Int) == 1)) (Za (GL.nil (Yd h (fun hc9 h=>?_) fun hc9 h=>?_))))
 exact Yk I3 ((x3:Int) == 1) h
 refine GC.region (Zi (.bool ((x3:Int) == 2)) (Za ?_))
 exact Yj I3 ((x3:Int) == 2) h
 intro x6 H7 h
 replace h:=hR8 x6 H7 h
 refine Yd h (fun hc10 h=>?_) fun hc10 h=>?_
 refine Zo (Zf (Yl h fun x11 h=>?_))
 refine Zc h QgL ?_
 rintro _ H14 ⟨r13,rfl,h⟩
 refine Zm ?_
 obtain ⟨J16,h,hR17⟩:=h
 refine GL.cut (α:=Bool) 5 J16 (fun b15=>[(16,.bool b15),(1,pv (some (b1,0)))]) ?_ ?_
 rcases h.em with ⟨hc18,h⟩ | ⟨hc18,h⟩
 refine Zu hc18 Yf ?_
 obtain ⟨x19,v20,h⟩:=h
 refine Zu hc18 (Yo v20) (Zu hc18 (OV.lenSl rfl rfl) (Zu hc18 (OV.ibin (v:=.bool (decide (((Sl.len x19:Int):Int)≤8))) rfl rfl rfl) (Zt hc18 ?_)))
 exact Yj I3 (decide (((Sl.len x19:Int):Int)≤8)) h
 refine Zk hc18 (Zk hc18 (Zk hc18 (Zk hc18 (Zn hc18 ?_))))
 exact Yj I3 false h
 intro b15 H21 h
 replace h:=hR17 b15 H21 h
 refine Zm ?_
 obtain ⟨J23,h,hR24⟩:=h
 refine GL.cut (α:=Bool) 4 J23 (fun b22=>[(21,.bool b22)]) ?_ ?_
 rcases h.em with ⟨hc25,h⟩ | ⟨hc25,h⟩
 refine Zu hc25 Yf ?_
 obtain ⟨x26,v27,h⟩:=h
 refine Zu hc25 (Yo v27) (GL.call h (Yt hc25) rfl QdH (vs:=[slv x26,.func (.func 144) (List.toArray []) (List.toArray [])]) rfl ?_)
 rintro _ H29 ⟨r28,rfl,h⟩
 refine Zt hc25 ?_
 exact Yj I3 r28 h
 refine Zk hc25 (Zk hc25 (Zk hc25 (Zn hc25 ?_)))
 exact Yj I3 false h
 intro b22 H30 h
 replace h:=hR24 b22 H30 h
 refine Za (GL.nil ?_)
 exact Y1 I3 ⟨b22,rfl,h⟩
 refine Zo (Zi (.bool ((x3:Int) == 3)) (Za (GL.nil (Yd h (fun hc31 h=>?_) fun hc31 h=>?_))))
 refine Zo (Zf (Yl h fun x32 h=>?_))
 refine Zv (OV.sbin (a:=x32) (b:=([]:Str)) (v:=.bool (x32 == ([]:Str))) rfl rfl rfl) (Zm ?_)
 obtain ⟨J35,h,hR36⟩:=h
 refine GL.cut (α:=Bool) 5 J35 (fun b34=>[(32,.bool b34),(1,pv (some (b1,0)))]) ?_ ?_
 rcases h.em with ⟨hc37,h⟩ | ⟨hc37,h⟩
 refine Zu hc37 Yf ?_
 obtain ⟨x38,v39,h⟩:=h
 refine Zu hc37 (Yo v39) (Zu hc37 (OV.lenSl rfl rfl) (Zu hc37 (OV.ibin (v:=.bool (((Sl.len x38:Int):Int) == 1)) rfl rfl rfl) (Zt hc37 ?_)))
 exact Yj I3 (((Sl.len x38:Int):Int) == 1) h
 refine Zk hc37 (Zk hc37 (Zk hc37 (Zk hc37 (Zn hc37 ?_))))
 exact Yj I3 false h
 intro b34 H40 h
 replace h:=hR36 b34 H40 h
 refine Zm ?_
 obtain ⟨J42,h,hR43⟩:=h
 refine GL.cut (α:=Bool) 6 J42 (fun b41=>[(39,.bool b41)]) ?_ ?_
 rcases h.em with ⟨hc44,h⟩ | ⟨hc44,h⟩
 refine Zu hc44 Yf ?_
 obtain ⟨x45,v46,h⟩:=h
 refine Zu hc44 (Yo v46) ?_
 obtain ⟨p47,ha48,hb49,hc50,hd51,h⟩:=h
 refine Zu hc44 (OV.indexAddr rfl rfl rfl rfl ha48 hb49 hc50 hd51) ?_
 obtain ⟨x52,v53,h⟩:=h
 refine Zu hc44 (OV.loadT rfl rfl rfl v53) (GL.call h (Yt hc44) rfl QjS (vs:=[.agg (Qb.c x52).toArray]) rfl ?_)
 rintro _ H55 ⟨r54,rfl,h⟩
 refine Zt hc44 ?_
 exact Yj I3 r54 h
 refine Zk hc44 (Zk hc44 (Zk hc44 (Zk hc44 (Zk hc44 (Zn hc44 ?_)))))
 exact Yj I3 false h
 intro b41 H56 h
 replace h:=hR43 b41 H56 h
 refine Za (GL.nil ?_)
 exact Y1 I3 ⟨b41,rfl,h⟩
 refine Zo (Zi (.bool ((x3:Int) == 4)) (Za (GL.nil (Yd h (fun hc57 h=>?_) fun hc57 h=>?_))))
 refine Zo (Zf (Yl h fun x58 h=>?_))
 refine Zc h QiU ?_
 rintro _ H61 ⟨r60,rfl,h⟩
 refine Zm ?_
 obtain ⟨J63,h,hR64⟩:=h
 refine GL.cut (α:=Bool) 5 J63 (fun b62=>[(50,.bool b62),(1,pv (some (b1,0)))]) ?_ ?_
 rcases h.em with ⟨hc65,h⟩ | ⟨hc65,h⟩
 refine Zu hc65 Yf ?_
 obtain ⟨x66,v67,h⟩:=h
 refine Zu hc65 (Yo v67) (Zu hc65 (OV.lenSl rfl rfl) (Zu hc65 (OV.ibin (v:=.bool (((Sl.len x66:Int):Int) == 1)) rfl rfl rfl) (Zt hc65 ?_)))
 exact Yj I3 (((Sl.len x66:Int):Int) == 1) h
 refine Zk hc65 (Zk hc65 (Zk hc65 (Zk hc65 (Zn hc65 ?_))))
 exact Yj I3 false h
 intro b62 H68 h
 replace h:=hR64 b62 H68 h
 refine Zm ?_
 obtain ⟨J70,h,hR71⟩:=h
 refine GL.cut (α:=Bool) 6 J70 (fun b69=>[(57,.bool b69)]) ?_ ?_
 rcases h.em with ⟨hc72,h⟩ | ⟨hc72,h⟩
 refine Zu hc72 Yf ?_
 obtain ⟨x73,v74,h⟩:=h
 refine Zu hc72 (Yo v74) ?_
 obtain ⟨p75,ha76,hb77,hc78,hd79,h⟩:=h
 refine Zu hc72 (OV.indexAddr rfl rfl rfl rfl ha76 hb77 hc78 hd79) ?_
 obtain ⟨x80,v81,h⟩:=h
 refine Zu hc72 (OV.loadT rfl rfl rfl v81) (GL.call h (Yt hc72) rfl QjS (vs:=[.agg (Qb.c x80).toArray]) rfl ?_)
 rintro _ H83 ⟨r82,rfl,h⟩
 refine Zt hc72 ?_
 exact Yj I3 r82 h
 refine Zk hc72 (Zk hc72 (Zk hc72 (Zk hc72 (Zk hc72 (Zn hc72 ?_)))))
 exact Yj I3 false h
 intro b69 H84 h
 replace h:=hR71 b69 H84 h
 refine Za (GL.nil ?_)
 exact Y1 I3 ⟨b69,rfl,h⟩
 refine GC.skip_to I3 (Zo (Za (GL.nil ?_)))
 exact Y1 I3 ⟨false,rfl,h⟩
def Qj9 (C:Ctx) (p_x:Qk) (K:Bool→Heap→Prop) (H:Heap):Prop:=
 nw (Qk.c p_x) (fun b1 H2=>
 ldL H2 ((b1,0).1,(b1,0).2+5) fun x3=>
 K (decide (((Sl.len x3:Int):Int)≤12)) H2) H
theorem Qm8 (C p_x K H) (h:Qj9 C p_x K H):QcF C p_x K H:=by
 refine Ye Tryz.func54 rfl Tryz.ntmps54 [(0,.agg (Qk.c p_x).toArray)] (Zo (GL.box (v:=.agg (Qk.c p_x).toArray) (cs:=Qk.c p_x) h trivial rfl rfl rfl ?_))
 intro b1 H2 h
 refine Za (GL.nil (Zo (Zf (Yl h fun x3 h=>?_))))
 refine Zq (Zi (.bool (decide (((Sl.len x3:Int):Int)≤12))) (Za (GL.nil ?_)))
 exact Y1 I3 ⟨(decide (((Sl.len x3:Int):Int)≤12)),rfl,h⟩
def Qka (C:Ctx) (p_x:Qn) (K:Bool→Heap→Prop) (H:Heap):Prop:=
 nw (Qn.c p_x) (fun b1 H2=>
 ldL H2 ((b1,0).1,(b1,0).2+3) fun x3=>
 K (decide (((Sl.len x3:Int):Int)≤12)) H2) H
theorem Qm9 (C p_x K H) (h:Qka C p_x K H):QcG C p_x K H:=by
 refine Ye Tryz.func55 rfl Tryz.ntmps55 [(0,.agg (Qn.c p_x).toArray)] (Zo (GL.box (v:=.agg (Qn.c p_x).toArray) (cs:=Qn.c p_x) h trivial rfl rfl rfl ?_))
 intro b1 H2 h
 refine Za (GL.nil (Zo (Zf (Yl h fun x3 h=>?_))))
 refine Zq (Zi (.bool (decide (((Sl.len x3:Int):Int)≤12))) (Za (GL.nil ?_)))
 exact Y1 I3 ⟨(decide (((Sl.len x3:Int):Int)≤12)),rfl,h⟩
def Qj4 (C:Ctx) (E:Value→Heap→Prop) (p_m:Qa) (p_pos:Qf) (p_e:Int) (K:Heap→Prop) (H:Heap):Prop:=
 nw (Qa.c p_m) (fun b1 H2=>
 nw (Qf.c p_pos) (fun b3 H4=>
 ldS H4 ((b1,0).1,(b1,0).2+0) fun x5=>
 ldT H4 Qf.c (b3,0) fun x7=>
 E (.iface 89 (.agg (Qs.c (⟨(⟨x5,x7⟩:Qc),p_e⟩:Qs)).toArray:Value)) H4) H2) H
theorem Qm3 (C E p_m p_pos p_e K H) (h:Qj4 C E p_m p_pos p_e K H):QH C E p_m p_pos p_e K H:=by
 refine SpecP.enter Tryz.func56 rfl Tryz.ntmps56 rfl (GC.sub [(0,.agg (Qa.c p_m).toArray),(1,.agg (Qf.c p_pos).toArray),(2,.int .i64 p_e)] ⟨rfl,rfl,rfl,trivial⟩ (Zo (GL.box (v:=.agg (Qa.c p_m).toArray) (cs:=Qa.c p_m) h trivial rfl rfl rfl ?_)))
 intro b1 H2 h
 refine GL.box (v:=.agg (Qf.c p_pos).toArray) (cs:=Qf.c p_pos) h trivial rfl rfl rfl ?_
 intro b3 H4 h
 refine GL.nil (GC.region (Zf (Yl h fun x5 h=>?_)))
 obtain ⟨x7,v8,h⟩:=h
 refine Zv (OV.loadT rfl rfl rfl v8) (Zv (OV.build (vs:=[(0,sv x5),(1,.agg (Qf.c x7).toArray)]) (v:=.agg (Qc.c (⟨x5,x7⟩:Qc)).toArray) rfl (fun _=>by kernel_rfl)) (Zm (Zv (OV.build (vs:=[(0,.agg (Qc.c (⟨x5,x7⟩:Qc)).toArray),(1,.int .i64 p_e)]) (v:=.agg (Qs.c (⟨(⟨x5,x7⟩:Qc),p_e⟩:Qs)).toArray) rfl (fun _=>by kernel_rfl)) (Zv (OV.makeInterface (u:=.agg (Qs.c (⟨(⟨x5,x7⟩:Qc),p_e⟩:Qs)).toArray) rfl (by kernel_rfl)) ?_))))
 exact GL.panic (t:=89) (u:=(.agg (Qs.c (⟨(⟨x5,x7⟩:Qc),p_e⟩:Qs)).toArray:Value)) h (fun _ _ _ _ h=>h) trivial rfl
def QeV (C:Ctx) (p_p:Option (Nat×Nat)) (p_name:Str) (K:Int→Heap→Prop) (H:Heap):Prop:=
 nw ([sv p_name]) (fun b1 H2=>
 nck p_p fun p3=>
 ldL H2 (p3.1,p3.2+0) fun x5=>
 Qa7 C x5 (.func (.func 147) (List.toArray []) (List.toArray [pv (some (b1,0))]):Value) (fun r7 H8=>
 K r7 H8) H2) H
theorem Qi3 (C p_p p_name K H) (h:QeV C p_p p_name K H):Qaz C p_p p_name K H:=by
 refine Ye Tryz.func57 rfl Tryz.ntmps57 [(0,pv p_p),(1,sv p_name)] (Zo (GL.box (v:=sv p_name) (cs:=[sv p_name]) h trivial rfl rfl rfl ?_))
 intro b1 H2 h
 refine Za (GL.nil (Zo (Zm ?_)))
 obtain ⟨p3,hp4,h⟩:=h
 refine Zv (OV.nilCheck (q:=p_p) rfl hp4) (Zf (Yl h fun x5 h=>?_))
 refine Zv (OV.makeFunc (vs:=[]) (us:=[pv (some (b1,0))]) rfl rfl) (Zc h QcS ?_)
 rintro _ H8 ⟨r7,rfl,h⟩
 refine Za (GL.nil ?_)
 exact Y1 I3 ⟨r7,rfl,h⟩
def QF (C:Ctx) (p_s:Sl) (p_f:Value) (K:Bool→Heap→Prop) (H:Heap):Prop:=
 Qa6 C p_s p_f (fun r1 H2=>
 K (decide ((r1:Int) ≥ 0)) H2) H
theorem QY (C p_s p_f K H) (h:QF C p_s p_f K H):Qu C p_s p_f K H:=by
 refine Ye Tryz.func58 rfl Tryz.ntmps58 [(0,slv p_s),(1,p_f)] (Zo (Za (GL.nil (Zo (Zm (Zm (Zc h QcR ?_)))))))
 rintro _ H2 ⟨r1,rfl,h⟩
 refine Zi (.bool (decide ((r1:Int) ≥ 0))) (Za (GL.nil ?_))
 exact Y1 I3 ⟨(decide ((r1:Int) ≥ 0)),rfl,h⟩
def Qdg (C:Ctx) (p_y:Qp) (v0:Nat×Nat) (K:Bool→Heap→Prop) (H:Heap):Prop:=
 nw (Qp.c p_y) (fun b1 H2=>
 ldS H2 ((b1,0).1,(b1,0).2+2) fun x3=>
 ldS H2 (v0.1,v0.2+2) fun x5=>
 K (x3 == x5) H2) H
theorem Qf0 (C p_y v0 K H) (h:Qdg C p_y v0 K H):Qgv C p_y v0 K H:=by
 refine Ye Tryz.func59 rfl Tryz.ntmps59 [(0,.agg (Qp.c p_y).toArray),(1,pv (some v0))] (Zo (GL.box (v:=.agg (Qp.c p_y).toArray) (cs:=Qp.c p_y) h trivial rfl rfl rfl ?_))
 intro b1 H2 h
 refine Za (GL.nil (Zo (Zf (Yl h fun x3 h=>?_))))
 refine Zf (Yl h fun x5 h=>?_)
 refine Zv (OV.sbin (a:=x3) (b:=x5) (v:=.bool (x3 == x5)) rfl rfl rfl) (Za (GL.nil ?_))
 exact Y1 I3 ⟨(x3 == x5),rfl,h⟩
def QdS (C:Ctx) (p_p:Option (Nat×Nat)) (p_from:Int) (p_to:Int) (p_seen:Option Nat) (K:Bool→Heap→Prop) (H:Heap):Prop:=
 nw ([pv p_p]) (fun b1 H2=>
 nw ([.int .i64 p_to]) (fun b3 H4=>
 nw ([mv p_seen]) (fun b5 H6=>
 ldI H6 .i64 (b3,0) fun x7=>
 ift ((p_from:Int) == x7)
 (K true H6)
 (ldM H6 (b5,0) fun x10=>
 upS kI (fun x:Bool=>(.bool x:Value)) x10 p_from true (fun H12=>
 ldP H12 (b1,0) fun x13=>
 nck x13 fun p15=>
 ldL H12 (p15.1,p15.2+0) fun x17=>
 ixa x17 p_from fun p19=>
 ldL H12 ((p19.1,p19.2+(p_from:Int).toNat*6).1,(p19.1,p19.2+(p_from:Int).toNat*6).2+1) fun x24=>
 Qu C x24 (.func (.func 149) (List.toArray []) (List.toArray [pv (some (b1,0)),pv (some (b5,0)),pv (some (b3,0))]):Value) (fun r26 H27=>
 K r26 H27) H12) H6)) H4) H2) H
theorem Qg0 (C p_p p_from p_to p_seen K H) (h:QdS C p_p p_from p_to p_seen K H):QaA C p_p p_from p_to p_seen K H:=by
 refine Ye Tryz.func60 rfl Tryz.ntmps60 [(0,pv p_p),(1,.int .i64 p_from),(2,.int .i64 p_to),(3,mv p_seen)] (Zo (GL.box (v:=pv p_p) (cs:=[pv p_p]) h trivial rfl rfl rfl ?_))
 intro b1 H2 h
 refine GL.box (v:=.int .i64 p_to) (cs:=[.int .i64 p_to]) h trivial rfl rfl rfl ?_
 intro b3 H4 h
 refine GL.box (v:=mv p_seen) (cs:=[mv p_seen]) h trivial rfl rfl rfl ?_
 intro b5 H6 h
 refine Za (GL.nil (GC.seq (Zo (Zm (Yl h fun x7 h=>?_)))))
 refine Zi (.bool ((p_from:Int) == x7)) (GL.nil (Yd h (fun u9 h=>?_) fun u9 h=>?_))
 refine Zo (Za (GL.nil ?_))
 exact Y1 I3 ⟨true,rfl,h⟩
 refine GC.skip (Zo (Yl h fun x10 h=>?_))
 refine Zm (GL.mapUpdateS (ke:=kI) (enc:=(fun x:Bool=>(.bool x:Value))) (q:=x10) (k:=p_from) (x:=true) h trivial rfl rfl rfl rfl (kInt (by kernel_rfl)) ?_)
 intro H12 h
 refine GL.nil (Zo (Yl h fun x13 h=>?_))
 obtain ⟨p15,hp16,h⟩:=h
 refine Zv (OV.nilCheck (q:=x13) rfl hp16) (Zf (Yl h fun x17 h=>?_))
 refine Zm (Yx h fun p19 h=>?_)
 refine Zf (Yl h fun x24 h=>?_)
 refine Zv (OV.makeFunc (vs:=[]) (us:=[pv (some (b1,0)),pv (some (b5,0)),pv (some (b3,0))]) rfl rfl) (Zc h QE ?_)
 rintro _ H27 ⟨r26,rfl,h⟩
 refine Za (GL.nil ?_)
 exact Y1 I3 ⟨r26,rfl,h⟩
def QeX (C:Ctx) (p_p:Option (Nat×Nat)) (p_m:Qa) (p_own:Str) (p_kind:Int) (p_pub:Bool) (K:Bool→Heap→Prop) (H:Heap):Prop:=
 nw (Qa.c p_m) (fun b1 H2=>
 ldS H2 ((b1,0).1,(b1,0).2+0) fun x3=>
 nw (Qv.c Qv.zero) (fun b5 H6=>
 stT (b5,0) (Qv.c (⟨x3,p_own,p_kind⟩:Qv)) (fun H7=>
 nck p_p fun p8=>
 ldM H7 (p8.1,p8.2+1) fun x10=>
 ldT H7 Qv.c (b5,0) fun x12=>
 lkM kp3 (fun x:Bool=>(.bool x:Value)) false x10 (x12.mod_,x12.own_,x12.kind_) (fun x14 is15=>
 jn (α:=Unit) (fun x18 H19=>
 K (!is15) H19)
 (fun J17=>ift (!is15)
 (dr H7 fun Hs22=>
 nck p_p fun p24=>
 ldM Hs22 (p24.1,p24.2+1) fun x26=>
 ldT Hs22 Qv.c (b5,0) fun x28=>
 upS kp3 (fun x:Bool=>(.bool x:Value)) x26 (x28.mod_,x28.own_,x28.kind_) p_pub (fun H31=>
 Heap.le Hs22 H31∧
 J17 () H31) H7)
 (J17 () H7))) H7) H6) H2) H
theorem Qi5 (C p_p p_m p_own p_kind p_pub K H) (h:QeX C p_p p_m p_own p_kind p_pub K H):QaB C p_p p_m p_own p_kind p_pub K H:=by
 refine Ye Tryz.func61 rfl Tryz.ntmps61 [(0,pv p_p),(1,.agg (Qa.c p_m).toArray),(2,sv p_own),(3,.int .i64 p_kind),(4,.bool p_pub)] (Zo (GL.box (v:=.agg (Qa.c p_m).toArray) (cs:=Qa.c p_m) h trivial rfl rfl rfl ?_))
 intro b1 H2 h
 refine Za (GL.nil (Zo (Zf (Yl h fun x3 h=>?_))))
 refine Zm (Zm (Zv (OV.build (vs:=[(0,sv x3),(1,sv p_own),(2,.int .i64 p_kind)]) (v:=.agg (Qv.c (⟨x3,p_own,p_kind⟩:Qv)).toArray) rfl (fun _=>by kernel_rfl)) (GL.alloc (cs:=Qv.c Qv.zero) h trivial rfl rfl rfl ?_)))
 intro b5 H6 h
 refine GL.storeT (p:=(b5,0)) (vs:=Qv.c (⟨x3,p_own,p_kind⟩:Qv)) h trivial rfl rfl rfl rfl ?_
 intro H7 h
 refine GL.nil (GC.seq (GC.draw (by kernel_rfl) (by kernel_rfl) (GQ.val trivial rfl (OV.move (v:=pv p_p) rfl) ?_)))
 obtain ⟨p8,hp9,h⟩:=h
 refine GQ.val trivial rfl (OV.nilCheck (q:=p_p) rfl hp9) (GQ.val trivial rfl (OV.fieldAddr (p:=p8) rfl rfl) ?_)
 obtain ⟨x10,v11,h⟩:=h
 refine GQ.val trivial rfl (OV.load (p:=(p8.1,p8.2+1)) rfl rfl v11) ?_
 obtain ⟨x12,v13,h⟩:=h
 refine GQ.val trivial rfl (OV.loadT (p:=(b5,0)) (cs:=Qv.c x12) rfl rfl rfl v13) ?_
 obtain ⟨x14,is15,v16,h⟩:=h
 refine GQ.val trivial rfl (OV.lookup2 (v:=.tuple #[.bool x14,.bool is15]) (ke:=kp3) (enc:=(fun x:Bool=>(.bool x:Value))) (z:=false) (q:=x10) (k:=(x12.mod_,x12.own_,x12.kind_)) (x:=x14) (b:=is15) rfl v16 rfl rfl rfl kOk206 rfl) (GQ.val trivial rfl (OV.move (v:=.tuple #[.bool x14,.bool is15]) rfl) (GQ.val trivial rfl (OV.extract (v:=.bool x14) rfl rfl) (GQ.val trivial rfl (OV.extract (v:=.bool is15) rfl rfl) (GQ.val trivial rfl (OV.assign (v:=.bool x14) rfl) (GQ.val trivial rfl (OV.assign (v:=.bool is15) rfl) (GQ.nil (GL.nil ?_)))))))
 obtain ⟨J17,h,hR20⟩:=h
 refine GC.join (α:=Unit) J17 (fun _=>[(13,.bool is15)]) ?_ ?_
 refine Zo (Zm (Zv (OV.not rfl) (GL.nil (Yd h (fun u21 h=>?_) fun u21 h=>?_))))
 obtain ⟨Hs22,hle23,h⟩:=h
 refine GC.any (Hs:=Hs22) (by kernel_rfl) hle23 (Zp 0 rfl Ym ?_)
 obtain ⟨p24,hp25,h⟩:=h
 refine Zp 1 rfl (OV.nilCheck (q:=p_p) rfl hp25) (Zp 2 rfl Yf ?_)
 obtain ⟨x26,v27,h⟩:=h
 refine Zp 3 rfl (Yo v27) ?_
 obtain ⟨x28,v29,h⟩:=h
 refine Zp 4 rfl (OV.loadT rfl rfl rfl v29) (Zp 5 rfl Ym (GA.eff 6 rfl (by kernel_rfl) (GL.mapUpdateS (ke:=kp3) (enc:=(fun x:Bool=>(.bool x:Value))) (q:=x26) (k:=(x28.mod_,x28.own_,x28.kind_)) (x:=p_pub) h trivial rfl rfl rfl rfl kOk206 ?_)))
 intro H31 h
 obtain ⟨hle30,h⟩:=h
 refine GA.back hle30 (GA.done (by kernel_rfl) ?_)
 exact Yj I3 () h
 exact Yk I3 () h
 intro x18 H19 h
 replace h:=hR20 x18 H19 h
 refine Zo (Zm (Zv (OV.not rfl) (Za (GL.nil ?_))))
 exact Y1 I3 ⟨(!is15),rfl,h⟩
def QbS (C:Ctx) (p_s:Sl) (p_v:Str) (K:Bool→Heap→Prop) (H:Heap):Prop:=
 QcU C p_s p_v (fun r1 H2=>
 K (decide ((r1:Int) ≥ 0)) H2) H
theorem QeQ (C p_s p_v K H) (h:QbS C p_s p_v K H):Qw C p_s p_v K H:=by
 refine Ye Tryz.func62 rfl Tryz.ntmps62 [(0,slv p_s),(1,sv p_v)] (Zo (Za (GL.nil (Zo (Zm (Zm (Zc h QfB ?_)))))))
 rintro _ H2 ⟨r1,rfl,h⟩
 refine Zi (.bool (decide ((r1:Int) ≥ 0))) (Za (GL.nil ?_))
 exact Y1 I3 ⟨(decide ((r1:Int) ≥ 0)),rfl,h⟩
def QV (C:Ctx) (p_s:Sl) (p_f:Value) (K:Bool→Heap→Prop) (H:Heap):Prop:=
 QaT C p_s p_f (fun r1 H2=>
 K (decide ((r1:Int) ≥ 0)) H2) H
theorem Qar (C p_s p_f K H) (h:QV C p_s p_f K H):QD C p_s p_f K H:=by
 refine Ye Tryz.func63 rfl Tryz.ntmps63 [(0,slv p_s),(1,p_f)] (Zo (Za (GL.nil (Zo (Zm (Zm (Zc h Qcp ?_)))))))
 rintro _ H2 ⟨r1,rfl,h⟩
 refine Zi (.bool (decide ((r1:Int) ≥ 0))) (Za (GL.nil ?_))
 exact Y1 I3 ⟨(decide ((r1:Int) ≥ 0)),rfl,h⟩
def QdR (C:Ctx) (p_c:Ql) (v0:Nat×Nat) (K:Bool→Heap→Prop) (H:Heap):Prop:=
 nw (Ql.c p_c) (fun b1 H2=>
 ldL H2 ((b1,0).1,(b1,0).2+1) fun x3=>
 ldL H2 (v0.1,v0.2+4) fun x5=>
 QfY C x3 x5 (fun r7 H8=>
 K r7 H8) H2) H
theorem QgZ (C p_c v0 K H) (h:QdR C p_c v0 K H):QhK C p_c v0 K H:=by
 refine Ye Tryz.func64 rfl Tryz.ntmps64 [(0,.agg (Ql.c p_c).toArray),(1,pv (some v0))] (Zo (GL.box (v:=.agg (Ql.c p_c).toArray) (cs:=Ql.c p_c) h trivial rfl rfl rfl ?_))
 intro b1 H2 h
 refine Za (GL.nil (Zo (Zf (Yl h fun x3 h=>?_))))
 refine Zf (Yl h fun x5 h=>?_)
 refine Zc h QkN ?_
 rintro _ H8 ⟨r7,rfl,h⟩
 refine Za (GL.nil ?_)
 exact Y1 I3 ⟨r7,rfl,h⟩
def QkX (C:Ctx) (p_l:Sl) (p_params:Sl) (K:Bool→Heap→Prop) (H:Heap):Prop:=
 nw ([slv p_params]) (fun b1 H2=>
 QB C p_l (.func (.func 153) (List.toArray []) (List.toArray [pv (some (b1,0))]):Value) (fun r3 H4=>
 K r3 H4) H2) H
theorem Qn8 (C p_l p_params K H) (h:QkX C p_l p_params K H):QfY C p_l p_params K H:=by
 refine Ye Tryz.func65 rfl Tryz.ntmps65 [(0,slv p_l),(1,slv p_params)] (Zo (GL.box (v:=slv p_params) (cs:=[slv p_params]) h trivial rfl rfl rfl ?_))
 intro b1 H2 h
 refine Za (GL.nil (Zo (Zm (Zv (OV.makeFunc (vs:=[]) (us:=[pv (some (b1,0))]) rfl rfl) (Zc h Qap ?_)))))
 rintro _ H4 ⟨r3,rfl,h⟩
 refine Za (GL.nil ?_)
 exact Y1 I3 ⟨r3,rfl,h⟩
def Qcz (C:Ctx) (p_s:Sl) (K:Sl→Heap→Prop) (H:Heap):Prop:=
 ift (Sl.isNil p_s)
 (K Sl.nil H)
 (nw ([]) (fun b2 H3=>
 apS ([sv []]) 16 (Sl.of (some (b2,0)) 0 0) p_s (fun r4 H5=>
 K r4 H5) H3) H)
theorem Qfv (C p_s K H) (h:Qcz C p_s K H):QU C p_s K H:=by
 refine Ye Tryz.func66 rfl Tryz.ntmps66 [(0,slv p_s)] (Zo (Za (GL.nil (GC.seq (Zo (Zm (Zv (OV.eqlSl (s:=p_s) rfl rfl rfl) (GL.nil (Yd h (fun u1 h=>?_) fun u1 h=>?_)))))))))
 refine Zo (Za (GL.nil ?_))
 exact Y1 I3 ⟨Sl.nil,rfl,h⟩
 refine GC.skip (Zo (GL.buildSlice (cs:=[]) h trivial rfl (vs:=[]) rfl ⟨9,fun _=>by kernel_rfl⟩ ?_))
 intro b2 H3 h
 refine Zm (GL.appendS (s:=(Sl.of (some (b2,0)) 0 0)) (s2:=p_s) (zc:=[sv []]) (bytes:=16) h trivial rfl rfl rfl ⟨⟨_,_,_,rfl,rfl,rfl,rfl,rfl,rfl⟩⟩ rfl ?_)
 intro r4 H5 h
 refine Za (GL.nil ?_)
 exact Y1 I3 ⟨r4,rfl,h⟩
def Qd7 (C:Ctx) (E:Value→Heap→Prop) (p_p:Option (Nat×Nat)) (p_m:Qa) (p_l:Sl) (p_pos:Qf) (K:Sl→Heap→Prop) (H:Heap):Prop:=
 nw (Qa.c p_m) (fun b1 H2=>
 nw (Qf.c p_pos) (fun b3 H4=>
 lp (α:=Sl×Int) (Sl.nil,0) H4 (fun x5 J6 H7=>
 ift (decide ((x5.2:Int) < (Sl.len p_l:Int)))
 (ixa p_l x5.2 fun p9=>
 ldT H7 Qj.c (p9.1,p9.2+(x5.2:Int).toNat*3) fun x14=>
 nw (Qj.c Qj.zero) (fun b16 H17=>
 stT (b16,0) (Qj.c x14) (fun H18=>
 dr H18 fun Hs19=>
 ldS Hs19 ((b16,0).1,(b16,0).2+0) fun x21=>
 ldT Hs19 Qa.c (b1,0) fun x23=>
 ldT Hs19 Qg.c ((b16,0).1,(b16,0).2+1) fun x25=>
 ldT Hs19 Qf.c (b3,0) fun x27=>
 QbX C E p_p x23 x25 x27 (fun r30 H31=>
 Heap.le Hs19 H31∧
 nw ((Qj.c (⟨x21,r30⟩:Qj))++[]) (fun b33 H34=>
 Heap.le Hs19 H34∧
 apS (Qj.c Qj.zero) 56 x5.1 (Sl.of (some (b33,0)) 1 1) (fun r36 H37=>
 Heap.le Hs19 H37∧
 J6 (r36,(w .i64 (x5.2+1))) H37) H34) H31) H18) H17) H7)
 (K x5.1 H7))) H2) H
theorem Qht (C E p_p p_m p_l p_pos K H) (h:Qd7 C E p_p p_m p_l p_pos K H):QZ C E p_p p_m p_l p_pos K H:=by
 refine SpecP.enter Tryz.func67 rfl Tryz.ntmps67 rfl (GC.sub [(0,pv p_p),(1,.agg (Qa.c p_m).toArray),(2,slv p_l),(3,.agg (Qf.c p_pos).toArray)] ⟨rfl,rfl,rfl,rfl,trivial⟩ (Zo (GL.box (v:=.agg (Qa.c p_m).toArray) (cs:=Qa.c p_m) h trivial rfl rfl rfl ?_)))
 intro b1 H2 h
 refine GL.box (v:=.agg (Qf.c p_pos).toArray) (cs:=Qf.c p_pos) h trivial rfl rfl rfl ?_
 intro b3 H4 h
 refine Za (GL.nil (Zo (Za (GL.nil (GC.seq (Zo (Zm (Zq (Zm (GL.nil (GC.block (Yp h (fun x5=>[(9,slv x5.1),(14,.int .i64 x5.2),(0,pv p_p),(5,pv (some (b1,0))),(7,pv (some (b3,0))),(12,slv p_l),(13,.int .i64 (Sl.len p_l:Int))]) ?_))))))))))))
 intro x5 H7 J6 h
 refine Zo (Zi (.bool (decide ((x5.2:Int) < (Sl.len p_l:Int)))) (GL.nil (GC.seq (Yd h (fun u8 h=>?_) fun u8 h=>?_))))
 refine GC.skip (GC.seq (GC.block (Zo (Yx h fun p9 h=>?_))))
 obtain ⟨x14,v15,h⟩:=h
 refine Zv (OV.loadT rfl rfl rfl v15) (GL.alloc (cs:=Qj.c Qj.zero) h trivial rfl rfl rfl ?_)
 intro b16 H17 h
 refine GL.storeT (p:=(b16,0)) (vs:=Qj.c x14) h trivial rfl rfl rfl rfl ?_
 intro H18 h
 refine GL.nil ?_
 obtain ⟨Hs19,hle20,h⟩:=h
 refine GC.any (Hs:=Hs19) (by kernel_rfl) hle20 (GA.takeP 0 rfl trivial (OV.move (v:=slv x5.1) rfl) (GA.takeP 1 rfl trivial (OV.fieldAddr (p:=(b16,0)) rfl rfl) ?_))
 obtain ⟨x21,v22,h⟩:=h
 refine GA.takeP 2 rfl trivial (OV.load (p:=((b16,0).1,(b16,0).2+0)) rfl rfl v22) (GA.takeP 3 rfl trivial (OV.move (v:=pv p_p) rfl) ?_)
 obtain ⟨x23,v24,h⟩:=h
 refine GA.takeP 4 rfl trivial (OV.loadT (p:=(b1,0)) (cs:=Qa.c x23) rfl rfl rfl v24) (GA.takeP 5 rfl trivial (OV.fieldAddr (p:=(b16,0)) rfl rfl) ?_)
 obtain ⟨x25,v26,h⟩:=h
 refine GA.takeP 6 rfl trivial (OV.loadT (p:=((b16,0).1,(b16,0).2+1)) (cs:=Qg.c x25) rfl rfl rfl v26) ?_
 obtain ⟨x27,v28,h⟩:=h
 refine GA.takeP 7 rfl trivial (OV.loadT (p:=(b3,0)) (cs:=Qf.c x27) rfl rfl rfl v28) (GA.eff 8 rfl (by kernel_rfl) (GL.callP h (fun _ _ _ _ h=>h) trivial rfl Qfj (vs:=[pv p_p,.agg (Qa.c x23).toArray,.agg (Qg.c x25).toArray,.agg (Qf.c x27).toArray]) rfl ?_))
 rintro _ H31 ⟨r30,rfl,h⟩
 obtain ⟨hle29,h⟩:=h
 refine GA.back hle29 (GA.takeP 9 rfl trivial (OV.build (vs:=[(0,sv x21),(1,.agg (Qg.c r30).toArray)]) (v:=.agg (Qj.c (⟨x21,r30⟩:Qj)).toArray) rfl (fun _=>by kernel_rfl)) (GA.eff 10 rfl (by kernel_rfl) (GL.buildSlice (cs:=(Qj.c (⟨x21,r30⟩:Qj))++[]) h trivial rfl (vs:=[(0,.agg (Qj.c (⟨x21,r30⟩:Qj)).toArray)]) rfl ⟨31,fun _=>by kernel_rfl⟩ ?_)))
 intro b33 H34 h
 obtain ⟨hle32,h⟩:=h
 refine GA.back hle32 (GA.eff 11 rfl (by kernel_rfl) (GL.appendS (s:=x5.1) (s2:=(Sl.of (some (b33,0)) 1 1)) (zc:=Qj.c Qj.zero) (bytes:=56) h trivial rfl rfl rfl ⟨⟨_,_,_,rfl,rfl,rfl,rfl,rfl,rfl⟩⟩ rfl ?_))
 intro r36 H37 h
 obtain ⟨hle35,h⟩:=h
 refine GA.back hle35 (GA.takeP 12 rfl trivial (OV.assign (v:=slv r36) rfl) (GA.done (by kernel_rfl) (GL.nil_to I3 (GC.region (Zi (.int .i64 (w .i64 (x5.2+1))) (Zm ?_))))))
 exact Yj I3 (r36,(w .i64 (x5.2+1))) h
 refine GC.exit_to I3 (Zo (Zm (Za (GL.nil ?_))))
 exact GC.ret (fun _ _ hf hs=>postP (E:=E) hf (QjY rfl rfl hf hs ⟨x5.1,rfl,h⟩))
def QeW (C:Ctx) (E:Value→Heap→Prop) (p_p:Option (Nat×Nat)) (p_m:Qa) (p_s:Str) (p_kind:Int) (p_pos:Qf) (K:Str→Heap→Prop) (H:Heap):Prop:=
 nw (Qa.c p_m) (fun b1 H2=>
 nw (Qf.c p_pos) (fun b3 H4=>
 Qev C p_s [46] (fun r5 r6 r7 H8=>
 nw ([sv []]) (fun b9 H10=>
 st (b9,0) (sv r5) (fun H11=>
 jn (α:=Str) (fun x13 H14=>
 nck p_p fun p20=>
 ldM H14 (p20.1,p20.2+1) fun x22=>
 ldS H14 (b9,0) fun x24=>
 lkM kp3 (fun x:Bool=>(.bool x:Value)) false x22 ((⟨x24,x13,p_kind⟩:Qv).mod_,(⟨x24,x13,p_kind⟩:Qv).own_,(⟨x24,x13,p_kind⟩:Qv).kind_) (fun x26 is27=>
 ldS H14 (b9,0) fun x29=>
 ldS H14 ((b1,0).1,(b1,0).2+0) fun x31=>
 jn (α:=Bool) (fun b33 H46=>
 jn (α:=Unit) (fun x48 H49=>
 ldS H49 (b9,0) fun x58=>
 catOk x58 ([46]:Str)∧
 catOk (x58++([46]:Str)) x13∧
 K ((x58++([46]:Str))++x13) H49)
 (fun J47=>ift ((!is27) || (!b33))
 (ldT H46 Qa.c (b1,0) fun x53=>
 ldT H46 Qf.c (b3,0) fun x55=>
 QH C E x53 x55 63 (fun H57=>
 J47 () H57) H46)
 (J47 () H46)))
 (fun J34=>ift (x29 == x31)
 (J34 true H14)
 (jn (α:=Bool) (fun b37 H45=>
 J34 b37 H45)
 (fun J38=>ift x26
 (ldL H14 ((b1,0).1,(b1,0).2+1) fun x41=>
 Qu C x41 (.func (.func 157) (List.toArray []) (List.toArray [pv (some (b9,0))]):Value) (fun r43 H44=>
 J38 r43 H44) H14)
 (J38 false H14))))) H14)
 (fun J12=>ift (!r7)
 (ldS H11 ((b1,0).1,(b1,0).2+0) fun x17=>
 st (b9,0) (sv x17) (fun H19=>
 J12 p_s H19) H11)
 (J12 r6 H11))) H10) H8) H4) H2) H
theorem Qi4 (C E p_p p_m p_s p_kind p_pos K H) (h:QeW C E p_p p_m p_s p_kind p_pos K H):QG C E p_p p_m p_s p_kind p_pos K H:=by
 refine SpecP.enter Tryz.func68 rfl Tryz.ntmps68 rfl (GC.sub [(0,pv p_p),(1,.agg (Qa.c p_m).toArray),(2,sv p_s),(3,.int .i64 p_kind),(4,.agg (Qf.c p_pos).toArray)] ⟨rfl,rfl,rfl,rfl,rfl,trivial⟩ (Zo (GL.box (v:=.agg (Qa.c p_m).toArray) (cs:=Qa.c p_m) h trivial rfl rfl rfl ?_)))
 intro b1 H2 h
 refine GL.box (v:=.agg (Qf.c p_pos).toArray) (cs:=Qf.c p_pos) h trivial rfl rfl rfl ?_
 intro b3 H4 h
 refine Za (GL.nil (Zo (Zm (Zc h Qhi ?_))))
 rintro _ H8 ⟨r5,r6,r7,rfl,h⟩
 refine Zm (Yv (sv r5) rfl rfl (Yv (sv r6) rfl rfl (Yv (.bool r7) rfl rfl (GL.alloc (cs:=[sv []]) h trivial rfl rfl rfl ?_))))
 intro b9 H10 h
 refine GL.store (p:=(b9,0)) (v:=sv r5) h trivial rfl rfl rfl rfl ?_
 intro H11 h
 refine Za (Za (GL.nil ?_))
 obtain ⟨J12,h,hR15⟩:=h
 refine GC.join (α:=Str) J12 (fun x13=>[(12,sv x13),(0,pv p_p),(3,.int .i64 p_kind),(6,pv (some (b1,0))),(9,pv (some (b3,0))),(11,pv (some (b9,0)))]) ?_ ?_
 refine Zo (Zm (Zv (OV.not rfl) (GL.nil (Yd h (fun u16 h=>?_) fun u16 h=>?_))))
 refine GC.region (Zf (Yl h fun x17 h=>?_))
 refine Zm (GL.store (p:=(b9,0)) (v:=sv x17) h trivial rfl rfl rfl rfl ?_)
 intro H19 h
 refine Za ?_
 exact Yj I3 p_s h
 exact Yk I3 r6 h
 intro x13 H14 h
 replace h:=hR15 x13 H14 h
 refine GC.seq (GC.draw (by kernel_rfl) (by kernel_rfl) (GQ.val trivial rfl (OV.move (v:=pv p_p) rfl) ?_))
 obtain ⟨p20,hp21,h⟩:=h
 refine GQ.val trivial rfl (OV.nilCheck (q:=p_p) rfl hp21) (GQ.val trivial rfl (OV.fieldAddr (p:=p20) rfl rfl) ?_)
 obtain ⟨x22,v23,h⟩:=h
 refine GQ.val trivial rfl (OV.load (p:=(p20.1,p20.2+1)) rfl rfl v23) ?_
 obtain ⟨x24,v25,h⟩:=h
 refine GQ.val trivial rfl (OV.load (p:=(b9,0)) rfl rfl v25) (GQ.val trivial rfl (OV.move (v:=sv x13) rfl) (GQ.val trivial rfl (OV.move (v:=.int .i64 p_kind) rfl) (GQ.val trivial rfl (OV.build (vs:=[(0,sv x24),(1,sv x13),(2,.int .i64 p_kind)]) (v:=.agg (Qv.c (⟨x24,x13,p_kind⟩:Qv)).toArray) rfl (fun _=>by kernel_rfl)) ?_)))
 obtain ⟨x26,is27,v28,h⟩:=h
 refine GQ.val trivial rfl (OV.lookup2 (v:=.tuple #[.bool x26,.bool is27]) (ke:=kp3) (enc:=(fun x:Bool=>(.bool x:Value))) (z:=false) (q:=x22) (k:=((⟨x24,x13,p_kind⟩:Qv).mod_,(⟨x24,x13,p_kind⟩:Qv).own_,(⟨x24,x13,p_kind⟩:Qv).kind_)) (x:=x26) (b:=is27) rfl v28 rfl rfl rfl kOk206 rfl) (GQ.val trivial rfl (OV.move (v:=.tuple #[.bool x26,.bool is27]) rfl) (GQ.val trivial rfl (OV.extract (v:=.bool x26) rfl rfl) (GQ.val trivial rfl (OV.extract (v:=.bool is27) rfl rfl) (GQ.val trivial rfl (OV.assign (v:=.bool x26) rfl) (GQ.val trivial rfl (OV.assign (v:=.bool is27) rfl) (GQ.nil (GL.nil (Zo (Yl h fun x29 h=>?_)))))))))
 refine Zf (Yl h fun x31 h=>?_)
 refine Zv (OV.sbin (a:=x29) (b:=x31) (v:=.bool (x29 == x31)) rfl rfl rfl) (Zm ?_)
 obtain ⟨J34,h,hR35⟩:=h
 refine GL.cut (α:=Bool) 8 J34 (fun b33=>[(52,.bool b33),(6,pv (some (b1,0))),(9,pv (some (b3,0))),(11,pv (some (b9,0))),(12,sv x13),(15,.bool is27)]) ?_ ?_
 rcases h.em with ⟨u36,h⟩ | ⟨u36,h⟩
 refine Zk u36 (Zk u36 (GL.skip ⟨_,rfl,.inr rfl⟩ rfl (GL.skip ⟨_,rfl,.inr rfl⟩ rfl (GL.skip ⟨_,rfl,.inr rfl⟩ rfl (GL.skip ⟨_,rfl,.inr rfl⟩ rfl (Zk u36 (Zt u36 ?_)))))))
 exact Yj I3 true h
 refine Zu u36 Ym (Zu u36 Ym ?_)
 obtain ⟨J38,h,hR39⟩:=h
 refine GL.cut (α:=Bool) 5 J38 (fun b37=>[(51,.bool b37),(6,pv (some (b1,0))),(9,pv (some (b3,0))),(11,pv (some (b9,0))),(12,sv x13),(15,.bool is27),(44,.bool (x29 == x31))]) ?_ ?_
 rcases h.em with ⟨u40,h⟩ | ⟨u40,h⟩
 refine Zu u40 Yf ?_
 obtain ⟨x41,v42,h⟩:=h
 refine Zu u40 (Yo v42) (Zu u40 (OV.makeFunc (vs:=[]) (us:=[pv (some (b9,0))]) rfl rfl) (GL.call h (Yt u40) rfl QE (vs:=[slv x41,.func (.func 157) (List.toArray []) (List.toArray [pv (some (b9,0))])]) rfl ?_))
 rintro _ H44 ⟨r43,rfl,h⟩
 refine Zu u36 (OV.pickT rfl u40 rfl) ?_
 exact Yj I3 r43 h
 refine Zk u40 (Zk u40 (Zk u40 (Zk u40 (Zu u36 (OV.pickF rfl u40 rfl) ?_))))
 exact Yj I3 false h
 intro b37 H45 h
 replace h:=hR39 b37 H45 h
 refine Zn u36 ?_
 exact Yj I3 b37 h
 intro b33 H46 h
 replace h:=hR35 b33 H46 h
 refine Za (GL.nil ?_)
 obtain ⟨J47,h,hR50⟩:=h
 refine GC.join (α:=Unit) J47 (fun _=>[(11,pv (some (b9,0))),(12,sv x13)]) ?_ ?_
 refine Zo (Zm (Zv (OV.not rfl) (Zm (GL.cut0 3 [(58,.bool ((!is27) || (!b33))),(6,pv (some (b1,0))),(9,pv (some (b3,0))),(11,pv (some (b9,0))),(12,sv x13)] ?_ ?_))))
 rcases Zb (!is27) with u51 | u51
 refine Zk u51 (Zk u51 (Zt u51 ?_))
 exact GL.jump0 I3 () rfl ⟨(by rw [u51]; rfl),rfl,rfl,rfl,rfl,trivial⟩
 refine Zu u51 Ym (Zu u51 (OV.not rfl) (Zn u51 ?_))
 exact GL.jump0 I3 () rfl ⟨(by rw [u51]; rfl),rfl,rfl,rfl,rfl,trivial⟩
 refine GL.nil (Yd h (fun u52 h=>?_) fun u52 h=>?_)
 refine GC.region ?_
 obtain ⟨x53,v54,h⟩:=h
 refine Zv (OV.loadT rfl rfl rfl v54) ?_
 obtain ⟨x55,v56,h⟩:=h
 refine Zv (OV.loadT rfl rfl rfl v56) (GL.callP h (fun _ _ _ _ h=>h) trivial rfl Q6 (vs:=[.agg (Qa.c x53).toArray,.agg (Qf.c x55).toArray,.int .i64 63]) rfl ?_)
 rintro _ H57 ⟨rfl,h⟩
 exact Yj I3 () h
 exact Yk I3 () h
 intro x48 H49 h
 replace h:=hR50 x48 H49 h
 refine Zo (Yl h fun x58 h=>?_)
 obtain ⟨hl60,h⟩:=h
 refine Zv (OV.cat (a:=x58) (b:=([46]:Str)) rfl rfl hl60) (Zm ?_)
 obtain ⟨hl61,h⟩:=h
 refine Zv (OV.cat (a:=(x58++([46]:Str))) (b:=x13) rfl rfl hl61) (Za (GL.nil ?_))
 exact GC.ret (fun _ _ hf hs=>postP (E:=E) hf (QjY rfl rfl hf hs ⟨((x58++([46]:Str))++x13),rfl,h⟩))
def QdI (C:Ctx) (p_s:Str) (p_prefix:Str) (K:Bool→Heap→Prop) (H:Heap):Prop:=
 Qag C p_s p_prefix (fun r1 H2=>
 K r1 H2) H
theorem QfC (C p_s p_prefix K H) (h:QdI C p_s p_prefix K H):Qcf C p_s p_prefix K H:=by
 refine Ye Tryz.func69 rfl Tryz.ntmps69 [(0,sv p_s),(1,sv p_prefix)] (Zo (Za (GL.nil (Zo (Zm (Zm (Zc h QbJ ?_)))))))
 rintro _ H2 ⟨r1,rfl,h⟩
 refine Za (GL.nil ?_)
 exact Y1 I3 ⟨r1,rfl,h⟩
def QeF (C:Ctx) (E:Value→Heap→Prop) (p_p:Option (Nat×Nat)) (p_m:Qa) (p_l:Sl) (K:Sl→Heap→Prop) (H:Heap):Prop:=
 nw (Qa.c p_m) (fun b1 H2=>
 lp (α:=Sl×Int) (Sl.nil,0) H2 (fun x3 J4 H5=>
 ift (decide ((x3.2:Int) < (Sl.len p_l:Int)))
 (ixa p_l x3.2 fun p7=>
 ldT H5 Qb.c (p7.1,p7.2+(x3.2:Int).toNat*9) fun x12=>
 nw (Qb.c Qb.zero) (fun b14 H15=>
 stT (b14,0) (Qb.c x12) (fun H16=>
 jn (α:=Unit) (fun x18 H19=>
 ldT H19 Qa.c (b1,0) fun x33=>
 ldL H19 ((b14,0).1,(b14,0).2+8) fun x35=>
 Qaq C E p_p x33 x35 (fun r37 H38=>
 st ((b14,0).1,(b14,0).2+8) (slv r37) (fun H39=>
 ldT H39 Qb.c (b14,0) fun x40=>
 apd (Qb.c Qb.zero) 120 x3.1 ((Qb.c x40)++[]) 1 (fun r42 H43=>
 J4 (r42,(w .i64 (x3.2+1))) H43) H39) H38) H19)
 (fun J17=>ldI H16 .u8 ((b14,0).1,(b14,0).2+0) fun x21=>
 ift ((x21:Int) == 5)
 (ldT H16 Qa.c (b1,0) fun x24=>
 ldS H16 ((b14,0).1,(b14,0).2+3) fun x26=>
 ldT H16 Qf.c ((b14,0).1,(b14,0).2+1) fun x28=>
 QG C E p_p x24 x26 1 x28 (fun r30 H31=>
 st ((b14,0).1,(b14,0).2+3) (sv r30) (fun H32=>
 J17 () H32) H31) H16)
 (J17 () H16))) H15) H5)
 (K x3.1 H5))) H
theorem Qii (C E p_p p_m p_l K H) (h:QeF C E p_p p_m p_l K H):Qaq C E p_p p_m p_l K H:=by
 refine SpecP.enter Tryz.func70 rfl Tryz.ntmps70 rfl (GC.sub [(0,pv p_p),(1,.agg (Qa.c p_m).toArray),(2,slv p_l)] ⟨rfl,rfl,rfl,trivial⟩ (Zo (GL.box (v:=.agg (Qa.c p_m).toArray) (cs:=Qa.c p_m) h trivial rfl rfl rfl ?_)))
 intro b1 H2 h
 refine Za (GL.nil (Zo (Za (GL.nil (GC.seq (Zo (Zm (Zq (Zm (GL.nil (GC.block (Yp h (fun x3=>[(7,slv x3.1),(12,.int .i64 x3.2),(0,pv p_p),(4,pv (some (b1,0))),(10,slv p_l),(11,.int .i64 (Sl.len p_l:Int))]) ?_))))))))))))
 intro x3 H5 J4 h
 refine Zo (Zi (.bool (decide ((x3.2:Int) < (Sl.len p_l:Int)))) (GL.nil (GC.seq (Yd h (fun u6 h=>?_) fun u6 h=>?_))))
 refine GC.skip (GC.seq (GC.block (Zo (Yx h fun p7 h=>?_))))
 obtain ⟨x12,v13,h⟩:=h
 refine Zv (OV.loadT rfl rfl rfl v13) (GL.alloc (cs:=Qb.c Qb.zero) h trivial rfl rfl rfl ?_)
 intro b14 H15 h
 refine GL.storeT (p:=(b14,0)) (vs:=Qb.c x12) h trivial rfl rfl rfl rfl ?_
 intro H16 h
 refine GL.nil ?_
 obtain ⟨J17,h,hR20⟩:=h
 refine GC.join (α:=Unit) J17 (fun _=>[(0,pv p_p),(4,pv (some (b1,0))),(7,slv x3.1),(9,pv (some (b14,0))),(10,slv p_l),(11,.int .i64 (Sl.len p_l:Int)),(12,.int .i64 x3.2)]) ?_ ?_
 refine Zo (Zf (Yl h fun x21 h=>?_))
 refine Zi (.bool ((x21:Int) == 5)) (GL.nil (Yd h (fun u23 h=>?_) fun u23 h=>?_))
 refine GC.region (Zm ?_)
 obtain ⟨x24,v25,h⟩:=h
 refine Zv (OV.loadT rfl rfl rfl v25) (Zf (Yl h fun x26 h=>?_))
 refine Zf ?_
 obtain ⟨x28,v29,h⟩:=h
 refine Zv (OV.loadT rfl rfl rfl v29) (GL.callP h (fun _ _ _ _ h=>h) trivial rfl Qby (vs:=[pv p_p,.agg (Qa.c x24).toArray,sv x26,.int .i64 1,.agg (Qf.c x28).toArray]) rfl ?_)
 rintro _ H31 ⟨r30,rfl,h⟩
 refine Zf (GL.store (p:=((b14,0).1,(b14,0).2+3)) (v:=sv r30) h trivial rfl rfl rfl rfl ?_)
 intro H32 h
 exact Yj I3 () h
 exact Yk I3 () h
 intro x18 H19 h
 replace h:=hR20 x18 H19 h
 refine Zo (Zm ?_)
 obtain ⟨x33,v34,h⟩:=h
 refine Zv (OV.loadT rfl rfl rfl v34) (Zf (Yl h fun x35 h=>?_))
 refine GL.callP h (fun _ _ _ _ h=>h) trivial rfl Qco (vs:=[pv p_p,.agg (Qa.c x33).toArray,slv x35]) rfl ?_
 rintro _ H38 ⟨r37,rfl,h⟩
 refine Zf (GL.store (p:=((b14,0).1,(b14,0).2+8)) (v:=slv r37) h trivial rfl rfl rfl rfl ?_)
 intro H39 h
 refine GL.nil (GC.region (Zm ?_))
 obtain ⟨x40,v41,h⟩:=h
 refine Zv (OV.loadT rfl rfl rfl v41) (GL.appendLit (s:=x3.1) (ys:=(Qb.c x40)++[]) (zc:=Qb.c Qb.zero) (bytes:=120) h trivial rfl (fun _=>trivial) rfl (fun _=>rfl) (fun _=>rfl) (vs:=[(0,.agg (Qb.c x40).toArray)]) rfl ⟨40,fun _=>by kernel_rfl⟩ ⟨⟨_,_,_,rfl,rfl,rfl,rfl,rfl,rfl⟩⟩ rfl rfl ?_)
 intro _ r42 H43 h
 refine Za (GL.nil_to I3 (GC.region (Zi (.int .i64 (w .i64 (x3.2+1))) (Zm ?_))))
 exact Yj I3 (r42,(w .i64 (x3.2+1))) h
 refine GC.exit_to I3 (Zo (Zm (Za (GL.nil ?_))))
 exact GC.ret (fun _ _ hf hs=>postP (E:=E) hf (QjY rfl rfl hf hs ⟨x3.1,rfl,h⟩))
def QeU (C:Ctx) (E:Value→Heap→Prop) (p_p:Option (Nat×Nat)) (p_m:Qa) (p_l:Sl) (K:Sl→Heap→Prop) (H:Heap):Prop:=
 nw (Qa.c p_m) (fun b1 H2=>
 lp (α:=Sl×Int) (Sl.nil,0) H2 (fun x3 J4 H5=>
 ift (decide ((x3.2:Int) < (Sl.len p_l:Int)))
 (ixa p_l x3.2 fun p7=>
 ldT H5 Qi.c (p7.1,p7.2+(x3.2:Int).toNat*5) fun x12=>
 nw (Qi.c Qi.zero) (fun b14 H15=>
 stT (b14,0) (Qi.c x12) (fun H16=>
 jn (α:=Unit) (fun x18 H19=>
 ldT H19 Qa.c (b1,0) fun x40=>
 ldL H19 ((b14,0).1,(b14,0).2+4) fun x42=>
 Qaq C E p_p x40 x42 (fun r44 H45=>
 st ((b14,0).1,(b14,0).2+4) (slv r44) (fun H46=>
 ldT H46 Qi.c (b14,0) fun x47=>
 apd (Qi.c Qi.zero) 64 x3.1 ((Qi.c x47)++[]) 1 (fun r49 H50=>
 J4 (r49,(w .i64 (x3.2+1))) H50) H46) H45) H19)
 (fun J17=>ldI H16 .u8 ((b14,0).1,(b14,0).2+0) fun x21=>
 jn (α:=Bool) (fun b23 H29=>
 ift b23
 (ldT H29 Qa.c (b1,0) fun x31=>
 ldS H29 ((b14,0).1,(b14,0).2+3) fun x33=>
 ldT H29 Qf.c ((b14,0).1,(b14,0).2+1) fun x35=>
 QG C E p_p x31 x33 2 x35 (fun r37 H38=>
 st ((b14,0).1,(b14,0).2+3) (sv r37) (fun H39=>
 J17 () H39) H38) H29)
 (J17 () H29))
 (fun J24=>ift ((x21:Int) == 1)
 (J24 true H16)
 (ldI H16 .u8 ((b14,0).1,(b14,0).2+0) fun x27=>
 J24 ((x27:Int) == 2) H16)))) H15) H5)
 (K x3.1 H5))) H
theorem Qi2 (C E p_p p_m p_l K H) (h:QeU C E p_p p_m p_l K H):Qay C E p_p p_m p_l K H:=by
 refine SpecP.enter Tryz.func71 rfl Tryz.ntmps71 rfl (GC.sub [(0,pv p_p),(1,.agg (Qa.c p_m).toArray),(2,slv p_l)] ⟨rfl,rfl,rfl,trivial⟩ (Zo (GL.box (v:=.agg (Qa.c p_m).toArray) (cs:=Qa.c p_m) h trivial rfl rfl rfl ?_)))
 intro b1 H2 h
 refine Za (GL.nil (Zo (Za (GL.nil (GC.seq (Zo (Zm (Zq (Zm (GL.nil (GC.block (Yp h (fun x3=>[(7,slv x3.1),(12,.int .i64 x3.2),(0,pv p_p),(4,pv (some (b1,0))),(10,slv p_l),(11,.int .i64 (Sl.len p_l:Int))]) ?_))))))))))))
 intro x3 H5 J4 h
 refine Zo (Zi (.bool (decide ((x3.2:Int) < (Sl.len p_l:Int)))) (GL.nil (GC.seq (Yd h (fun u6 h=>?_) fun u6 h=>?_))))
 refine GC.skip (GC.seq (GC.block (Zo (Yx h fun p7 h=>?_))))
 obtain ⟨x12,v13,h⟩:=h
 refine Zv (OV.loadT rfl rfl rfl v13) (GL.alloc (cs:=Qi.c Qi.zero) h trivial rfl rfl rfl ?_)
 intro b14 H15 h
 refine GL.storeT (p:=(b14,0)) (vs:=Qi.c x12) h trivial rfl rfl rfl rfl ?_
 intro H16 h
 refine GL.nil ?_
 obtain ⟨J17,h,hR20⟩:=h
 refine GC.join (α:=Unit) J17 (fun _=>[(0,pv p_p),(4,pv (some (b1,0))),(7,slv x3.1),(9,pv (some (b14,0))),(10,slv p_l),(11,.int .i64 (Sl.len p_l:Int)),(12,.int .i64 x3.2)]) ?_ ?_
 refine Zo (Zf (Yl h fun x21 h=>?_))
 refine Zi (.bool ((x21:Int) == 1)) (Zm ?_)
 obtain ⟨J24,h,hR25⟩:=h
 refine GL.cut (α:=Bool) 4 J24 (fun b23=>[(23,.bool b23),(0,pv p_p),(4,pv (some (b1,0))),(7,slv x3.1),(9,pv (some (b14,0))),(10,slv p_l),(11,.int .i64 (Sl.len p_l:Int)),(12,.int .i64 x3.2)]) ?_ ?_
 rcases h.em with ⟨u26,h⟩ | ⟨u26,h⟩
 refine Zk u26 (Zk u26 (Zk u26 (Zt u26 ?_)))
 exact Yj I3 true h
 refine Zu u26 Yf ?_
 obtain ⟨x27,v28,h⟩:=h
 refine Zu u26 (Yo v28) (Zu u26 (OV.ibin (v:=.bool ((x27:Int) == 2)) rfl rfl rfl) (Zn u26 ?_))
 exact Yj I3 ((x27:Int) == 2) h
 intro b23 H29 h
 replace h:=hR25 b23 H29 h
 refine GL.nil (Yd h (fun u30 h=>?_) fun u30 h=>?_)
 refine GC.region (Zm ?_)
 obtain ⟨x31,v32,h⟩:=h
 refine Zv (OV.loadT rfl rfl rfl v32) (Zf (Yl h fun x33 h=>?_))
 refine Zf ?_
 obtain ⟨x35,v36,h⟩:=h
 refine Zv (OV.loadT rfl rfl rfl v36) (GL.callP h (fun _ _ _ _ h=>h) trivial rfl Qby (vs:=[pv p_p,.agg (Qa.c x31).toArray,sv x33,.int .i64 2,.agg (Qf.c x35).toArray]) rfl ?_)
 rintro _ H38 ⟨r37,rfl,h⟩
 refine Zf (GL.store (p:=((b14,0).1,(b14,0).2+3)) (v:=sv r37) h trivial rfl rfl rfl rfl ?_)
 intro H39 h
 exact Yj I3 () h
 exact Yk I3 () h
 intro x18 H19 h
 replace h:=hR20 x18 H19 h
 refine Zo (Zm ?_)
 obtain ⟨x40,v41,h⟩:=h
 refine Zv (OV.loadT rfl rfl rfl v41) (Zf (Yl h fun x42 h=>?_))
 refine GL.callP h (fun _ _ _ _ h=>h) trivial rfl Qco (vs:=[pv p_p,.agg (Qa.c x40).toArray,slv x42]) rfl ?_
 rintro _ H45 ⟨r44,rfl,h⟩
 refine Zf (GL.store (p:=((b14,0).1,(b14,0).2+4)) (v:=slv r44) h trivial rfl rfl rfl rfl ?_)
 intro H46 h
 refine GL.nil (GC.region (Zm ?_))
 obtain ⟨x47,v48,h⟩:=h
 refine Zv (OV.loadT rfl rfl rfl v48) (GL.appendLit (s:=x3.1) (ys:=(Qi.c x47)++[]) (zc:=Qi.c Qi.zero) (bytes:=64) h trivial rfl (fun _=>trivial) rfl (fun _=>rfl) (fun _=>rfl) (vs:=[(0,.agg (Qi.c x47).toArray)]) rfl ⟨35,fun _=>by kernel_rfl⟩ ⟨⟨_,_,_,rfl,rfl,rfl,rfl,rfl,rfl⟩⟩ rfl rfl ?_)
 intro _ r49 H50 h
 refine Za (GL.nil_to I3 (GC.region (Zi (.int .i64 (w .i64 (x3.2+1))) (Zm ?_))))
 exact Yj I3 (r49,(w .i64 (x3.2+1))) h
 refine GC.exit_to I3 (Zo (Zm (Za (GL.nil ?_))))
 exact GC.ret (fun _ _ hf hs=>postP (E:=E) hf (QjY rfl rfl hf hs ⟨x3.1,rfl,h⟩))
def QfP (C:Ctx) (p_w:Option (Nat×Nat)) (p_l:Sl) (K:Heap→Prop) (H:Heap):Prop:=
 lp (α:=Int) 0 H (fun x1 J2 H3=>
 ift (decide ((x1:Int) < (Sl.len p_l:Int)))
 (ixa p_l x1 fun p5=>
 ldS H3 (p5.1,p5.2+(x1:Int).toNat*1) fun x10=>
 nck p_w fun p12=>
 Qm C (some (p12.1,p12.2+0)) x10 (fun r14 r15 H16=>
 J2 (w .i64 (x1+1)) H16) H3)
 (K H3))
theorem Qkz (C p_w p_l K H) (h:QfP C p_w p_l K H):QA C p_w p_l K H:=by
 refine Ye Tryz.func72 rfl Tryz.ntmps72 [(0,pv p_w),(1,slv p_l)] (Zo (Zm (Zq (Zm (GL.nil (GC.block (Yp h (fun x1=>[(8,.int .i64 x1),(0,pv p_w),(6,slv p_l),(7,.int .i64 (Sl.len p_l:Int))]) ?_)))))))
 intro x1 H3 J2 h
 refine Zo (Zi (.bool (decide ((x1:Int) < (Sl.len p_l:Int)))) (GL.nil (GC.seq (Yd h (fun u4 h=>?_) fun u4 h=>?_))))
 refine GC.skip (GC.seq (GC.block (Zo (Yx h fun p5 h=>?_))))
 refine Yl h fun x10 h=>?_
 refine Za (GL.nil (GC.region (Zm ?_)))
 obtain ⟨p12,hp13,h⟩:=h
 refine Zv (OV.nilCheck (q:=p_w) rfl hp13) (Zf (Zm (Zc h Qo ?_)))
 rintro _ H16 ⟨r14,r15,rfl,h⟩
 refine GL.nil_to I3 (GC.region (Zi (.int .i64 (w .i64 (x1+1))) (Zm ?_)))
 exact Yj I3 (w .i64 (x1+1)) h
 exact GC.exit_ends (fun _ _ hf hs=>Qt rfl hf hs ⟨rfl,h⟩)
def QeM (C:Ctx) (p_w:Option (Nat×Nat)) (p_l:Sl) (p_between:Str) (p_write:Value) (K:Heap→Prop) (H:Heap):Prop:=
 lp (α:=Int) 0 H (fun x1 J2 H3=>
 ift (decide ((x1:Int) < (Sl.len p_l:Int)))
 (ixa p_l x1 fun p5=>
 ldT H3 Qp.c (p5.1,p5.2+(x1:Int).toNat*3) fun x10=>
 nw (Qp.c Qp.zero) (fun b12 H13=>
 stT (b12,0) (Qp.c x10) (fun H14=>
 jn (α:=Unit) (fun x16 H17=>
 ldT H17 Qp.c (b12,0) fun x25=>
 callU Tryz.prog C p_write [.agg (Qp.c x25).toArray] H17 (fun v H27=>v=.tuple #[]∧
 J2 (w .i64 (x1+1)) H27))
 (fun J15=>ift (decide ((x1:Int) > 0))
 (nck p_w fun p20=>
 Qm C (some (p20.1,p20.2+0)) p_between (fun r22 r23 H24=>
 J15 () H24) H14)
 (J15 () H14))) H13) H3)
 (K H3))
theorem Qiq (C p_w p_l p_between p_write K H) (h:QeM C p_w p_l p_between p_write K H):QcO C p_w p_l p_between p_write K H:=by
 refine Ye Tryz.func73 rfl Tryz.ntmps73 [(0,pv p_w),(1,slv p_l),(2,sv p_between),(3,p_write)] (Zo (Zm (Zq (Zm (GL.nil (GC.block (Yp h (fun x1=>[(12,.int .i64 x1),(0,pv p_w),(2,sv p_between),(3,p_write),(10,slv p_l),(11,.int .i64 (Sl.len p_l:Int))]) ?_)))))))
 intro x1 H3 J2 h
 refine Zo (Zi (.bool (decide ((x1:Int) < (Sl.len p_l:Int)))) (GL.nil (GC.seq (Yd h (fun u4 h=>?_) fun u4 h=>?_))))
 refine GC.skip (GC.seq (GC.block (Zo (Zm (Yx h fun p5 h=>?_)))))
 obtain ⟨x10,v11,h⟩:=h
 refine Zv (OV.loadT rfl rfl rfl v11) (GL.alloc (cs:=Qp.c Qp.zero) h trivial rfl rfl rfl ?_)
 intro b12 H13 h
 refine Za (GL.storeT (p:=(b12,0)) (vs:=Qp.c x10) h trivial rfl rfl rfl rfl ?_)
 intro H14 h
 refine GL.nil ?_
 obtain ⟨J15,h,hR18⟩:=h
 refine GC.join (α:=Unit) J15 (fun _=>[(0,pv p_w),(2,sv p_between),(3,p_write),(9,pv (some (b12,0))),(10,slv p_l),(11,.int .i64 (Sl.len p_l:Int)),(12,.int .i64 x1)]) ?_ ?_
 refine Zo (Zm (Zi (.bool (decide ((x1:Int) > 0))) (GL.nil (Yd h (fun u19 h=>?_) fun u19 h=>?_))))
 refine GC.region (Zm ?_)
 obtain ⟨p20,hp21,h⟩:=h
 refine Zv (OV.nilCheck (q:=p_w) rfl hp21) (Zf (Zm (Zc h Qo ?_)))
 rintro _ H24 ⟨r22,r23,rfl,h⟩
 exact Yj I3 () h
 exact Yk I3 () h
 intro x16 H17 h
 replace h:=hR18 x16 H17 h
 refine GC.region (Zm ?_)
 obtain ⟨x25,v26,h⟩:=h
 refine Zv (OV.loadT rfl rfl rfl v26) (GL.callU (xv:=p_write) (vs:=[.agg (Qp.c x25).toArray]) h trivial rfl rfl rfl ?_)
 rintro _ H27 ⟨rfl,h⟩
 refine GL.nil_to I3 (GC.region (Zi (.int .i64 (w .i64 (x1+1))) (Zm ?_)))
 exact Yj I3 (w .i64 (x1+1)) h
 exact GC.exit_ends (fun _ _ hf hs=>Qt rfl hf hs ⟨rfl,h⟩)
def Qkb (C:Ctx) (p_x:Qp) (v0:Nat×Nat) (K:Heap→Prop) (H:Heap):Prop:=
 nw (Qp.c p_x) (fun b1 H2=>
 ldP H2 v0 fun x3=>
 ldS H2 ((b1,0).1,(b1,0).2+2) fun x5=>
 nw ([sv [105,109,112,111,114,116,32],sv x5,sv [10]]) (fun b7 H8=>
 QA C x3 (Sl.of (some (b7,0)) 3 3) (fun H9=>
 K H9) H8) H2) H
theorem Qna (C p_x v0 K H) (h:Qkb C p_x v0 K H):QkH C p_x v0 K H:=by
 refine Ye Tryz.func74 rfl Tryz.ntmps74 [(0,.agg (Qp.c p_x).toArray),(1,pv (some v0))] (Zo (GL.box (v:=.agg (Qp.c p_x).toArray) (cs:=Qp.c p_x) h trivial rfl rfl rfl ?_))
 intro b1 H2 h
 refine GL.nil (GC.region (Yl h fun x3 h=>?_))
 refine Zf (Yl h fun x5 h=>?_)
 refine GL.buildSlice (cs:=[sv [105,109,112,111,114,116,32],sv x5,sv [10]]) h trivial rfl (vs:=[(0,sv [105,109,112,111,114,116,32]),(1,sv x5),(2,sv [10])]) rfl ⟨9,fun _=>by kernel_rfl⟩ ?_
 intro b7 H8 h
 refine Zc h QM ?_
 rintro _ H9 ⟨rfl,h⟩
 exact GL.ends (fun _ _ hf hs=>Qt rfl hf hs ⟨rfl,h⟩)
def Qej (C:Ctx) (p_w:Option (Nat×Nat)) (p_l:Sl) (p_between:Str) (p_write:Value) (K:Heap→Prop) (H:Heap):Prop:=
 lp (α:=Int) 0 H (fun x1 J2 H3=>
 ift (decide ((x1:Int) < (Sl.len p_l:Int)))
 (ixa p_l x1 fun p5=>
 ldT H3 Qd.c (p5.1,p5.2+(x1:Int).toNat*6) fun x10=>
 nw (Qd.c Qd.zero) (fun b12 H13=>
 stT (b12,0) (Qd.c x10) (fun H14=>
 jn (α:=Unit) (fun x16 H17=>
 ldT H17 Qd.c (b12,0) fun x25=>
 callU Tryz.prog C p_write [.agg (Qd.c x25).toArray] H17 (fun v H27=>v=.tuple #[]∧
 J2 (w .i64 (x1+1)) H27))
 (fun J15=>ift (decide ((x1:Int) > 0))
 (nck p_w fun p20=>
 Qm C (some (p20.1,p20.2+0)) p_between (fun r22 r23 H24=>
 J15 () H24) H14)
 (J15 () H14))) H13) H3)
 (K H3))
theorem QhH (C p_w p_l p_between p_write K H) (h:Qej C p_w p_l p_between p_write K H):Qck C p_w p_l p_between p_write K H:=by
 refine Ye Tryz.func75 rfl Tryz.ntmps75 [(0,pv p_w),(1,slv p_l),(2,sv p_between),(3,p_write)] (Zo (Zm (Zq (Zm (GL.nil (GC.block (Yp h (fun x1=>[(12,.int .i64 x1),(0,pv p_w),(2,sv p_between),(3,p_write),(10,slv p_l),(11,.int .i64 (Sl.len p_l:Int))]) ?_)))))))
 intro x1 H3 J2 h
 refine Zo (Zi (.bool (decide ((x1:Int) < (Sl.len p_l:Int)))) (GL.nil (GC.seq (Yd h (fun u4 h=>?_) fun u4 h=>?_))))
 refine GC.skip (GC.seq (GC.block (Zo (Zm (Yx h fun p5 h=>?_)))))
 obtain ⟨x10,v11,h⟩:=h
 refine Zv (OV.loadT rfl rfl rfl v11) (GL.alloc (cs:=Qd.c Qd.zero) h trivial rfl rfl rfl ?_)
 intro b12 H13 h
 refine Za (GL.storeT (p:=(b12,0)) (vs:=Qd.c x10) h trivial rfl rfl rfl rfl ?_)
 intro H14 h
 refine GL.nil ?_
 obtain ⟨J15,h,hR18⟩:=h
 refine GC.join (α:=Unit) J15 (fun _=>[(0,pv p_w),(2,sv p_between),(3,p_write),(9,pv (some (b12,0))),(10,slv p_l),(11,.int .i64 (Sl.len p_l:Int)),(12,.int .i64 x1)]) ?_ ?_
 refine Zo (Zm (Zi (.bool (decide ((x1:Int) > 0))) (GL.nil (Yd h (fun u19 h=>?_) fun u19 h=>?_))))
 refine GC.region (Zm ?_)
 obtain ⟨p20,hp21,h⟩:=h
 refine Zv (OV.nilCheck (q:=p_w) rfl hp21) (Zf (Zm (Zc h Qo ?_)))
 rintro _ H24 ⟨r22,r23,rfl,h⟩
 exact Yj I3 () h
 exact Yk I3 () h
 intro x16 H17 h
 replace h:=hR18 x16 H17 h
 refine GC.region (Zm ?_)
 obtain ⟨x25,v26,h⟩:=h
 refine Zv (OV.loadT rfl rfl rfl v26) (GL.callU (xv:=p_write) (vs:=[.agg (Qd.c x25).toArray]) h trivial rfl rfl rfl ?_)
 rintro _ H27 ⟨rfl,h⟩
 refine GL.nil_to I3 (GC.region (Zi (.int .i64 (w .i64 (x1+1))) (Zm ?_)))
 exact Yj I3 (w .i64 (x1+1)) h
 exact GC.exit_ends (fun _ _ hf hs=>Qt rfl hf hs ⟨rfl,h⟩)
def Qe3 (C:Ctx) (p_w:Option (Nat×Nat)) (p_t:Qd) (K:Heap→Prop) (H:Heap):Prop:=
 nw ([pv p_w]) (fun b1 H2=>
 nw (Qd.c p_t) (fun b3 H4=>
 ldP H4 (b1,0) fun x5=>
 ldB H4 ((b3,0).1,(b3,0).2+2) fun x7=>
 Qds C x5 x7 (fun H9=>
 ldP H9 (b1,0) fun x10=>
 ldS H9 ((b3,0).1,(b3,0).2+3) fun x12=>
 nw ([sv [116,121,112,101,32],sv x12]) (fun b14 H15=>
 QA C x10 (Sl.of (some (b14,0)) 2 2) (fun H16=>
 jn (α:=Unit) (fun x18 H19=>
 ldP H19 (b1,0) fun x29=>
 nck x29 fun p31=>
 Qm C (some (p31.1,p31.2+0)) [32,61,32] (fun r33 r34 H35=>
 ldP H35 (b1,0) fun x36=>
 ldL H35 ((b3,0).1,(b3,0).2+5) fun x38=>
 Qcj C x36 x38 [32,124,32] (.func (.func 163) (List.toArray []) (List.toArray [pv (some (b1,0))]):Value) (fun H40=>
 ldP H40 (b1,0) fun x41=>
 nck x41 fun p43=>
 Qq C (some (p43.1,p43.2+0)) 10 (fun r45 H46=>
 K H46) H40) H35) H19)
 (fun J17=>ldL H16 ((b3,0).1,(b3,0).2+4) fun x21=>
 ift (decide (((Sl.len x21:Int):Int) > 0))
 (ldP H16 (b1,0) fun x24=>
 ldL H16 ((b3,0).1,(b3,0).2+4) fun x26=>
 QcN C x24 x26 (.func (.func 161) (List.toArray []) (List.toArray [pv (some (b1,0))]):Value) (fun H28=>
 J17 () H28) H16)
 (J17 () H16))) H15) H9) H4) H2) H
theorem Qje (C p_w p_t K H) (h:Qe3 C p_w p_t K H):Qfh C p_w p_t K H:=by
 refine Ye Tryz.func76 rfl Tryz.ntmps76 [(0,pv p_w),(1,.agg (Qd.c p_t).toArray)] (Zo (GL.box (v:=pv p_w) (cs:=[pv p_w]) h trivial rfl rfl rfl ?_))
 intro b1 H2 h
 refine GL.box (v:=.agg (Qd.c p_t).toArray) (cs:=Qd.c p_t) h trivial rfl rfl rfl ?_
 intro b3 H4 h
 refine GL.nil (Zo (Yl h fun x5 h=>?_))
 refine Zf (Yl h fun x7 h=>?_)
 refine Zc h QgM ?_
 rintro _ H9 ⟨rfl,h⟩
 refine GL.nil (Zo (Yl h fun x10 h=>?_))
 refine Zf (Yl h fun x12 h=>?_)
 refine GL.buildSlice (cs:=[sv [116,121,112,101,32],sv x12]) h trivial rfl (vs:=[(0,sv [116,121,112,101,32]),(1,sv x12)]) rfl ⟨9,fun _=>by kernel_rfl⟩ ?_
 intro b14 H15 h
 refine Zc h QM ?_
 rintro _ H16 ⟨rfl,h⟩
 refine GL.nil ?_
 obtain ⟨J17,h,hR20⟩:=h
 refine GC.join (α:=Unit) J17 (fun _=>[(2,pv (some (b1,0))),(3,pv (some (b3,0)))]) ?_ ?_
 refine Zo (Zf (Yl h fun x21 h=>?_))
 refine Zq (Zi (.bool (decide (((Sl.len x21:Int):Int) > 0))) (GL.nil (Yd h (fun u23 h=>?_) fun u23 h=>?_)))
 refine GC.region (Yl h fun x24 h=>?_)
 refine Zf (Yl h fun x26 h=>?_)
 refine Zv (OV.makeFunc (vs:=[]) (us:=[pv (some (b1,0))]) rfl rfl) (Zc h QiK ?_)
 rintro _ H28 ⟨rfl,h⟩
 exact Yj I3 () h
 exact Yk I3 () h
 intro x18 H19 h
 replace h:=hR20 x18 H19 h
 refine Zo (Yl h fun x29 h=>?_)
 obtain ⟨p31,hp32,h⟩:=h
 refine Zv (OV.nilCheck (q:=x29) rfl hp32) (Zf (Zc h Qo ?_))
 rintro _ H35 ⟨r33,r34,rfl,h⟩
 refine GL.nil (Zo (Yl h fun x36 h=>?_))
 refine Zf (Yl h fun x38 h=>?_)
 refine Zv (OV.makeFunc (vs:=[]) (us:=[pv (some (b1,0))]) rfl rfl) (Zc h Qh2 ?_)
 rintro _ H40 ⟨rfl,h⟩
 refine GL.nil (GC.region (Yl h fun x41 h=>?_))
 obtain ⟨p43,hp44,h⟩:=h
 refine Zv (OV.nilCheck (q:=x41) rfl hp44) (Zf (Zc h Qr ?_))
 rintro _ H46 ⟨r45,rfl,h⟩
 exact GL.ends (fun _ _ hf hs=>Qt rfl hf hs ⟨rfl,h⟩)
def QeN (C:Ctx) (p_w:Option (Nat×Nat)) (p_l:Sl) (p_between:Str) (p_write:Value) (K:Heap→Prop) (H:Heap):Prop:=
 lp (α:=Int) 0 H (fun x1 J2 H3=>
 ift (decide ((x1:Int) < (Sl.len p_l:Int)))
 (ixa p_l x1 fun p5=>
 ldT H3 Qe.c (p5.1,p5.2+(x1:Int).toNat*6) fun x10=>
 nw (Qe.c Qe.zero) (fun b12 H13=>
 stT (b12,0) (Qe.c x10) (fun H14=>
 jn (α:=Unit) (fun x16 H17=>
 ldT H17 Qe.c (b12,0) fun x25=>
 callU Tryz.prog C p_write [.agg (Qe.c x25).toArray] H17 (fun v H27=>v=.tuple #[]∧
 J2 (w .i64 (x1+1)) H27))
 (fun J15=>ift (decide ((x1:Int) > 0))
 (nck p_w fun p20=>
 Qm C (some (p20.1,p20.2+0)) p_between (fun r22 r23 H24=>
 J15 () H24) H14)
 (J15 () H14))) H13) H3)
 (K H3))
theorem Qir (C p_w p_l p_between p_write K H) (h:QeN C p_w p_l p_between p_write K H):QcP C p_w p_l p_between p_write K H:=by
 refine Ye Tryz.func77 rfl Tryz.ntmps77 [(0,pv p_w),(1,slv p_l),(2,sv p_between),(3,p_write)] (Zo (Zm (Zq (Zm (GL.nil (GC.block (Yp h (fun x1=>[(12,.int .i64 x1),(0,pv p_w),(2,sv p_between),(3,p_write),(10,slv p_l),(11,.int .i64 (Sl.len p_l:Int))]) ?_)))))))
 intro x1 H3 J2 h
 refine Zo (Zi (.bool (decide ((x1:Int) < (Sl.len p_l:Int)))) (GL.nil (GC.seq (Yd h (fun u4 h=>?_) fun u4 h=>?_))))
 refine GC.skip (GC.seq (GC.block (Zo (Zm (Yx h fun p5 h=>?_)))))
 obtain ⟨x10,v11,h⟩:=h
 refine Zv (OV.loadT rfl rfl rfl v11) (GL.alloc (cs:=Qe.c Qe.zero) h trivial rfl rfl rfl ?_)
 intro b12 H13 h
 refine Za (GL.storeT (p:=(b12,0)) (vs:=Qe.c x10) h trivial rfl rfl rfl rfl ?_)
 intro H14 h
 refine GL.nil ?_
 obtain ⟨J15,h,hR18⟩:=h
 refine GC.join (α:=Unit) J15 (fun _=>[(0,pv p_w),(2,sv p_between),(3,p_write),(9,pv (some (b12,0))),(10,slv p_l),(11,.int .i64 (Sl.len p_l:Int)),(12,.int .i64 x1)]) ?_ ?_
 refine Zo (Zm (Zi (.bool (decide ((x1:Int) > 0))) (GL.nil (Yd h (fun u19 h=>?_) fun u19 h=>?_))))
 refine GC.region (Zm ?_)
 obtain ⟨p20,hp21,h⟩:=h
 refine Zv (OV.nilCheck (q:=p_w) rfl hp21) (Zf (Zm (Zc h Qo ?_)))
 rintro _ H24 ⟨r22,r23,rfl,h⟩
 exact Yj I3 () h
 exact Yk I3 () h
 intro x16 H17 h
 replace h:=hR18 x16 H17 h
 refine GC.region (Zm ?_)
 obtain ⟨x25,v26,h⟩:=h
 refine Zv (OV.loadT rfl rfl rfl v26) (GL.callU (xv:=p_write) (vs:=[.agg (Qe.c x25).toArray]) h trivial rfl rfl rfl ?_)
 rintro _ H27 ⟨rfl,h⟩
 refine GL.nil_to I3 (GC.region (Zi (.int .i64 (w .i64 (x1+1))) (Zm ?_)))
 exact Yj I3 (w .i64 (x1+1)) h
 exact GC.exit_ends (fun _ _ hf hs=>Qt rfl hf hs ⟨rfl,h⟩)
def Qfs (C:Ctx) (p_w:Option (Nat×Nat)) (p_x:Qe) (K:Heap→Prop) (H:Heap):Prop:=
 nw (Qe.c p_x) (fun b1 H2=>
 ldB H2 ((b1,0).1,(b1,0).2+2) fun x3=>
 Qds C p_w x3 (fun H5=>
 jn (α:=Str) (fun x7 H8=>
 ldS H8 ((b1,0).1,(b1,0).2+4) fun x13=>
 nw ([sv x7,sv x13]) (fun b15 H16=>
 QA C p_w (Sl.of (some (b15,0)) 2 2) (fun H17=>
 ldL H17 ((b1,0).1,(b1,0).2+5) fun x18=>
 Qad C p_w x18 (.func (.func 165) (List.toArray [pv p_w]) (List.toArray []):Value) (fun H20=>
 nck p_w fun p21=>
 Qq C (some (p21.1,p21.2+0)) 10 (fun r23 H24=>
 K H24) H20) H17) H16) H8)
 (fun J6=>ldB H5 ((b1,0).1,(b1,0).2+3) fun x10=>
 ift x10
 (J6 [105,110,112,117,116,32] H5)
 (J6 [114,101,108,32] H5))) H2) H
theorem QjA (C p_w p_x K H) (h:Qfs C p_w p_x K H):QfD C p_w p_x K H:=by
 refine Ye Tryz.func78 rfl Tryz.ntmps78 [(0,pv p_w),(1,.agg (Qe.c p_x).toArray)] (Zo (GL.box (v:=.agg (Qe.c p_x).toArray) (cs:=Qe.c p_x) h trivial rfl rfl rfl ?_))
 intro b1 H2 h
 refine GL.nil (Zo (Zm (Zf (Yl h fun x3 h=>?_))))
 refine Zc h QgM ?_
 rintro _ H5 ⟨rfl,h⟩
 refine GL.nil (Zo (Za (GL.nil ?_)))
 obtain ⟨J6,h,hR9⟩:=h
 refine GC.join (α:=Str) J6 (fun x7=>[(4,sv x7),(0,pv p_w),(3,pv (some (b1,0)))]) ?_ ?_
 refine Zo (Zf (Yl h fun x10 h=>?_))
 refine GL.nil (Yd h (fun u12 h=>?_) fun u12 h=>?_)
 refine GC.region (Za ?_)
 exact Yj I3 [105,110,112,117,116,32] h
 exact Yk I3 [114,101,108,32] h
 intro x7 H8 h
 replace h:=hR9 x7 H8 h
 refine Zo (Zm (Zm (Zf (Yl h fun x13 h=>?_))))
 refine GL.buildSlice (cs:=[sv x7,sv x13]) h trivial rfl (vs:=[(0,sv x7),(1,sv x13)]) rfl ⟨9,fun _=>by kernel_rfl⟩ ?_
 intro b15 H16 h
 refine Zc h QM ?_
 rintro _ H17 ⟨rfl,h⟩
 refine GL.nil (Zo (Zm (Zf (Yl h fun x18 h=>?_))))
 refine Zm (Zv (OV.makeFunc (vs:=[pv p_w]) (us:=[]) rfl rfl) (Zc h Qcx ?_))
 rintro _ H20 ⟨rfl,h⟩
 refine GL.nil (GC.region (Zm ?_))
 obtain ⟨p21,hp22,h⟩:=h
 refine Zv (OV.nilCheck (q:=p_w) rfl hp22) (Zf (Zc h Qr ?_))
 rintro _ H24 ⟨r23,rfl,h⟩
 exact GL.ends (fun _ _ hf hs=>Qt rfl hf hs ⟨rfl,h⟩)
def Qfq (C:Ctx) (p_w:Option (Nat×Nat)) (p_l:Sl) (p_between:Str) (p_write:Value) (K:Heap→Prop) (H:Heap):Prop:=
 lp (α:=Int) 0 H (fun x1 J2 H3=>
 ift (decide ((x1:Int) < (Sl.len p_l:Int)))
 (ixa p_l x1 fun p5=>
 ldT H3 Qk.c (p5.1,p5.2+(x1:Int).toNat*6) fun x10=>
 nw (Qk.c Qk.zero) (fun b12 H13=>
 stT (b12,0) (Qk.c x10) (fun H14=>
 jn (α:=Unit) (fun x16 H17=>
 ldT H17 Qk.c (b12,0) fun x25=>
 callU Tryz.prog C p_write [.agg (Qk.c x25).toArray] H17 (fun v H27=>v=.tuple #[]∧
 J2 (w .i64 (x1+1)) H27))
 (fun J15=>ift (decide ((x1:Int) > 0))
 (nck p_w fun p20=>
 Qm C (some (p20.1,p20.2+0)) p_between (fun r22 r23 H24=>
 J15 () H24) H14)
 (J15 () H14))) H13) H3)
 (K H3))
theorem Qjy (C p_w p_l p_between p_write K H) (h:Qfq C p_w p_l p_between p_write K H):QdB C p_w p_l p_between p_write K H:=by
 refine Ye Tryz.func79 rfl Tryz.ntmps79 [(0,pv p_w),(1,slv p_l),(2,sv p_between),(3,p_write)] (Zo (Zm (Zq (Zm (GL.nil (GC.block (Yp h (fun x1=>[(12,.int .i64 x1),(0,pv p_w),(2,sv p_between),(3,p_write),(10,slv p_l),(11,.int .i64 (Sl.len p_l:Int))]) ?_)))))))
 intro x1 H3 J2 h
 refine Zo (Zi (.bool (decide ((x1:Int) < (Sl.len p_l:Int)))) (GL.nil (GC.seq (Yd h (fun u4 h=>?_) fun u4 h=>?_))))
 refine GC.skip (GC.seq (GC.block (Zo (Zm (Yx h fun p5 h=>?_)))))
 obtain ⟨x10,v11,h⟩:=h
 refine Zv (OV.loadT rfl rfl rfl v11) (GL.alloc (cs:=Qk.c Qk.zero) h trivial rfl rfl rfl ?_)
 intro b12 H13 h
 refine Za (GL.storeT (p:=(b12,0)) (vs:=Qk.c x10) h trivial rfl rfl rfl rfl ?_)
 intro H14 h
 refine GL.nil ?_
 obtain ⟨J15,h,hR18⟩:=h
 refine GC.join (α:=Unit) J15 (fun _=>[(0,pv p_w),(2,sv p_between),(3,p_write),(9,pv (some (b12,0))),(10,slv p_l),(11,.int .i64 (Sl.len p_l:Int)),(12,.int .i64 x1)]) ?_ ?_
 refine Zo (Zm (Zi (.bool (decide ((x1:Int) > 0))) (GL.nil (Yd h (fun u19 h=>?_) fun u19 h=>?_))))
 refine GC.region (Zm ?_)
 obtain ⟨p20,hp21,h⟩:=h
 refine Zv (OV.nilCheck (q:=p_w) rfl hp21) (Zf (Zm (Zc h Qo ?_)))
 rintro _ H24 ⟨r22,r23,rfl,h⟩
 exact Yj I3 () h
 exact Yk I3 () h
 intro x16 H17 h
 replace h:=hR18 x16 H17 h
 refine GC.region (Zm ?_)
 obtain ⟨x25,v26,h⟩:=h
 refine Zv (OV.loadT rfl rfl rfl v26) (GL.callU (xv:=p_write) (vs:=[.agg (Qk.c x25).toArray]) h trivial rfl rfl rfl ?_)
 rintro _ H27 ⟨rfl,h⟩
 refine GL.nil_to I3 (GC.region (Zi (.int .i64 (w .i64 (x1+1))) (Zm ?_)))
 exact Yj I3 (w .i64 (x1+1)) h
 exact GC.exit_ends (fun _ _ hf hs=>Qt rfl hf hs ⟨rfl,h⟩)
def Qgq (C:Ctx) (p_w:Option (Nat×Nat)) (p_r:Qk) (K:Heap→Prop) (H:Heap):Prop:=
 nw ([pv p_w]) (fun b1 H2=>
 nw (Qk.c p_r) (fun b3 H4=>
 dr H4 fun Hs5=>
 ldP Hs5 (b1,0) fun x7=>
 nck x7 fun p9=>
 ldS Hs5 ((b3,0).1,(b3,0).2+2) fun x11=>
 Qm C (some (p9.1,p9.2+0)) x11 (fun r14 r15 H16=>
 Heap.le Hs5 H16∧
 nw ([.int .i64 0]) (fun b17 H18=>
 st (b17,0) (.int .i64 0) (fun H19=>
 ldP H19 (b1,0) fun x20=>
 ldL H19 ((b3,0).1,(b3,0).2+3) fun x22=>
 Qy C x20 x22 (.func (.func 168) (List.toArray []) (List.toArray [pv (some (b3,0)),pv (some (b17,0)),pv (some (b1,0))]):Value) (fun H24=>
 jn (α:=Unit) (fun x26 H27=>
 ldP H27 (b1,0) fun x46=>
 nck x46 fun p48=>
 Qm C (some (p48.1,p48.2+0)) [46,10] (fun r50 r51 H52=>
 K H52) H27)
 (fun J25=>ldL H24 ((b3,0).1,(b3,0).2+5) fun x29=>
 ift (decide (((Sl.len x29:Int):Int) > 0))
 (ldP H24 (b1,0) fun x32=>
 nck x32 fun p34=>
 Qm C (some (p34.1,p34.2+0)) [32,58,45,32] (fun r36 r37 H38=>
 ldP H38 (b1,0) fun x39=>
 ldL H38 ((b3,0).1,(b3,0).2+5) fun x41=>
 ldP H38 (b1,0) fun x43=>
 QaM C x39 x41 [44,32] (.func (.func 84) (List.toArray [pv x43]) (List.toArray []):Value) (fun H45=>
 J25 () H45) H38) H24)
 (J25 () H24))) H19) H18) H16) H4) H2) H
theorem Qle (C p_w p_r K H) (h:Qgq C p_w p_r K H):QgH C p_w p_r K H:=by
 refine Ye Tryz.func80 rfl Tryz.ntmps80 [(0,pv p_w),(1,.agg (Qk.c p_r).toArray)] (Zo (GL.box (v:=pv p_w) (cs:=[pv p_w]) h trivial rfl rfl rfl ?_))
 intro b1 H2 h
 refine GL.box (v:=.agg (Qk.c p_r).toArray) (cs:=Qk.c p_r) h trivial rfl rfl rfl ?_
 intro b3 H4 h
 refine GL.nil (GC.seq ?_)
 obtain ⟨Hs5,hle6,h⟩:=h
 refine GC.any (Hs:=Hs5) (by kernel_rfl) hle6 ?_
 obtain ⟨x7,v8,h⟩:=h
 refine Zp 0 rfl (Yo v8) ?_
 obtain ⟨p9,hp10,h⟩:=h
 refine Zp 1 rfl (OV.nilCheck (q:=x7) rfl hp10) (Zp 2 rfl Yf (Zp 3 rfl Yf ?_))
 obtain ⟨x11,v12,h⟩:=h
 refine Zp 4 rfl (Yo v12) (GA.eff 5 rfl (by kernel_rfl) (Zc h Qo ?_))
 rintro _ H16 ⟨r14,r15,rfl,h⟩
 obtain ⟨hle13,h⟩:=h
 refine GA.back hle13 (GA.done (by kernel_rfl) (GL.nil (Zo (GL.alloc (cs:=[.int .i64 0]) h trivial rfl rfl rfl ?_))))
 intro b17 H18 h
 refine GL.store (p:=(b17,0)) (v:=.int .i64 0) h trivial rfl rfl rfl rfl ?_
 intro H19 h
 refine GL.nil (Zo (Yl h fun x20 h=>?_))
 refine Zf (Yl h fun x22 h=>?_)
 refine Zv (OV.makeFunc (vs:=[]) (us:=[pv (some (b3,0)),pv (some (b17,0)),pv (some (b1,0))]) rfl rfl) (Zc h QT ?_)
 rintro _ H24 ⟨rfl,h⟩
 refine GL.nil ?_
 obtain ⟨J25,h,hR28⟩:=h
 refine GC.join (α:=Unit) J25 (fun _=>[(2,pv (some (b1,0)))]) ?_ ?_
 refine Zo (Zf (Yl h fun x29 h=>?_))
 refine Zq (Zi (.bool (decide (((Sl.len x29:Int):Int) > 0))) (GL.nil (Yd h (fun u31 h=>?_) fun u31 h=>?_)))
 refine Zo (Yl h fun x32 h=>?_)
 obtain ⟨p34,hp35,h⟩:=h
 refine Zv (OV.nilCheck (q:=x32) rfl hp35) (Zf (Zc h Qo ?_))
 rintro _ H38 ⟨r36,r37,rfl,h⟩
 refine GL.nil (GC.region (Yl h fun x39 h=>?_))
 refine Zf (Yl h fun x41 h=>?_)
 refine Yl h fun x43 h=>?_
 refine Zv (OV.makeFunc (vs:=[pv x43]) (us:=[]) rfl rfl) (Zc h Qd6 ?_)
 rintro _ H45 ⟨rfl,h⟩
 exact Yj I3 () h
 exact Yk I3 () h
 intro x26 H27 h
 replace h:=hR28 x26 H27 h
 refine GC.region (Yl h fun x46 h=>?_)
 obtain ⟨p48,hp49,h⟩:=h
 refine Zv (OV.nilCheck (q:=x46) rfl hp49) (Zf (Zc h Qo ?_))
 rintro _ H52 ⟨r50,r51,rfl,h⟩
 exact GL.ends (fun _ _ hf hs=>Qt rfl hf hs ⟨rfl,h⟩)
def Qe1 (C:Ctx) (p_w:Option (Nat×Nat)) (p_l:Sl) (p_between:Str) (p_write:Value) (K:Heap→Prop) (H:Heap):Prop:=
 lp (α:=Int) 0 H (fun x1 J2 H3=>
 ift (decide ((x1:Int) < (Sl.len p_l:Int)))
 (ixa p_l x1 fun p5=>
 ldT H3 Qn.c (p5.1,p5.2+(x1:Int).toNat*4) fun x10=>
 nw (Qn.c Qn.zero) (fun b12 H13=>
 stT (b12,0) (Qn.c x10) (fun H14=>
 jn (α:=Unit) (fun x16 H17=>
 ldT H17 Qn.c (b12,0) fun x25=>
 callU Tryz.prog C p_write [.agg (Qn.c x25).toArray] H17 (fun v H27=>v=.tuple #[]∧
 J2 (w .i64 (x1+1)) H27))
 (fun J15=>ift (decide ((x1:Int) > 0))
 (nck p_w fun p20=>
 Qm C (some (p20.1,p20.2+0)) p_between (fun r22 r23 H24=>
 J15 () H24) H14)
 (J15 () H14))) H13) H3)
 (K H3))
theorem Qjc (C p_w p_l p_between p_write K H) (h:Qe1 C p_w p_l p_between p_write K H):Qda C p_w p_l p_between p_write K H:=by
 refine Ye Tryz.func81 rfl Tryz.ntmps81 [(0,pv p_w),(1,slv p_l),(2,sv p_between),(3,p_write)] (Zo (Zm (Zq (Zm (GL.nil (GC.block (Yp h (fun x1=>[(12,.int .i64 x1),(0,pv p_w),(2,sv p_between),(3,p_write),(10,slv p_l),(11,.int .i64 (Sl.len p_l:Int))]) ?_)))))))
 intro x1 H3 J2 h
 refine Zo (Zi (.bool (decide ((x1:Int) < (Sl.len p_l:Int)))) (GL.nil (GC.seq (Yd h (fun u4 h=>?_) fun u4 h=>?_))))
 refine GC.skip (GC.seq (GC.block (Zo (Zm (Yx h fun p5 h=>?_)))))
 obtain ⟨x10,v11,h⟩:=h
 refine Zv (OV.loadT rfl rfl rfl v11) (GL.alloc (cs:=Qn.c Qn.zero) h trivial rfl rfl rfl ?_)
 intro b12 H13 h
 refine Za (GL.storeT (p:=(b12,0)) (vs:=Qn.c x10) h trivial rfl rfl rfl rfl ?_)
 intro H14 h
 refine GL.nil ?_
 obtain ⟨J15,h,hR18⟩:=h
 refine GC.join (α:=Unit) J15 (fun _=>[(0,pv p_w),(2,sv p_between),(3,p_write),(9,pv (some (b12,0))),(10,slv p_l),(11,.int .i64 (Sl.len p_l:Int)),(12,.int .i64 x1)]) ?_ ?_
 refine Zo (Zm (Zi (.bool (decide ((x1:Int) > 0))) (GL.nil (Yd h (fun u19 h=>?_) fun u19 h=>?_))))
 refine GC.region (Zm ?_)
 obtain ⟨p20,hp21,h⟩:=h
 refine Zv (OV.nilCheck (q:=p_w) rfl hp21) (Zf (Zm (Zc h Qo ?_)))
 rintro _ H24 ⟨r22,r23,rfl,h⟩
 exact Yj I3 () h
 exact Yk I3 () h
 intro x16 H17 h
 replace h:=hR18 x16 H17 h
 refine GC.region (Zm ?_)
 obtain ⟨x25,v26,h⟩:=h
 refine Zv (OV.loadT rfl rfl rfl v26) (GL.callU (xv:=p_write) (vs:=[.agg (Qn.c x25).toArray]) h trivial rfl rfl rfl ?_)
 rintro _ H27 ⟨rfl,h⟩
 refine GL.nil_to I3 (GC.region (Zi (.int .i64 (w .i64 (x1+1))) (Zm ?_)))
 exact Yj I3 (w .i64 (x1+1)) h
 exact GC.exit_ends (fun _ _ hf hs=>Qt rfl hf hs ⟨rfl,h⟩)
def Qkc (C:Ctx) (p_x:Qn) (v0:Nat×Nat) (K:Heap→Prop) (H:Heap):Prop:=
 nw (Qn.c p_x) (fun b1 H2=>
 ldP H2 v0 fun x3=>
 ldS H2 ((b1,0).1,(b1,0).2+2) fun x5=>
 nw ([sv [110,101,118,101,114,32],sv x5,sv [32,58,45,32]]) (fun b7 H8=>
 QA C x3 (Sl.of (some (b7,0)) 3 3) (fun H9=>
 ldP H9 v0 fun x10=>
 ldL H9 ((b1,0).1,(b1,0).2+3) fun x12=>
 ldP H9 v0 fun x14=>
 QaM C x10 x12 [44,32] (.func (.func 84) (List.toArray [pv x14]) (List.toArray []):Value) (fun H16=>
 ldP H16 v0 fun x17=>
 nck x17 fun p19=>
 Qm C (some (p19.1,p19.2+0)) [46,10] (fun r21 r22 H23=>
 K H23) H16) H9) H8) H2) H
theorem Qnb (C p_x v0 K H) (h:Qkc C p_x v0 K H):QkI C p_x v0 K H:=by
 refine Ye Tryz.func82 rfl Tryz.ntmps82 [(0,.agg (Qn.c p_x).toArray),(1,pv (some v0))] (Zo (GL.box (v:=.agg (Qn.c p_x).toArray) (cs:=Qn.c p_x) h trivial rfl rfl rfl ?_))
 intro b1 H2 h
 refine GL.nil (Zo (Yl h fun x3 h=>?_))
 refine Zf (Yl h fun x5 h=>?_)
 refine GL.buildSlice (cs:=[sv [110,101,118,101,114,32],sv x5,sv [32,58,45,32]]) h trivial rfl (vs:=[(0,sv [110,101,118,101,114,32]),(1,sv x5),(2,sv [32,58,45,32])]) rfl ⟨9,fun _=>by kernel_rfl⟩ ?_
 intro b7 H8 h
 refine Zc h QM ?_
 rintro _ H9 ⟨rfl,h⟩
 refine GL.nil (Zo (Yl h fun x10 h=>?_))
 refine Zf (Yl h fun x12 h=>?_)
 refine Yl h fun x14 h=>?_
 refine Zv (OV.makeFunc (vs:=[pv x14]) (us:=[]) rfl rfl) (Zc h Qd6 ?_)
 rintro _ H16 ⟨rfl,h⟩
 refine GL.nil (GC.region (Yl h fun x17 h=>?_))
 obtain ⟨p19,hp20,h⟩:=h
 refine Zv (OV.nilCheck (q:=x17) rfl hp20) (Zf (Zc h Qo ?_))
 rintro _ H23 ⟨r21,r22,rfl,h⟩
 exact GL.ends (fun _ _ hf hs=>Qt rfl hf hs ⟨rfl,h⟩)
def Qei (C:Ctx) (p_w:Option (Nat×Nat)) (p_l:Sl) (p_between:Str) (p_write:Value) (K:Heap→Prop) (H:Heap):Prop:=
 lp (α:=Int) 0 H (fun x1 J2 H3=>
 ift (decide ((x1:Int) < (Sl.len p_l:Int)))
 (ixa p_l x1 fun p5=>
 ldT H3 Qi.c (p5.1,p5.2+(x1:Int).toNat*5) fun x10=>
 nw (Qi.c Qi.zero) (fun b12 H13=>
 stT (b12,0) (Qi.c x10) (fun H14=>
 jn (α:=Unit) (fun x16 H17=>
 ldT H17 Qi.c (b12,0) fun x25=>
 callU Tryz.prog C p_write [.agg (Qi.c x25).toArray] H17 (fun v H27=>v=.tuple #[]∧
 J2 (w .i64 (x1+1)) H27))
 (fun J15=>ift (decide ((x1:Int) > 0))
 (nck p_w fun p20=>
 Qm C (some (p20.1,p20.2+0)) p_between (fun r22 r23 H24=>
 J15 () H24) H14)
 (J15 () H14))) H13) H3)
 (K H3))
theorem QhG (C p_w p_l p_between p_write K H) (h:Qei C p_w p_l p_between p_write K H):QaM C p_w p_l p_between p_write K H:=by
 refine Ye Tryz.func83 rfl Tryz.ntmps83 [(0,pv p_w),(1,slv p_l),(2,sv p_between),(3,p_write)] (Zo (Zm (Zq (Zm (GL.nil (GC.block (Yp h (fun x1=>[(12,.int .i64 x1),(0,pv p_w),(2,sv p_between),(3,p_write),(10,slv p_l),(11,.int .i64 (Sl.len p_l:Int))]) ?_)))))))
 intro x1 H3 J2 h
 refine Zo (Zi (.bool (decide ((x1:Int) < (Sl.len p_l:Int)))) (GL.nil (GC.seq (Yd h (fun u4 h=>?_) fun u4 h=>?_))))
 refine GC.skip (GC.seq (GC.block (Zo (Zm (Yx h fun p5 h=>?_)))))
 obtain ⟨x10,v11,h⟩:=h
 refine Zv (OV.loadT rfl rfl rfl v11) (GL.alloc (cs:=Qi.c Qi.zero) h trivial rfl rfl rfl ?_)
 intro b12 H13 h
 refine Za (GL.storeT (p:=(b12,0)) (vs:=Qi.c x10) h trivial rfl rfl rfl rfl ?_)
 intro H14 h
 refine GL.nil ?_
 obtain ⟨J15,h,hR18⟩:=h
 refine GC.join (α:=Unit) J15 (fun _=>[(0,pv p_w),(2,sv p_between),(3,p_write),(9,pv (some (b12,0))),(10,slv p_l),(11,.int .i64 (Sl.len p_l:Int)),(12,.int .i64 x1)]) ?_ ?_
 refine Zo (Zm (Zi (.bool (decide ((x1:Int) > 0))) (GL.nil (Yd h (fun u19 h=>?_) fun u19 h=>?_))))
 refine GC.region (Zm ?_)
 obtain ⟨p20,hp21,h⟩:=h
 refine Zv (OV.nilCheck (q:=p_w) rfl hp21) (Zf (Zm (Zc h Qo ?_)))
 rintro _ H24 ⟨r22,r23,rfl,h⟩
 exact Yj I3 () h
 exact Yk I3 () h
 intro x16 H17 h
 replace h:=hR18 x16 H17 h
 refine GC.region (Zm ?_)
 obtain ⟨x25,v26,h⟩:=h
 refine Zv (OV.loadT rfl rfl rfl v26) (GL.callU (xv:=p_write) (vs:=[.agg (Qi.c x25).toArray]) h trivial rfl rfl rfl ?_)
 rintro _ H27 ⟨rfl,h⟩
 refine GL.nil_to I3 (GC.region (Zi (.int .i64 (w .i64 (x1+1))) (Zm ?_)))
 exact Yj I3 (w .i64 (x1+1)) h
 exact GC.exit_ends (fun _ _ hf hs=>Qt rfl hf hs ⟨rfl,h⟩)
def Qe2 (C:Ctx) (p_w:Option (Nat×Nat)) (p_x:Qi) (K:Heap→Prop) (H:Heap):Prop:=
 nw (Qi.c p_x) (fun b1 H2=>
 ldI H2 .u8 ((b1,0).1,(b1,0).2+0) fun x3=>
 jn (α:=Unit) (fun x6 H7=>
 dr H7 fun Hs59=>
 nck p_w fun p61=>
 ldS Hs59 ((b1,0).1,(b1,0).2+3) fun x63=>
 Qm C (some (p61.1,p61.2+0)) x63 (fun r66 r67 H68=>
 Heap.le Hs59 H68∧
 ldL H68 ((b1,0).1,(b1,0).2+4) fun x69=>
 Qy C p_w x69 (.func (.func 169) (List.toArray [pv p_w]) (List.toArray []):Value) (fun H71=>
 K H71) H68) H7)
 (fun J5=>ift ((x3:Int) == 2)
 (nck p_w fun p10=>
 Qm C (some (p10.1,p10.2+0)) [110,111,116,32] (fun r12 r13 H14=>
 J5 () H14) H2)
 (ift ((x3:Int) == 1)
 (J5 () H2)
 (ift ((x3:Int) == 4)
 (ldS H2 ((b1,0).1,(b1,0).2+3) fun x17=>
 nw ([sv x17,sv [32,61,32]]) (fun b19 H20=>
 QA C p_w (Sl.of (some (b19,0)) 2 2) (fun H21=>
 ldL H21 ((b1,0).1,(b1,0).2+4) fun x22=>
 ixa x22 0 fun p24=>
 ldT H21 Qb.c (p24.1,p24.2+(0:Int).toNat*9) fun x29=>
 Qae C p_w x29 (fun H31=>
 K H31) H21) H20) H2)
 (jn (α:=Unit) (fun x33 H34=>
 K H34)
 (fun J32=>ldL H2 ((b1,0).1,(b1,0).2+4) fun x36=>
 ixa x36 0 fun p38=>
 ldI H2 .u8 ((p38.1,p38.2+(0:Int).toNat*9).1,(p38.1,p38.2+(0:Int).toNat*9).2+0) fun x43=>
 ift ((x43:Int) == 5)
 (ldL H2 ((b1,0).1,(b1,0).2+4) fun x46=>
 Qy C p_w x46 (.func (.func 169) (List.toArray [pv p_w]) (List.toArray []):Value) (fun H48=>
 J32 () H48) H2)
 (ldL H2 ((b1,0).1,(b1,0).2+4) fun x49=>
 ixa x49 0 fun p51=>
 ldT H2 Qb.c (p51.1,p51.2+(0:Int).toNat*9) fun x56=>
 Qae C p_w x56 (fun H58=>
 J32 () H58) H2))))))) H
theorem Qjd (C p_w p_x K H) (h:Qe2 C p_w p_x K H):Qfg C p_w p_x K H:=by
 refine Ye Tryz.func84 rfl Tryz.ntmps84 [(0,pv p_w),(1,.agg (Qi.c p_x).toArray)] (Zo (GL.box (v:=.agg (Qi.c p_x).toArray) (cs:=Qi.c p_x) h trivial rfl rfl rfl ?_))
 intro b1 H2 h
 refine GL.nil (Zo (Zf (Yl h fun x3 h=>?_)))
 refine GL.nil (GC.block (GC.seq (GC.block (GC.seq (GC.block ?_)))))
 obtain ⟨J5,h,hR8⟩:=h
 refine GC.join (α:=Unit) J5 (fun _=>[(0,pv p_w),(3,pv (some (b1,0)))]) ?_ ?_
 refine GC.block (GC.seq (GC.block (GC.seq (GC.seq (Zo (Zi (.bool ((x3:Int) == 2)) (Za (GL.nil (Yd h (fun u9 h=>?_) fun u9 h=>?_)))))))))
 refine GC.exit_to I3 (GC.region (Zm ?_))
 obtain ⟨p10,hp11,h⟩:=h
 refine Zv (OV.nilCheck (q:=p_w) rfl hp11) (Zf (Zc h Qo ?_))
 rintro _ H14 ⟨r12,r13,rfl,h⟩
 exact Yj I3 () h
 refine GC.skip (GC.seq (Zo (Zi (.bool ((x3:Int) == 1)) (Za (GL.nil (Yd h (fun u15 h=>?_) fun u15 h=>?_))))))
 exact GC.exit_jump I3 () h ⟨rfl,rfl,trivial⟩
 refine GC.skip (Zo (Zi (.bool ((x3:Int) == 4)) (Za (GL.nil (Yd h (fun u16 h=>?_) fun u16 h=>?_)))))
 refine GC.exit_to I3 (GC.seq (Zo (Zm (Zf ?_))))
 refine Yl h fun x17 h=>?_
 refine GL.buildSlice (cs:=[sv x17,sv [32,61,32]]) h trivial rfl (vs:=[(0,sv x17),(1,sv [32,61,32])]) rfl ⟨9,fun _=>by kernel_rfl⟩ ?_
 intro b19 H20 h
 refine Zc h QM ?_
 rintro _ H21 ⟨rfl,h⟩
 refine GL.nil (GC.region (Zm (Zf (Yl h fun x22 h=>?_))))
 refine Yx h fun p24 h=>?_
 obtain ⟨x29,v30,h⟩:=h
 refine Zv (OV.loadT rfl rfl rfl v30) (Zc h Q4 ?_)
 rintro _ H31 ⟨rfl,h⟩
 refine GL.nil ?_
 exact GC.exit_ends (fun _ _ hf hs=>Qt rfl hf hs ⟨rfl,h⟩)
 refine GC.skip (GC.exit_to I3 ?_)
 obtain ⟨J32,h,hR35⟩:=h
 refine GC.join (α:=Unit) J32 (fun _=>[]) ?_ ?_
 refine Zo (Zf (Yl h fun x36 h=>?_))
 refine Yx h fun p38 h=>?_
 refine Zf (Yl h fun x43 h=>?_)
 refine Zi (.bool ((x43:Int) == 5)) (GL.nil (Yd h (fun u45 h=>?_) fun u45 h=>?_))
 refine GC.region (Zm (Zf (Yl h fun x46 h=>?_)))
 refine Zm (Zv (OV.makeFunc (vs:=[pv p_w]) (us:=[]) rfl rfl) (Zc h QT ?_))
 rintro _ H48 ⟨rfl,h⟩
 exact GL.jump I3 () h trivial
 refine GC.region (Zm (Zf (Yl h fun x49 h=>?_)))
 refine Yx h fun p51 h=>?_
 obtain ⟨x56,v57,h⟩:=h
 refine Zv (OV.loadT rfl rfl rfl v57) (Zc h Q4 ?_)
 rintro _ H58 ⟨rfl,h⟩
 exact GL.jump I3 () h trivial
 intro x33 H34 h
 replace h:=hR35 x33 H34 h
 exact GC.exit_ends (fun _ _ hf hs=>Qt rfl hf hs ⟨rfl,h⟩)
 intro x6 H7 h
 replace h:=hR8 x6 H7 h
 refine GC.seq (GC.seq ?_)
 obtain ⟨Hs59,hle60,h⟩:=h
 refine GC.any (Hs:=Hs59) (by kernel_rfl) hle60 (Zp 0 rfl Ym ?_)
 obtain ⟨p61,hp62,h⟩:=h
 refine Zp 1 rfl (OV.nilCheck (q:=p_w) rfl hp62) (Zp 2 rfl Yf (Zp 3 rfl Yf ?_))
 obtain ⟨x63,v64,h⟩:=h
 refine Zp 4 rfl (Yo v64) (GA.eff 5 rfl (by kernel_rfl) (Zc h Qo ?_))
 rintro _ H68 ⟨r66,r67,rfl,h⟩
 obtain ⟨hle65,h⟩:=h
 refine GA.back hle65 (GA.done (by kernel_rfl) (GL.nil (GC.region (Zm (Zf (Yl h fun x69 h=>?_))))))
 refine Zm (Zv (OV.makeFunc (vs:=[pv p_w]) (us:=[]) rfl rfl) (Zc h QT ?_))
 rintro _ H71 ⟨rfl,h⟩
 refine GL.nil ?_
 exact GC.exit_ends (fun _ _ hf hs=>Qt rfl hf hs ⟨rfl,h⟩)
def Qb9 (C:Ctx) (p_b:Option (Nat×Nat)) (p_s:Str) (K:Int→Value→Heap→Prop) (H:Heap):Prop:=
 QaK C p_b (fun H1=>
 nck p_b fun p2=>
 ldL H1 (p2.1,p2.2+1) fun x4=>
 apdG 5 [.int .u8 0] 1 x4 (bytesV p_s) (List.length p_s) (fun r6 H7=>
 nck p_b fun p8=>
 sttG (p8.1,p8.2+1) (slv r6) (fun H10=>
 K (List.length p_s:Int) .nilIface H10) H7) H1) H
theorem Qfd (C p_b p_s K H) (h:Qb9 C p_b p_s K H):Qm C p_b p_s K H:=by
 refine Ye Tryz.func85 rfl Tryz.ntmps85 [(0,pv p_b),(1,sv p_s)] (Zo (Za (Za (GL.nil (Zo (Zm (Zc h QcV ?_)))))))
 rintro _ H1 ⟨rfl,h⟩
 refine GL.nil (Zo (Zm (Zm ?_)))
 obtain ⟨p2,hp3,h⟩:=h
 refine Zv (OV.nilCheck (q:=p_b) rfl hp3) (Zf (Yl h fun x4 h=>?_))
 refine Zm (GL.appendGStr (e:=5) (s:=x4) (u:=p_s) (bytes:=1) h trivial rfl rfl rfl ⟨⟨_,_,rfl,rfl,rfl,rfl,rfl,rfl⟩⟩ rfl ?_)
 intro r6 H7 h
 obtain ⟨p8,hp9,h⟩:=h
 refine Zv (OV.nilCheck (q:=p_b) rfl hp9) (Zf (GL.storeG (p:=(p8.1,p8.2+1)) (v:=slv r6) h trivial rfl rfl rfl rfl ?_))
 intro H10 h
 refine GL.nil (Zo (Zm (Zr (Za (Za (GL.nil ?_))))))
 exact Y2 I3 ⟨(List.length p_s:Int),.nilIface,rfl,h⟩
def QdT (C:Ctx) (p_b:Option (Nat×Nat)) (K:Str→Heap→Prop) (H:Heap):Prop:=
 dr H fun Hs1=>
 nck p_b fun p3=>
 ldL Hs1 (p3.1,p3.2+1) fun x5=>
 ((Sl.p x5=none∨Sl.cap x5≠0)∧Sl.x x5=none)∧
 nck p_b fun p9=>
 ldL Hs1 (p9.1,p9.2+1) fun x11=>
 ust 5 (Sl.p x5) (Sl.len x11:Int) (fun r14 H15=>
 Heap.le Hs1 H15∧
 K r14 H15) H
theorem Qg1 (C p_b K H) (h:QdT C p_b K H):QL C p_b K H:=by
 refine Ye Tryz.func86 rfl Tryz.ntmps86 [(0,pv p_b)] (Zo (Za (GL.nil (GC.seq ?_))))
 obtain ⟨Hs1,hle2,h⟩:=h
 refine GC.any (Hs:=Hs1) (by kernel_rfl) hle2 (Zp 0 rfl Ym ?_)
 obtain ⟨p3,hp4,h⟩:=h
 refine Zp 1 rfl (OV.nilCheck (q:=p_b) rfl hp4) (Zp 2 rfl Yf ?_)
 obtain ⟨x5,v6,h⟩:=h
 refine Zp 3 rfl (Yo v6) ?_
 obtain ⟨⟨h7,h8⟩,h⟩:=h
 refine Zp 4 rfl (OV.usd (s:=x5) h7 h8 rfl) (Zp 5 rfl Ym ?_)
 obtain ⟨p9,hp10,h⟩:=h
 refine Zp 6 rfl (OV.nilCheck (q:=p_b) rfl hp10) (Zp 7 rfl Yf ?_)
 obtain ⟨x11,v12,h⟩:=h
 refine Zp 8 rfl (Yo v12) (Zp 9 rfl (OV.lenSl rfl rfl) (GA.eff 10 rfl (by kernel_rfl) (GL.ust (e:=5) (p:=(Sl.p x5)) (m:=(Sl.len x11:Int)) h trivial rfl rfl rfl rfl (by kernel_rfl) ?_)))
 intro r14 H15 h
 obtain ⟨hle13,h⟩:=h
 refine GA.back hle13 (Zp 11 rfl Ya (GA.done (by kernel_rfl) (GL.nil ?_)))
 exact Y1 I3 ⟨r14,rfl,h⟩
def QfI (C:Ctx) (p_a:Qd) (p_b:Qd) (K:Bool→Heap→Prop) (H:Heap):Prop:=
 nw (Qd.c p_a) (fun b1 H2=>
 nw (Qd.c p_b) (fun b3 H4=>
 ldB H4 ((b1,0).1,(b1,0).2+2) fun x5=>
 ldB H4 ((b3,0).1,(b3,0).2+2) fun x7=>
 jn (α:=Bool) (fun b9 H17=>
 jn (α:=Bool) (fun b18 H28=>
 jn (α:=Bool) (fun b29 H37=>
 ift b29
 (K false H37)
 (lp (α:=Int) 0 H37 (fun x39 J40 H41=>
 ldL H41 ((b1,0).1,(b1,0).2+5) fun x42=>
 ift (decide ((x39:Int) < (Sl.len x42:Int)))
 (jn (α:=Bool) (fun x46 H47=>
 ift x46
 (K false H47)
 (J40 (w .i64 (x39+1)) H47))
 (fun J45=>dr H41 fun Hs49=>
 ldL Hs49 ((b1,0).1,(b1,0).2+5) fun x51=>
 ixa x51 x39 fun p53=>
 ldS Hs49 ((p53.1,p53.2+(x39:Int).toNat*2).1,(p53.1,p53.2+(x39:Int).toNat*2).2+0) fun x58=>
 ldL Hs49 ((b3,0).1,(b3,0).2+5) fun x60=>
 ixa x60 x39 fun p62=>
 ldS Hs49 ((p62.1,p62.2+(x39:Int).toNat*2).1,(p62.1,p62.2+(x39:Int).toNat*2).2+0) fun x67=>
 ift (!(x58 == x67))
 (J45 true H41)
 (ldL Hs49 ((b1,0).1,(b1,0).2+5) fun x70=>
 ixa x70 x39 fun p72=>
 ldL Hs49 ((p72.1,p72.2+(x39:Int).toNat*2).1,(p72.1,p72.2+(x39:Int).toNat*2).2+1) fun x77=>
 ldL Hs49 ((b3,0).1,(b3,0).2+5) fun x79=>
 ixa x79 x39 fun p81=>
 ldL Hs49 ((p81.1,p81.2+(x39:Int).toNat*2).1,(p81.1,p81.2+(x39:Int).toNat*2).2+1) fun x86=>
 Qao C x77 x86 (fun r89 H90=>
 Heap.le Hs49 H90∧
 J45 (!r89) H90) H41)))
 (K true H41))))
 (fun J30=>ift b18
 (J30 true H28)
 (ldL H28 ((b1,0).1,(b1,0).2+5) fun x33=>
 ldL H28 ((b3,0).1,(b3,0).2+5) fun x35=>
 J30 (((Sl.len x33:Int):Int) != (Sl.len x35:Int)) H28)))
 (fun J19=>ift b9
 (J19 true H17)
 (ldL H17 ((b1,0).1,(b1,0).2+4) fun x22=>
 ldL H17 ((b3,0).1,(b3,0).2+4) fun x24=>
 Qdm C x22 x24 (fun r26 H27=>
 J19 (!r26) H27) H17)))
 (fun J10=>ift (!(x5 == x7))
 (J10 true H4)
 (ldS H4 ((b1,0).1,(b1,0).2+3) fun x13=>
 ldS H4 ((b3,0).1,(b3,0).2+3) fun x15=>
 J10 (!(x13 == x15)) H4))) H2) H
theorem Qks (C p_a p_b K H) (h:QfI C p_a p_b K H):Qav C p_a p_b K H:=by
 refine Ye Tryz.func100 rfl Tryz.ntmps100 [(0,.agg (Qd.c p_a).toArray),(1,.agg (Qd.c p_b).toArray)] (Zo (GL.box (v:=.agg (Qd.c p_a).toArray) (cs:=Qd.c p_a) h trivial rfl rfl rfl ?_))
 intro b1 H2 h
 refine GL.box (v:=.agg (Qd.c p_b).toArray) (cs:=Qd.c p_b) h trivial rfl rfl rfl ?_
 intro b3 H4 h
 refine Za (GL.nil (GC.seq (Zo (Zf (Yl h fun x5 h=>?_)))))
 refine Zf (Yl h fun x7 h=>?_)
 refine Zv (OV.neqBool rfl rfl rfl) (Zm ?_)
 obtain ⟨J10,h,hR11⟩:=h
 refine GL.cut (α:=Bool) 6 J10 (fun b9=>[(17,.bool b9),(2,pv (some (b1,0))),(3,pv (some (b3,0)))]) ?_ ?_
 rcases h.em with ⟨u12,h⟩ | ⟨u12,h⟩
 refine Zk u12 (Zk u12 (Zk u12 (Zk u12 (Zk u12 (Zt u12 ?_)))))
 exact Yj I3 true h
 refine Zu u12 Yf ?_
 obtain ⟨x13,v14,h⟩:=h
 refine Zu u12 (Yo v14) (Zu u12 Yf ?_)
 obtain ⟨x15,v16,h⟩:=h
 refine Zu u12 (Yo v16) (Zu u12 (OV.sbin (a:=x13) (b:=x15) (v:=.bool (!(x13 == x15))) rfl rfl rfl) (Zn u12 ?_))
 exact Yj I3 (!(x13 == x15)) h
 intro b9 H17 h
 replace h:=hR11 b9 H17 h
 refine Zm ?_
 obtain ⟨J19,h,hR20⟩:=h
 refine GL.cut (α:=Bool) 7 J19 (fun b18=>[(25,.bool b18),(2,pv (some (b1,0))),(3,pv (some (b3,0)))]) ?_ ?_
 rcases h.em with ⟨u21,h⟩ | ⟨u21,h⟩
 refine Zk u21 (Zk u21 (Zk u21 (Zk u21 (Zk u21 (Zk u21 (Zt u21 ?_))))))
 exact Yj I3 true h
 refine Zu u21 Yf ?_
 obtain ⟨x22,v23,h⟩:=h
 refine Zu u21 (Yo v23) (Zu u21 Yf ?_)
 obtain ⟨x24,v25,h⟩:=h
 refine Zu u21 (Yo v25) (GL.call h (Yt u21) rfl QgJ (vs:=[slv x22,slv x24]) rfl ?_)
 rintro _ H27 ⟨r26,rfl,h⟩
 refine Zu u21 (OV.not rfl) (Zn u21 ?_)
 exact Yj I3 (!r26) h
 intro b18 H28 h
 replace h:=hR20 b18 H28 h
 refine Zm ?_
 obtain ⟨J30,h,hR31⟩:=h
 refine GL.cut (α:=Bool) 8 J30 (fun b29=>[(34,.bool b29),(2,pv (some (b1,0))),(3,pv (some (b3,0)))]) ?_ ?_
 rcases h.em with ⟨u32,h⟩ | ⟨u32,h⟩
 refine Zk u32 (Zk u32 (Zk u32 (Zk u32 (Zk u32 (Zk u32 (Zk u32 (Zt u32 ?_)))))))
 exact Yj I3 true h
 refine Zu u32 Yf ?_
 obtain ⟨x33,v34,h⟩:=h
 refine Zu u32 (Yo v34) (Zu u32 (OV.lenSl rfl rfl) (Zu u32 Yf ?_))
 obtain ⟨x35,v36,h⟩:=h
 refine Zu u32 (Yo v36) (Zu u32 (OV.lenSl rfl rfl) (Zu u32 (OV.ibin (v:=.bool (((Sl.len x33:Int):Int) != (Sl.len x35:Int))) rfl rfl rfl) (Zn u32 ?_)))
 exact Yj I3 (((Sl.len x33:Int):Int) != (Sl.len x35:Int)) h
 intro b29 H37 h
 replace h:=hR31 b29 H37 h
 refine GL.nil (Yd h (fun u38 h=>?_) fun u38 h=>?_)
 refine Zo (Za (GL.nil ?_))
 exact Y1 I3 ⟨false,rfl,h⟩
 refine GC.skip (GC.seq (Zo (Za (GL.nil (GC.block (Yp h (fun x39=>[(5,.int .i64 x39),(2,pv (some (b1,0))),(3,pv (some (b3,0)))]) ?_))))))
 intro x39 H41 J40 h
 refine GC.seq (Zo (Zm (Zf (Yl h fun x42 h=>?_))))
 refine Zq (Zi (.bool (decide ((x39:Int) < (Sl.len x42:Int)))) (GL.nil (Yd h (fun u44 h=>?_) fun u44 h=>?_)))
 refine GC.skip (GC.seq (GC.block (GC.seq ?_)))
 obtain ⟨J45,h,hR48⟩:=h
 refine GC.meet (α:=Bool) J45 (fun x46=>[(70,.bool x46),(2,pv (some (b1,0))),(3,pv (some (b3,0))),(5,.int .i64 x39)]) ?_ ?_
 obtain ⟨Hs49,hle50,h⟩:=h
 refine GC.any (Hs:=Hs49) (by kernel_rfl) hle50 (Zp 0 rfl Yf ?_)
 obtain ⟨x51,v52,h⟩:=h
 refine Zp 1 rfl (Yo v52) (Zp 2 rfl Ym ?_)
 obtain ⟨p53,ha54,hb55,u56,hd57,h⟩:=h
 refine Zp 3 rfl (OV.indexAddr rfl rfl rfl rfl ha54 hb55 u56 hd57) (Zp 4 rfl Yf ?_)
 obtain ⟨x58,v59,h⟩:=h
 refine Zp 5 rfl (Yo v59) (Zp 6 rfl Yf ?_)
 obtain ⟨x60,v61,h⟩:=h
 refine Zp 7 rfl (Yo v61) (Zp 8 rfl Ym ?_)
 obtain ⟨p62,ha63,hb64,u65,hd66,h⟩:=h
 refine Zp 9 rfl (OV.indexAddr rfl rfl rfl rfl ha63 hb64 u65 hd66) (Zp 10 rfl Yf ?_)
 obtain ⟨x67,v68,h⟩:=h
 refine Zp 11 rfl (Yo v68) (Zp 12 rfl (OV.sbin (a:=x58) (b:=x67) (v:=.bool (!(x58 == x67))) rfl rfl rfl) (Zp 13 rfl Ym ?_))
 rcases h.em with ⟨u69,h⟩ | ⟨u69,h⟩
 refine Zj 14 rfl (Yw u69) (Zj 15 rfl (Yw u69) (Zj 16 rfl (Yw u69) (Zj 17 rfl (Yw u69) (Zj 18 rfl (Yw u69) (Zj 19 rfl (Yw u69) (Zj 20 rfl (Yw u69) (Zj 21 rfl (Yw u69) (Zj 22 rfl (Yw u69) (Zj 23 rfl (Yw u69) (Zj 24 rfl (Yw u69) (Zj 25 rfl (Yw u69) (Zj 26 rfl (Yw u69) (Zj 27 rfl (Yw u69) (Zp 28 rfl (OV.pickT rfl u69 rfl) (GA.done (by kernel_rfl) ?_)))))))))))))))
 exact Yj I3 true h
 refine Zg 14 rfl (Yt u69) Yf ?_
 obtain ⟨x70,v71,h⟩:=h
 refine Zg 15 rfl (Yt u69) (Yo v71) (Zg 16 rfl (Yt u69) Ym ?_)
 obtain ⟨p72,ha73,hb74,u75,hd76,h⟩:=h
 refine Zg 17 rfl (Yt u69) (OV.indexAddr rfl rfl rfl rfl ha73 hb74 u75 hd76) (Zg 18 rfl (Yt u69) Yf ?_)
 obtain ⟨x77,v78,h⟩:=h
 refine Zg 19 rfl (Yt u69) (Yo v78) (Zg 20 rfl (Yt u69) Yf ?_)
 obtain ⟨x79,v80,h⟩:=h
 refine Zg 21 rfl (Yt u69) (Yo v80) (Zg 22 rfl (Yt u69) Ym ?_)
 obtain ⟨p81,ha82,hb83,u84,hd85,h⟩:=h
 refine Zg 23 rfl (Yt u69) (OV.indexAddr rfl rfl rfl rfl ha82 hb83 u84 hd85) (Zg 24 rfl (Yt u69) Yf ?_)
 obtain ⟨x86,v87,h⟩:=h
 refine Zg 25 rfl (Yt u69) (Yo v87) (GA.eff 26 rfl (by kernel_rfl) (GL.call h (Yt u69) rfl Qgg (vs:=[slv x77,slv x86]) rfl ?_))
 rintro _ H90 ⟨r89,rfl,h⟩
 obtain ⟨hle88,h⟩:=h
 refine GA.back hle88 (Zg 27 rfl (Yt u69) (OV.not rfl) (Zp 28 rfl (OV.pickF rfl u69 rfl) (GA.done (by kernel_rfl) ?_)))
 exact Yj I3 (!r89) h
 intro x46 H47 h
 replace h:=hR48 x46 H47 h
 refine GL.nil (Yd h (fun u91 h=>?_) fun u91 h=>?_)
 refine Zo (Za (GL.nil ?_))
 exact Y1 I3 ⟨false,rfl,h⟩
 refine GC.skip_to I3 (GC.region (Zm (Zi (.int .i64 (w .i64 (x39+1))) (Za ?_))))
 exact Yj I3 (w .i64 (x39+1)) h
 refine GC.exit_to I3 (Zo (Za (GL.nil ?_)))
 exact Y1 I3 ⟨true,rfl,h⟩
def QkU (C:Ctx) (p_l:Sl) (K:Sl→Heap→Prop) (H:Heap):Prop:=
 lp (α:=Sl×Int) (Sl.nil,0) H (fun x1 J2 H3=>
 ift (decide ((x1.2:Int) < (Sl.len p_l:Int)))
 (ixa p_l x1.2 fun p5=>
 ldT H3 Qf.c ((p5.1,p5.2+(x1.2:Int).toNat*9).1,(p5.1,p5.2+(x1.2:Int).toNat*9).2+1) fun x10=>
 apd (Qf.c Qf.zero) 16 x1.1 ((Qf.c x10)++[]) 1 (fun r12 H13=>
 ixa p_l x1.2 fun p14=>
 ldL H13 ((p14.1,p14.2+(x1.2:Int).toNat*9).1,(p14.1,p14.2+(x1.2:Int).toNat*9).2+8) fun x19=>
 Qeu C x19 (fun r21 H22=>
 apS (Qf.c Qf.zero) 16 r12 r21 (fun r23 H24=>
 J2 (r23,(w .i64 (x1.2+1))) H24) H22) H13) H3)
 (K x1.1 H3))
theorem Qn5 (C p_l K H) (h:QkU C p_l K H):Qeu C p_l K H:=by
 refine Ye Tryz.func101 rfl Tryz.ntmps101 [(0,slv p_l)] (Zo (Za (GL.nil (Zo (Za (GL.nil (GC.seq (Zo (Za (GL.nil (GC.block (Yp h (fun x1=>[(3,slv x1.1),(4,.int .i64 x1.2),(0,slv p_l)]) ?_))))))))))))
 intro x1 H3 J2 h
 refine GC.seq (Zo (Zm (Zm (Zq (Zi (.bool (decide ((x1.2:Int) < (Sl.len p_l:Int)))) (GL.nil (Yd h (fun u4 h=>?_) fun u4 h=>?_)))))))
 refine GC.skip (GC.seq (GC.block (Zo (Zm (Zm (Zm (Yx h fun p5 h=>?_)))))))
 refine Zf ?_
 obtain ⟨x10,v11,h⟩:=h
 refine Zv (OV.loadT rfl rfl rfl v11) (GL.appendLit (s:=x1.1) (ys:=(Qf.c x10)++[]) (zc:=Qf.c Qf.zero) (bytes:=16) h trivial rfl (fun _=>trivial) rfl (fun _=>rfl) (fun _=>rfl) (vs:=[(0,.agg (Qf.c x10).toArray)]) rfl ⟨26,fun _=>by kernel_rfl⟩ ⟨⟨_,_,_,rfl,rfl,rfl,rfl,rfl,rfl⟩⟩ rfl rfl ?_)
 intro _ r12 H13 h
 refine Za (GL.nil (GC.region (Zm (Zm (Zm (Yx h fun p14 h=>?_))))))
 refine Zf (Yl h fun x19 h=>?_)
 refine Zc h Qhf ?_
 rintro _ H22 ⟨r21,rfl,h⟩
 refine GL.appendS (s:=r12) (s2:=r21) (zc:=Qf.c Qf.zero) (bytes:=16) h trivial rfl rfl rfl ⟨⟨_,_,_,rfl,rfl,rfl,rfl,rfl,rfl⟩⟩ rfl ?_
 intro r23 H24 h
 refine Za (GL.nil_to I3 (GC.region (Zm (Zi (.int .i64 (w .i64 (x1.2+1))) (Za ?_)))))
 exact Yj I3 (r23,(w .i64 (x1.2+1))) h
 refine GC.exit_to I3 (Zo (Zm (Za (GL.nil ?_))))
 exact Y1 I3 ⟨x1.1,rfl,h⟩
def QlP (C:Ctx) (p_l:Sl) (K:Sl→Heap→Prop) (H:Heap):Prop:=
 lp (α:=Sl×Int) (Sl.nil,0) H (fun x1 J2 H3=>
 ift (decide ((x1.2:Int) < (Sl.len p_l:Int)))
 (ixa p_l x1.2 fun p5=>
 ldT H3 Qf.c ((p5.1,p5.2+(x1.2:Int).toNat*5).1,(p5.1,p5.2+(x1.2:Int).toNat*5).2+1) fun x10=>
 apd (Qf.c Qf.zero) 16 x1.1 ((Qf.c x10)++[]) 1 (fun r12 H13=>
 ixa p_l x1.2 fun p14=>
 ldL H13 ((p14.1,p14.2+(x1.2:Int).toNat*5).1,(p14.1,p14.2+(x1.2:Int).toNat*5).2+4) fun x19=>
 Qeu C x19 (fun r21 H22=>
 apS (Qf.c Qf.zero) 16 r12 r21 (fun r23 H24=>
 J2 (r23,(w .i64 (x1.2+1))) H24) H22) H13) H3)
 (K x1.1 H3))
theorem QoT (C p_l K H) (h:QlP C p_l K H):QgE C p_l K H:=by
 refine Ye Tryz.func102 rfl Tryz.ntmps102 [(0,slv p_l)] (Zo (Za (GL.nil (Zo (Za (GL.nil (GC.seq (Zo (Za (GL.nil (GC.block (Yp h (fun x1=>[(3,slv x1.1),(4,.int .i64 x1.2),(0,slv p_l)]) ?_))))))))))))
 intro x1 H3 J2 h
 refine GC.seq (Zo (Zm (Zm (Zq (Zi (.bool (decide ((x1.2:Int) < (Sl.len p_l:Int)))) (GL.nil (Yd h (fun u4 h=>?_) fun u4 h=>?_)))))))
 refine GC.skip (GC.seq (GC.block (Zo (Zm (Zm (Zm (Yx h fun p5 h=>?_)))))))
 refine Zf ?_
 obtain ⟨x10,v11,h⟩:=h
 refine Zv (OV.loadT rfl rfl rfl v11) (GL.appendLit (s:=x1.1) (ys:=(Qf.c x10)++[]) (zc:=Qf.c Qf.zero) (bytes:=16) h trivial rfl (fun _=>trivial) rfl (fun _=>rfl) (fun _=>rfl) (vs:=[(0,.agg (Qf.c x10).toArray)]) rfl ⟨26,fun _=>by kernel_rfl⟩ ⟨⟨_,_,_,rfl,rfl,rfl,rfl,rfl,rfl⟩⟩ rfl rfl ?_)
 intro _ r12 H13 h
 refine Za (GL.nil (GC.region (Zm (Zm (Zm (Yx h fun p14 h=>?_))))))
 refine Zf (Yl h fun x19 h=>?_)
 refine Zc h Qhf ?_
 rintro _ H22 ⟨r21,rfl,h⟩
 refine GL.appendS (s:=r12) (s2:=r21) (zc:=Qf.c Qf.zero) (bytes:=16) h trivial rfl rfl rfl ⟨⟨_,_,_,rfl,rfl,rfl,rfl,rfl,rfl⟩⟩ rfl ?_
 intro r23 H24 h
 refine Za (GL.nil_to I3 (GC.region (Zm (Zi (.int .i64 (w .i64 (x1.2+1))) (Za ?_)))))
 exact Yj I3 (r23,(w .i64 (x1.2+1))) h
 refine GC.exit_to I3 (Zo (Zm (Za (GL.nil ?_))))
 exact Y1 I3 ⟨x1.1,rfl,h⟩
def Qh9 (C:Ctx) (p_a:Qb) (p_b:Qb) (K:Bool→Heap→Prop) (H:Heap):Prop:=
 nw (Qb.c p_a) (fun b1 H2=>
 nw (Qb.c p_b) (fun b3 H4=>
 ldI H4 .u8 ((b1,0).1,(b1,0).2+0) fun x5=>
 ldI H4 .u8 ((b3,0).1,(b3,0).2+0) fun x7=>
 jn (α:=Bool) (fun b9 H17=>
 jn (α:=Bool) (fun b18 H28=>
 jn (α:=Bool) (fun b29 H39=>
 K b29 H39)
 (fun J30=>ift b18
 (ldL H28 ((b1,0).1,(b1,0).2+8) fun x33=>
 ldL H28 ((b3,0).1,(b3,0).2+8) fun x35=>
 Q7 C x33 x35 (fun r37 H38=>
 J30 r37 H38) H28)
 (J30 false H28)))
 (fun J19=>ift b9
 (ldT H17 Qh.c ((b1,0).1,(b1,0).2+4) fun x22=>
 ldT H17 Qh.c ((b3,0).1,(b3,0).2+4) fun x24=>
 Qbp C x22 x24 (fun r26 H27=>
 J19 r26 H27) H17)
 (J19 false H17)))
 (fun J10=>ift ((x5:Int) == x7)
 (ldS H4 ((b1,0).1,(b1,0).2+3) fun x13=>
 ldS H4 ((b3,0).1,(b3,0).2+3) fun x15=>
 J10 (x13 == x15) H4)
 (J10 false H4))) H2) H
theorem Ql8 (C p_a p_b K H) (h:Qh9 C p_a p_b K H):QaR C p_a p_b K H:=by
 refine Ye Tryz.func103 rfl Tryz.ntmps103 [(0,.agg (Qb.c p_a).toArray),(1,.agg (Qb.c p_b).toArray)] (Zo (GL.box (v:=.agg (Qb.c p_a).toArray) (cs:=Qb.c p_a) h trivial rfl rfl rfl ?_))
 intro b1 H2 h
 refine GL.box (v:=.agg (Qb.c p_b).toArray) (cs:=Qb.c p_b) h trivial rfl rfl rfl ?_
 intro b3 H4 h
 refine Za (GL.nil (Zo (Zf (Yl h fun x5 h=>?_))))
 refine Zf (Yl h fun x7 h=>?_)
 refine Zi (.bool ((x5:Int) == x7)) (Zm ?_)
 obtain ⟨J10,h,hR11⟩:=h
 refine GL.cut (α:=Bool) 6 J10 (fun b9=>[(16,.bool b9),(2,pv (some (b1,0))),(3,pv (some (b3,0)))]) ?_ ?_
 rcases h.em with ⟨u12,h⟩ | ⟨u12,h⟩
 refine Zu u12 Yf ?_
 obtain ⟨x13,v14,h⟩:=h
 refine Zu u12 (Yo v14) (Zu u12 Yf ?_)
 obtain ⟨x15,v16,h⟩:=h
 refine Zu u12 (Yo v16) (Zu u12 (OV.sbin (a:=x13) (b:=x15) (v:=.bool (x13 == x15)) rfl rfl rfl) (Zt u12 ?_))
 exact Yj I3 (x13 == x15) h
 refine Zk u12 (Zk u12 (Zk u12 (Zk u12 (Zk u12 (Zn u12 ?_)))))
 exact Yj I3 false h
 intro b9 H17 h
 replace h:=hR11 b9 H17 h
 refine Zm ?_
 obtain ⟨J19,h,hR20⟩:=h
 refine GL.cut (α:=Bool) 6 J19 (fun b18=>[(23,.bool b18),(2,pv (some (b1,0))),(3,pv (some (b3,0)))]) ?_ ?_
 rcases h.em with ⟨u21,h⟩ | ⟨u21,h⟩
 refine Zu u21 Yf ?_
 obtain ⟨x22,v23,h⟩:=h
 refine Zu u21 (OV.loadT rfl rfl rfl v23) (Zu u21 Yf ?_)
 obtain ⟨x24,v25,h⟩:=h
 refine Zu u21 (OV.loadT rfl rfl rfl v25) (GL.call h (Yt u21) rfl QlH (vs:=[.agg (Qh.c x22).toArray,.agg (Qh.c x24).toArray]) rfl ?_)
 rintro _ H27 ⟨r26,rfl,h⟩
 refine Zt u21 ?_
 exact Yj I3 r26 h
 refine Zk u21 (Zk u21 (Zk u21 (Zk u21 (Zk u21 (Zn u21 ?_)))))
 exact Yj I3 false h
 intro b18 H28 h
 replace h:=hR20 b18 H28 h
 refine Zm ?_
 obtain ⟨J30,h,hR31⟩:=h
 refine GL.cut (α:=Bool) 6 J30 (fun b29=>[(30,.bool b29)]) ?_ ?_
 rcases h.em with ⟨u32,h⟩ | ⟨u32,h⟩
 refine Zu u32 Yf ?_
 obtain ⟨x33,v34,h⟩:=h
 refine Zu u32 (Yo v34) (Zu u32 Yf ?_)
 obtain ⟨x35,v36,h⟩:=h
 refine Zu u32 (Yo v36) (GL.call h (Yt u32) rfl QeC (vs:=[slv x33,slv x35]) rfl ?_)
 rintro _ H38 ⟨r37,rfl,h⟩
 refine Zt u32 ?_
 exact Yj I3 r37 h
 refine Zk u32 (Zk u32 (Zk u32 (Zk u32 (Zk u32 (Zn u32 ?_)))))
 exact Yj I3 false h
 intro b29 H39 h
 replace h:=hR31 b29 H39 h
 refine Za (GL.nil ?_)
 exact Y1 I3 ⟨b29,rfl,h⟩
def Qdk (C:Ctx) (p_l:Sl) (p_depth:Value) (K:Int→Heap→Prop) (H:Heap):Prop:=
 lp (α:=Int×Int) (0,0) H (fun x1 J2 H3=>
 ift (decide ((x1.2:Int) < (Sl.len p_l:Int)))
 (ixa p_l x1.2 fun p5=>
 ldT H3 Qd.c (p5.1,p5.2+(x1.2:Int).toNat*6) fun x10=>
 nw (Qd.c Qd.zero) (fun b12 H13=>
 stT (b12,0) (Qd.c x10) (fun H14=>
 ldT H14 Qd.c (b12,0) fun x15=>
 callU Tryz.prog C p_depth [.agg (Qd.c x15).toArray] H14 (fun v H18=>∃ (r17:Int),v=.int .i64 r17∧
 J2 ((if r17 > x1.1 then r17 else x1.1:Int),(w .i64 (x1.2+1))) H18)) H13) H3)
 (K x1.1 H3))
theorem Qf4 (C p_l p_depth K H) (h:Qdk C p_l p_depth K H):QO C p_l p_depth K H:=by
 refine Ye Tryz.func104 rfl Tryz.ntmps104 [(0,slv p_l),(1,p_depth)] (Zo (Za (GL.nil (Zo (Za (GL.nil (GC.seq (Zo (Zm (Zq (Zm (GL.nil (GC.block (Yp h (fun x1=>[(5,.int .i64 x1.1),(10,.int .i64 x1.2),(1,p_depth),(8,slv p_l),(9,.int .i64 (Sl.len p_l:Int))]) ?_))))))))))))))
 intro x1 H3 J2 h
 refine Zo (Zi (.bool (decide ((x1.2:Int) < (Sl.len p_l:Int)))) (GL.nil (GC.seq (Yd h (fun u4 h=>?_) fun u4 h=>?_))))
 refine GC.skip (GC.seq (GC.block (Zo (Yx h fun p5 h=>?_))))
 obtain ⟨x10,v11,h⟩:=h
 refine Zv (OV.loadT rfl rfl rfl v11) (GL.alloc (cs:=Qd.c Qd.zero) h trivial rfl rfl rfl ?_)
 intro b12 H13 h
 refine GL.storeT (p:=(b12,0)) (vs:=Qd.c x10) h trivial rfl rfl rfl rfl ?_
 intro H14 h
 refine GL.nil (GC.region (Zm (Zm ?_)))
 obtain ⟨x15,v16,h⟩:=h
 refine Zv (OV.loadT rfl rfl rfl v16) (GL.callU (xv:=p_depth) (vs:=[.agg (Qd.c x15).toArray]) h trivial rfl rfl rfl ?_)
 rintro _ H18 ⟨r17,rfl,h⟩
 refine Zv (OV.maxI rfl rfl) (Za (GL.nil_to I3 (GC.region (Zi (.int .i64 (w .i64 (x1.2+1))) (Zm ?_)))))
 exact Yj I3 ((if r17 > x1.1 then r17 else x1.1:Int),(w .i64 (x1.2+1))) h
 refine GC.exit_to I3 (Zo (Zm (Za (GL.nil ?_))))
 exact Y1 I3 ⟨x1.1,rfl,h⟩
def QkZ (C:Ctx) (p_t:Qd) (K:Int→Heap→Prop) (H:Heap):Prop:=
 nw (Qd.c p_t) (fun b1 H2=>
 ldL H2 ((b1,0).1,(b1,0).2+5) fun x3=>
 QN C x3 (.func (.func 107) (List.toArray []) (List.toArray []):Value) (fun r5 H6=>
 K r5 H6) H2) H
theorem Qoa (C p_t K H) (h:QkZ C p_t K H):Qdn C p_t K H:=by
 refine Ye Tryz.func105 rfl Tryz.ntmps105 [(0,.agg (Qd.c p_t).toArray)] (Zo (GL.box (v:=.agg (Qd.c p_t).toArray) (cs:=Qd.c p_t) h trivial rfl rfl rfl ?_))
 intro b1 H2 h
 refine Za (GL.nil (Zo (Zf (Yl h fun x3 h=>?_))))
 refine Zc h Qgi ?_
 rintro _ H6 ⟨r5,rfl,h⟩
 refine Za (GL.nil ?_)
 exact Y1 I3 ⟨r5,rfl,h⟩
def Qdi (C:Ctx) (p_l:Sl) (p_depth:Value) (K:Int→Heap→Prop) (H:Heap):Prop:=
 lp (α:=Int×Int) (0,0) H (fun x1 J2 H3=>
 ift (decide ((x1.2:Int) < (Sl.len p_l:Int)))
 (ixa p_l x1.2 fun p5=>
 ldT H3 Ql.c (p5.1,p5.2+(x1.2:Int).toNat*2) fun x10=>
 nw (Ql.c Ql.zero) (fun b12 H13=>
 stT (b12,0) (Ql.c x10) (fun H14=>
 ldT H14 Ql.c (b12,0) fun x15=>
 callU Tryz.prog C p_depth [.agg (Ql.c x15).toArray] H14 (fun v H18=>∃ (r17:Int),v=.int .i64 r17∧
 J2 ((if r17 > x1.1 then r17 else x1.1:Int),(w .i64 (x1.2+1))) H18)) H13) H3)
 (K x1.1 H3))
theorem Qf2 (C p_l p_depth K H) (h:Qdi C p_l p_depth K H):QN C p_l p_depth K H:=by
 refine Ye Tryz.func106 rfl Tryz.ntmps106 [(0,slv p_l),(1,p_depth)] (Zo (Za (GL.nil (Zo (Za (GL.nil (GC.seq (Zo (Zm (Zq (Zm (GL.nil (GC.block (Yp h (fun x1=>[(5,.int .i64 x1.1),(10,.int .i64 x1.2),(1,p_depth),(8,slv p_l),(9,.int .i64 (Sl.len p_l:Int))]) ?_))))))))))))))
 intro x1 H3 J2 h
 refine Zo (Zi (.bool (decide ((x1.2:Int) < (Sl.len p_l:Int)))) (GL.nil (GC.seq (Yd h (fun u4 h=>?_) fun u4 h=>?_))))
 refine GC.skip (GC.seq (GC.block (Zo (Yx h fun p5 h=>?_))))
 obtain ⟨x10,v11,h⟩:=h
 refine Zv (OV.loadT rfl rfl rfl v11) (GL.alloc (cs:=Ql.c Ql.zero) h trivial rfl rfl rfl ?_)
 intro b12 H13 h
 refine GL.storeT (p:=(b12,0)) (vs:=Ql.c x10) h trivial rfl rfl rfl rfl ?_
 intro H14 h
 refine GL.nil (GC.region (Zm (Zm ?_)))
 obtain ⟨x15,v16,h⟩:=h
 refine Zv (OV.loadT rfl rfl rfl v16) (GL.callU (xv:=p_depth) (vs:=[.agg (Ql.c x15).toArray]) h trivial rfl rfl rfl ?_)
 rintro _ H18 ⟨r17,rfl,h⟩
 refine Zv (OV.maxI rfl rfl) (Za (GL.nil_to I3 (GC.region (Zi (.int .i64 (w .i64 (x1.2+1))) (Zm ?_)))))
 exact Yj I3 ((if r17 > x1.1 then r17 else x1.1:Int),(w .i64 (x1.2+1))) h
 refine GC.exit_to I3 (Zo (Zm (Za (GL.nil ?_))))
 exact Y1 I3 ⟨x1.1,rfl,h⟩
def QiY (C:Ctx) (p_c:Ql) (K:Int→Heap→Prop) (H:Heap):Prop:=
 nw (Ql.c p_c) (fun b1 H2=>
 ldL H2 ((b1,0).1,(b1,0).2+1) fun x3=>
 Qx C x3 (.func (.func 109) (List.toArray []) (List.toArray []):Value) (fun r5 H6=>
 K r5 H6) H2) H
theorem QmK (C p_c K H) (h:QiY C p_c K H):Qb1 C p_c K H:=by
 refine Ye Tryz.func107 rfl Tryz.ntmps107 [(0,.agg (Ql.c p_c).toArray)] (Zo (GL.box (v:=.agg (Ql.c p_c).toArray) (cs:=Ql.c p_c) h trivial rfl rfl rfl ?_))
 intro b1 H2 h
 refine Za (GL.nil (Zo (Zf (Yl h fun x3 h=>?_))))
 refine Zc h QcX ?_
 rintro _ H6 ⟨r5,rfl,h⟩
 refine Za (GL.nil ?_)
 exact Y1 I3 ⟨r5,rfl,h⟩
def Qc1 (C:Ctx) (p_l:Sl) (p_depth:Value) (K:Int→Heap→Prop) (H:Heap):Prop:=
 lp (α:=Int×Int) (0,0) H (fun x1 J2 H3=>
 ift (decide ((x1.2:Int) < (Sl.len p_l:Int)))
 (ixa p_l x1.2 fun p5=>
 ldT H3 Qj.c (p5.1,p5.2+(x1.2:Int).toNat*3) fun x10=>
 nw (Qj.c Qj.zero) (fun b12 H13=>
 stT (b12,0) (Qj.c x10) (fun H14=>
 ldT H14 Qj.c (b12,0) fun x15=>
 callU Tryz.prog C p_depth [.agg (Qj.c x15).toArray] H14 (fun v H18=>∃ (r17:Int),v=.int .i64 r17∧
 J2 ((if r17 > x1.1 then r17 else x1.1:Int),(w .i64 (x1.2+1))) H18)) H13) H3)
 (K x1.1 H3))
theorem QfV (C p_l p_depth K H) (h:Qc1 C p_l p_depth K H):Qx C p_l p_depth K H:=by
 refine Ye Tryz.func108 rfl Tryz.ntmps108 [(0,slv p_l),(1,p_depth)] (Zo (Za (GL.nil (Zo (Za (GL.nil (GC.seq (Zo (Zm (Zq (Zm (GL.nil (GC.block (Yp h (fun x1=>[(5,.int .i64 x1.1),(10,.int .i64 x1.2),(1,p_depth),(8,slv p_l),(9,.int .i64 (Sl.len p_l:Int))]) ?_))))))))))))))
 intro x1 H3 J2 h
 refine Zo (Zi (.bool (decide ((x1.2:Int) < (Sl.len p_l:Int)))) (GL.nil (GC.seq (Yd h (fun u4 h=>?_) fun u4 h=>?_))))
 refine GC.skip (GC.seq (GC.block (Zo (Yx h fun p5 h=>?_))))
 obtain ⟨x10,v11,h⟩:=h
 refine Zv (OV.loadT rfl rfl rfl v11) (GL.alloc (cs:=Qj.c Qj.zero) h trivial rfl rfl rfl ?_)
 intro b12 H13 h
 refine GL.storeT (p:=(b12,0)) (vs:=Qj.c x10) h trivial rfl rfl rfl rfl ?_
 intro H14 h
 refine GL.nil (GC.region (Zm (Zm ?_)))
 obtain ⟨x15,v16,h⟩:=h
 refine Zv (OV.loadT rfl rfl rfl v16) (GL.callU (xv:=p_depth) (vs:=[.agg (Qj.c x15).toArray]) h trivial rfl rfl rfl ?_)
 rintro _ H18 ⟨r17,rfl,h⟩
 refine Zv (OV.maxI rfl rfl) (Za (GL.nil_to I3 (GC.region (Zi (.int .i64 (w .i64 (x1.2+1))) (Zm ?_)))))
 exact Yj I3 ((if r17 > x1.1 then r17 else x1.1:Int),(w .i64 (x1.2+1))) h
 refine GC.exit_to I3 (Zo (Zm (Za (GL.nil ?_))))
 exact Y1 I3 ⟨x1.1,rfl,h⟩
def QgU (C:Ctx) (p_f:Qj) (K:Int→Heap→Prop) (H:Heap):Prop:=
 nw (Qj.c p_f) (fun b1 H2=>
 ldT H2 Qg.c ((b1,0).1,(b1,0).2+1) fun x3=>
 Qbj C x3 (fun r5 H6=>
 K r5 H6) H2) H
theorem Qlt (C p_f K H) (h:QgU C p_f K H):Qbu C p_f K H:=by
 refine Ye Tryz.func109 rfl Tryz.ntmps109 [(0,.agg (Qj.c p_f).toArray)] (Zo (GL.box (v:=.agg (Qj.c p_f).toArray) (cs:=Qj.c p_f) h trivial rfl rfl rfl ?_))
 intro b1 H2 h
 refine Za (GL.nil (Zo (Zf ?_)))
 obtain ⟨x3,v4,h⟩:=h
 refine Zv (OV.loadT rfl rfl rfl v4) (Zc h Qh4 ?_)
 rintro _ H6 ⟨r5,rfl,h⟩
 refine Za (GL.nil ?_)
 exact Y1 I3 ⟨r5,rfl,h⟩
def Qdw (C:Ctx) (p_l:Sl) (p_depth:Value) (K:Int→Heap→Prop) (H:Heap):Prop:=
 lp (α:=Int×Int) (0,0) H (fun x1 J2 H3=>
 ift (decide ((x1.2:Int) < (Sl.len p_l:Int)))
 (ixa p_l x1.2 fun p5=>
 ldT H3 Qe.c (p5.1,p5.2+(x1.2:Int).toNat*6) fun x10=>
 nw (Qe.c Qe.zero) (fun b12 H13=>
 stT (b12,0) (Qe.c x10) (fun H14=>
 ldT H14 Qe.c (b12,0) fun x15=>
 callU Tryz.prog C p_depth [.agg (Qe.c x15).toArray] H14 (fun v H18=>∃ (r17:Int),v=.int .i64 r17∧
 J2 ((if r17 > x1.1 then r17 else x1.1:Int),(w .i64 (x1.2+1))) H18)) H13) H3)
 (K x1.1 H3))
theorem Qgt (C p_l p_depth K H) (h:Qdw C p_l p_depth K H):QS C p_l p_depth K H:=by
 refine Ye Tryz.func110 rfl Tryz.ntmps110 [(0,slv p_l),(1,p_depth)] (Zo (Za (GL.nil (Zo (Za (GL.nil (GC.seq (Zo (Zm (Zq (Zm (GL.nil (GC.block (Yp h (fun x1=>[(5,.int .i64 x1.1),(10,.int .i64 x1.2),(1,p_depth),(8,slv p_l),(9,.int .i64 (Sl.len p_l:Int))]) ?_))))))))))))))
 intro x1 H3 J2 h
 refine Zo (Zi (.bool (decide ((x1.2:Int) < (Sl.len p_l:Int)))) (GL.nil (GC.seq (Yd h (fun u4 h=>?_) fun u4 h=>?_))))
 refine GC.skip (GC.seq (GC.block (Zo (Yx h fun p5 h=>?_))))
 obtain ⟨x10,v11,h⟩:=h
 refine Zv (OV.loadT rfl rfl rfl v11) (GL.alloc (cs:=Qe.c Qe.zero) h trivial rfl rfl rfl ?_)
 intro b12 H13 h
 refine GL.storeT (p:=(b12,0)) (vs:=Qe.c x10) h trivial rfl rfl rfl rfl ?_
 intro H14 h
 refine GL.nil (GC.region (Zm (Zm ?_)))
 obtain ⟨x15,v16,h⟩:=h
 refine Zv (OV.loadT rfl rfl rfl v16) (GL.callU (xv:=p_depth) (vs:=[.agg (Qe.c x15).toArray]) h trivial rfl rfl rfl ?_)
 rintro _ H18 ⟨r17,rfl,h⟩
 refine Zv (OV.maxI rfl rfl) (Za (GL.nil_to I3 (GC.region (Zi (.int .i64 (w .i64 (x1.2+1))) (Zm ?_)))))
 exact Yj I3 ((if r17 > x1.1 then r17 else x1.1:Int),(w .i64 (x1.2+1))) h
 refine GC.exit_to I3 (Zo (Zm (Za (GL.nil ?_))))
 exact Y1 I3 ⟨x1.1,rfl,h⟩
def Qk0 (C:Ctx) (p_x:Qe) (K:Int→Heap→Prop) (H:Heap):Prop:=
 nw (Qe.c p_x) (fun b1 H2=>
 ldL H2 ((b1,0).1,(b1,0).2+5) fun x3=>
 Qx C x3 (.func (.func 109) (List.toArray []) (List.toArray []):Value) (fun r5 H6=>
 K r5 H6) H2) H
theorem Qob (C p_x K H) (h:Qk0 C p_x K H):Qdo C p_x K H:=by
 refine Ye Tryz.func111 rfl Tryz.ntmps111 [(0,.agg (Qe.c p_x).toArray)] (Zo (GL.box (v:=.agg (Qe.c p_x).toArray) (cs:=Qe.c p_x) h trivial rfl rfl rfl ?_))
 intro b1 H2 h
 refine Za (GL.nil (Zo (Zf (Yl h fun x3 h=>?_))))
 refine Zc h QcX ?_
 rintro _ H6 ⟨r5,rfl,h⟩
 refine Za (GL.nil ?_)
 exact Y1 I3 ⟨r5,rfl,h⟩
def Qef (C:Ctx) (p_l:Sl) (p_depth:Value) (K:Int→Heap→Prop) (H:Heap):Prop:=
 lp (α:=Int×Int) (0,0) H (fun x1 J2 H3=>
 ift (decide ((x1.2:Int) < (Sl.len p_l:Int)))
 (ixa p_l x1.2 fun p5=>
 ldT H3 Qk.c (p5.1,p5.2+(x1.2:Int).toNat*6) fun x10=>
 nw (Qk.c Qk.zero) (fun b12 H13=>
 stT (b12,0) (Qk.c x10) (fun H14=>
 ldT H14 Qk.c (b12,0) fun x15=>
 callU Tryz.prog C p_depth [.agg (Qk.c x15).toArray] H14 (fun v H18=>∃ (r17:Int),v=.int .i64 r17∧
 J2 ((if r17 > x1.1 then r17 else x1.1:Int),(w .i64 (x1.2+1))) H18)) H13) H3)
 (K x1.1 H3))
theorem QhD (C p_l p_depth K H) (h:Qef C p_l p_depth K H):Q2 C p_l p_depth K H:=by
 refine Ye Tryz.func112 rfl Tryz.ntmps112 [(0,slv p_l),(1,p_depth)] (Zo (Za (GL.nil (Zo (Za (GL.nil (GC.seq (Zo (Zm (Zq (Zm (GL.nil (GC.block (Yp h (fun x1=>[(5,.int .i64 x1.1),(10,.int .i64 x1.2),(1,p_depth),(8,slv p_l),(9,.int .i64 (Sl.len p_l:Int))]) ?_))))))))))))))
 intro x1 H3 J2 h
 refine Zo (Zi (.bool (decide ((x1.2:Int) < (Sl.len p_l:Int)))) (GL.nil (GC.seq (Yd h (fun u4 h=>?_) fun u4 h=>?_))))
 refine GC.skip (GC.seq (GC.block (Zo (Yx h fun p5 h=>?_))))
 obtain ⟨x10,v11,h⟩:=h
 refine Zv (OV.loadT rfl rfl rfl v11) (GL.alloc (cs:=Qk.c Qk.zero) h trivial rfl rfl rfl ?_)
 intro b12 H13 h
 refine GL.storeT (p:=(b12,0)) (vs:=Qk.c x10) h trivial rfl rfl rfl rfl ?_
 intro H14 h
 refine GL.nil (GC.region (Zm (Zm ?_)))
 obtain ⟨x15,v16,h⟩:=h
 refine Zv (OV.loadT rfl rfl rfl v16) (GL.callU (xv:=p_depth) (vs:=[.agg (Qk.c x15).toArray]) h trivial rfl rfl rfl ?_)
 rintro _ H18 ⟨r17,rfl,h⟩
 refine Zv (OV.maxI rfl rfl) (Za (GL.nil_to I3 (GC.region (Zi (.int .i64 (w .i64 (x1.2+1))) (Zm ?_)))))
 exact Yj I3 ((if r17 > x1.1 then r17 else x1.1:Int),(w .i64 (x1.2+1))) h
 refine GC.exit_to I3 (Zo (Zm (Za (GL.nil ?_))))
 exact Y1 I3 ⟨x1.1,rfl,h⟩
def Qk1 (C:Ctx) (p_x:Qk) (K:Int→Heap→Prop) (H:Heap):Prop:=
 nw (Qk.c p_x) (fun b1 H2=>
 dr H2 fun Hs3=>
 ldL Hs3 ((b1,0).1,(b1,0).2+3) fun x5=>
 ldL Hs3 ((b1,0).1,(b1,0).2+5) fun x7=>
 QC C x5 (.func (.func 115) (List.toArray []) (List.toArray []):Value) (fun r10 H11=>
 Heap.le Hs3 H11∧
 Qz C x7 (.func (.func 117) (List.toArray []) (List.toArray []):Value) (fun r13 H14=>
 Heap.le Hs3 H14∧
 K (if r13 > r10 then r13 else r10:Int) H14) H11) H2) H
theorem Qoc (C p_x K H) (h:Qk1 C p_x K H):Qdp C p_x K H:=by
 refine Ye Tryz.func113 rfl Tryz.ntmps113 [(0,.agg (Qk.c p_x).toArray)] (Zo (GL.box (v:=.agg (Qk.c p_x).toArray) (cs:=Qk.c p_x) h trivial rfl rfl rfl ?_))
 intro b1 H2 h
 refine Za (GL.nil (GC.seq ?_))
 obtain ⟨Hs3,hle4,h⟩:=h
 refine GC.any (Hs:=Hs3) (by kernel_rfl) hle4 (Zp 0 rfl Yf ?_)
 obtain ⟨x5,v6,h⟩:=h
 refine Zp 1 rfl (Yo v6) (Zp 3 rfl Yf ?_)
 obtain ⟨x7,v8,h⟩:=h
 refine Zp 4 rfl (Yo v8) (GA.eff 2 rfl (by kernel_rfl) (Zc h Qb5 ?_))
 rintro _ H11 ⟨r10,rfl,h⟩
 obtain ⟨hle9,h⟩:=h
 refine GA.back hle9 (GA.eff 5 rfl (by kernel_rfl) (Zc h Qde ?_))
 rintro _ H14 ⟨r13,rfl,h⟩
 obtain ⟨hle12,h⟩:=h
 refine GA.back hle12 (Zp 6 rfl (OV.maxI rfl rfl) (Zp 7 rfl Ya (GA.done (by kernel_rfl) (GL.nil ?_))))
 exact Y1 I3 ⟨(if r13 > r10 then r13 else r10:Int),rfl,h⟩
def Qee (C:Ctx) (p_l:Sl) (p_depth:Value) (K:Int→Heap→Prop) (H:Heap):Prop:=
 lp (α:=Int×Int) (0,0) H (fun x1 J2 H3=>
 ift (decide ((x1.2:Int) < (Sl.len p_l:Int)))
 (ixa p_l x1.2 fun p5=>
 ldT H3 Qb.c (p5.1,p5.2+(x1.2:Int).toNat*9) fun x10=>
 nw (Qb.c Qb.zero) (fun b12 H13=>
 stT (b12,0) (Qb.c x10) (fun H14=>
 ldT H14 Qb.c (b12,0) fun x15=>
 callU Tryz.prog C p_depth [.agg (Qb.c x15).toArray] H14 (fun v H18=>∃ (r17:Int),v=.int .i64 r17∧
 J2 ((if r17 > x1.1 then r17 else x1.1:Int),(w .i64 (x1.2+1))) H18)) H13) H3)
 (K x1.1 H3))
theorem QhC (C p_l p_depth K H) (h:Qee C p_l p_depth K H):QC C p_l p_depth K H:=by
 refine Ye Tryz.func114 rfl Tryz.ntmps114 [(0,slv p_l),(1,p_depth)] (Zo (Za (GL.nil (Zo (Za (GL.nil (GC.seq (Zo (Zm (Zq (Zm (GL.nil (GC.block (Yp h (fun x1=>[(5,.int .i64 x1.1),(10,.int .i64 x1.2),(1,p_depth),(8,slv p_l),(9,.int .i64 (Sl.len p_l:Int))]) ?_))))))))))))))
 intro x1 H3 J2 h
 refine Zo (Zi (.bool (decide ((x1.2:Int) < (Sl.len p_l:Int)))) (GL.nil (GC.seq (Yd h (fun u4 h=>?_) fun u4 h=>?_))))
 refine GC.skip (GC.seq (GC.block (Zo (Yx h fun p5 h=>?_))))
 obtain ⟨x10,v11,h⟩:=h
 refine Zv (OV.loadT rfl rfl rfl v11) (GL.alloc (cs:=Qb.c Qb.zero) h trivial rfl rfl rfl ?_)
 intro b12 H13 h
 refine GL.storeT (p:=(b12,0)) (vs:=Qb.c x10) h trivial rfl rfl rfl rfl ?_
 intro H14 h
 refine GL.nil (GC.region (Zm (Zm ?_)))
 obtain ⟨x15,v16,h⟩:=h
 refine Zv (OV.loadT rfl rfl rfl v16) (GL.callU (xv:=p_depth) (vs:=[.agg (Qb.c x15).toArray]) h trivial rfl rfl rfl ?_)
 rintro _ H18 ⟨r17,rfl,h⟩
 refine Zv (OV.maxI rfl rfl) (Za (GL.nil_to I3 (GC.region (Zi (.int .i64 (w .i64 (x1.2+1))) (Zm ?_)))))
 exact Yj I3 ((if r17 > x1.1 then r17 else x1.1:Int),(w .i64 (x1.2+1))) h
 refine GC.exit_to I3 (Zo (Zm (Za (GL.nil ?_))))
 exact Y1 I3 ⟨x1.1,rfl,h⟩
def QlW (C:Ctx) (p_e:Qb) (K:Int→Heap→Prop) (H:Heap):Prop:=
 nw (Qb.c p_e) (fun b1 H2=>
 ldL H2 ((b1,0).1,(b1,0).2+8) fun x3=>
 QC C x3 (.func (.func 115) (List.toArray []) (List.toArray []):Value) (fun r5 H6=>
 K (w .i64 (1+r5)) H6) H2) H
theorem Qo0 (C p_e K H) (h:QlW C p_e K H):Qd3 C p_e K H:=by
 refine Ye Tryz.func115 rfl Tryz.ntmps115 [(0,.agg (Qb.c p_e).toArray)] (Zo (GL.box (v:=.agg (Qb.c p_e).toArray) (cs:=Qb.c p_e) h trivial rfl rfl rfl ?_))
 intro b1 H2 h
 refine Za (GL.nil (Zo (Zf (Yl h fun x3 h=>?_))))
 refine Zc h Qb5 ?_
 rintro _ H6 ⟨r5,rfl,h⟩
 refine Zi (.int .i64 (w .i64 (1+r5))) (Za (GL.nil ?_))
 exact Y1 I3 ⟨(w .i64 (1+r5)),rfl,h⟩
def Qdj (C:Ctx) (p_l:Sl) (p_depth:Value) (K:Int→Heap→Prop) (H:Heap):Prop:=
 lp (α:=Int×Int) (0,0) H (fun x1 J2 H3=>
 ift (decide ((x1.2:Int) < (Sl.len p_l:Int)))
 (ixa p_l x1.2 fun p5=>
 ldT H3 Qi.c (p5.1,p5.2+(x1.2:Int).toNat*5) fun x10=>
 nw (Qi.c Qi.zero) (fun b12 H13=>
 stT (b12,0) (Qi.c x10) (fun H14=>
 ldT H14 Qi.c (b12,0) fun x15=>
 callU Tryz.prog C p_depth [.agg (Qi.c x15).toArray] H14 (fun v H18=>∃ (r17:Int),v=.int .i64 r17∧
 J2 ((if r17 > x1.1 then r17 else x1.1:Int),(w .i64 (x1.2+1))) H18)) H13) H3)
 (K x1.1 H3))
theorem Qf3 (C p_l p_depth K H) (h:Qdj C p_l p_depth K H):Qz C p_l p_depth K H:=by
 refine Ye Tryz.func116 rfl Tryz.ntmps116 [(0,slv p_l),(1,p_depth)] (Zo (Za (GL.nil (Zo (Za (GL.nil (GC.seq (Zo (Zm (Zq (Zm (GL.nil (GC.block (Yp h (fun x1=>[(5,.int .i64 x1.1),(10,.int .i64 x1.2),(1,p_depth),(8,slv p_l),(9,.int .i64 (Sl.len p_l:Int))]) ?_))))))))))))))
 intro x1 H3 J2 h
 refine Zo (Zi (.bool (decide ((x1.2:Int) < (Sl.len p_l:Int)))) (GL.nil (GC.seq (Yd h (fun u4 h=>?_) fun u4 h=>?_))))
 refine GC.skip (GC.seq (GC.block (Zo (Yx h fun p5 h=>?_))))
 obtain ⟨x10,v11,h⟩:=h
 refine Zv (OV.loadT rfl rfl rfl v11) (GL.alloc (cs:=Qi.c Qi.zero) h trivial rfl rfl rfl ?_)
 intro b12 H13 h
 refine GL.storeT (p:=(b12,0)) (vs:=Qi.c x10) h trivial rfl rfl rfl rfl ?_
 intro H14 h
 refine GL.nil (GC.region (Zm (Zm ?_)))
 obtain ⟨x15,v16,h⟩:=h
 refine Zv (OV.loadT rfl rfl rfl v16) (GL.callU (xv:=p_depth) (vs:=[.agg (Qi.c x15).toArray]) h trivial rfl rfl rfl ?_)
 rintro _ H18 ⟨r17,rfl,h⟩
 refine Zv (OV.maxI rfl rfl) (Za (GL.nil_to I3 (GC.region (Zi (.int .i64 (w .i64 (x1.2+1))) (Zm ?_)))))
 exact Yj I3 ((if r17 > x1.1 then r17 else x1.1:Int),(w .i64 (x1.2+1))) h
 refine GC.exit_to I3 (Zo (Zm (Za (GL.nil ?_))))
 exact Y1 I3 ⟨x1.1,rfl,h⟩
def QfN (C:Ctx) (p_x:Qi) (K:Int→Heap→Prop) (H:Heap):Prop:=
 nw (Qi.c p_x) (fun b1 H2=>
 ldL H2 ((b1,0).1,(b1,0).2+4) fun x3=>
 QC C x3 (.func (.func 115) (List.toArray []) (List.toArray []):Value) (fun r5 H6=>
 K r5 H6) H2) H
theorem Qkx (C p_x K H) (h:QfN C p_x K H):Qa2 C p_x K H:=by
 refine Ye Tryz.func117 rfl Tryz.ntmps117 [(0,.agg (Qi.c p_x).toArray)] (Zo (GL.box (v:=.agg (Qi.c p_x).toArray) (cs:=Qi.c p_x) h trivial rfl rfl rfl ?_))
 intro b1 H2 h
 refine Za (GL.nil (Zo (Zf (Yl h fun x3 h=>?_))))
 refine Zc h Qb5 ?_
 rintro _ H6 ⟨r5,rfl,h⟩
 refine Za (GL.nil ?_)
 exact Y1 I3 ⟨r5,rfl,h⟩
def QdW (C:Ctx) (p_l:Sl) (p_depth:Value) (K:Int→Heap→Prop) (H:Heap):Prop:=
 lp (α:=Int×Int) (0,0) H (fun x1 J2 H3=>
 ift (decide ((x1.2:Int) < (Sl.len p_l:Int)))
 (ixa p_l x1.2 fun p5=>
 ldT H3 Qn.c (p5.1,p5.2+(x1.2:Int).toNat*4) fun x10=>
 nw (Qn.c Qn.zero) (fun b12 H13=>
 stT (b12,0) (Qn.c x10) (fun H14=>
 ldT H14 Qn.c (b12,0) fun x15=>
 callU Tryz.prog C p_depth [.agg (Qn.c x15).toArray] H14 (fun v H18=>∃ (r17:Int),v=.int .i64 r17∧
 J2 ((if r17 > x1.1 then r17 else x1.1:Int),(w .i64 (x1.2+1))) H18)) H13) H3)
 (K x1.1 H3))
theorem Qg7 (C p_l p_depth K H) (h:QdW C p_l p_depth K H):QW C p_l p_depth K H:=by
 refine Ye Tryz.func118 rfl Tryz.ntmps118 [(0,slv p_l),(1,p_depth)] (Zo (Za (GL.nil (Zo (Za (GL.nil (GC.seq (Zo (Zm (Zq (Zm (GL.nil (GC.block (Yp h (fun x1=>[(5,.int .i64 x1.1),(10,.int .i64 x1.2),(1,p_depth),(8,slv p_l),(9,.int .i64 (Sl.len p_l:Int))]) ?_))))))))))))))
 intro x1 H3 J2 h
 refine Zo (Zi (.bool (decide ((x1.2:Int) < (Sl.len p_l:Int)))) (GL.nil (GC.seq (Yd h (fun u4 h=>?_) fun u4 h=>?_))))
 refine GC.skip (GC.seq (GC.block (Zo (Yx h fun p5 h=>?_))))
 obtain ⟨x10,v11,h⟩:=h
 refine Zv (OV.loadT rfl rfl rfl v11) (GL.alloc (cs:=Qn.c Qn.zero) h trivial rfl rfl rfl ?_)
 intro b12 H13 h
 refine GL.storeT (p:=(b12,0)) (vs:=Qn.c x10) h trivial rfl rfl rfl rfl ?_
 intro H14 h
 refine GL.nil (GC.region (Zm (Zm ?_)))
 obtain ⟨x15,v16,h⟩:=h
 refine Zv (OV.loadT rfl rfl rfl v16) (GL.callU (xv:=p_depth) (vs:=[.agg (Qn.c x15).toArray]) h trivial rfl rfl rfl ?_)
 rintro _ H18 ⟨r17,rfl,h⟩
 refine Zv (OV.maxI rfl rfl) (Za (GL.nil_to I3 (GC.region (Zi (.int .i64 (w .i64 (x1.2+1))) (Zm ?_)))))
 exact Yj I3 ((if r17 > x1.1 then r17 else x1.1:Int),(w .i64 (x1.2+1))) h
 refine GC.exit_to I3 (Zo (Zm (Za (GL.nil ?_))))
 exact Y1 I3 ⟨x1.1,rfl,h⟩
def Qk2 (C:Ctx) (p_x:Qn) (K:Int→Heap→Prop) (H:Heap):Prop:=
 nw (Qn.c p_x) (fun b1 H2=>
 ldL H2 ((b1,0).1,(b1,0).2+3) fun x3=>
 Qz C x3 (.func (.func 117) (List.toArray []) (List.toArray []):Value) (fun r5 H6=>
 K r5 H6) H2) H
theorem Qod (C p_x K H) (h:Qk2 C p_x K H):Qdq C p_x K H:=by
 refine Ye Tryz.func119 rfl Tryz.ntmps119 [(0,.agg (Qn.c p_x).toArray)] (Zo (GL.box (v:=.agg (Qn.c p_x).toArray) (cs:=Qn.c p_x) h trivial rfl rfl rfl ?_))
 intro b1 H2 h
 refine Za (GL.nil (Zo (Zf (Yl h fun x3 h=>?_))))
 refine Zc h Qde ?_
 rintro _ H6 ⟨r5,rfl,h⟩
 refine Za (GL.nil ?_)
 exact Y1 I3 ⟨r5,rfl,h⟩
end
section
set_option maxRecDepth 100000
open Go Go.Proofs
def QmC (C:Ctx) (p_s:Str) (K:Bool→Heap→Prop) (H:Heap):Prop:=
 lp (α:=Int) 0 H (fun x1 J2 H3=>
 ift (decide ((x1:Int) < (List.length p_s:Int)))
 (ixs p_s x1 fun c5=>
 ift (!(((((decide (((c5.toNat:Int):Int) ≥ 97)) && (decide (((c5.toNat:Int):Int)≤122))) || ((decide (((c5.toNat:Int):Int) ≥ 65)) && (decide (((c5.toNat:Int):Int)≤90)))) || ((decide (((c5.toNat:Int):Int) ≥ 48)) && (decide (((c5.toNat:Int):Int)≤57)))) || (((c5.toNat:Int):Int) == 95)))
 (K false H3)
 (J2 (w .i64 (x1+1)) H3))
 (K (decide (((List.length p_s:Int):Int)≤32)) H3))
theorem QpK (C p_s K H) (h:QmC C p_s K H):QiA C p_s K H:=by
 refine Ye Tryz.func120 rfl Tryz.ntmps120 [(0,sv p_s)] (Zo (Za (GL.nil (GC.seq (Zo (Zm (Zr (Zm (GL.nil (GC.block (Yp h (fun x1=>[(7,.int .i64 x1),(0,sv p_s),(6,.int .i64 (List.length p_s:Int))]) ?_)))))))))))
 intro x1 H3 J2 h
 refine Zo (Zi (.bool (decide ((x1:Int) < (List.length p_s:Int)))) (GL.nil (GC.seq (Yd h (fun hc4 h=>?_) fun hc4 h=>?_))))
 refine GC.skip (GC.seq (GC.block (Zo (Zm (Za (GL.nil (Zo (Zm (Zm (Ys h fun c5 h=>?_))))))))))
 refine Za (GL.nil (Zo (Zm (Zi (.bool (decide (((c5.toNat:Int):Int) ≥ 97))) (Zm (GL.cut0 3 [(18,.bool ((decide (((c5.toNat:Int):Int) ≥ 97)) && (decide (((c5.toNat:Int):Int)≤122)))),(0,sv p_s),(4,.int .u8 (c5.toNat:Int)),(6,.int .i64 (List.length p_s:Int)),(7,.int .i64 x1)] ?_ ?_))))))
 rcases Zb (decide (((c5.toNat:Int):Int) ≥ 97)) with hc8 | hc8
 refine Zu hc8 Ym (Zu hc8 (OV.ibin (v:=.bool (decide (((c5.toNat:Int):Int)≤122))) rfl rfl rfl) (Zt hc8 ?_))
 exact GL.jump0 I3 () rfl ⟨(by rw [hc8]; rfl),rfl,rfl,rfl,rfl,trivial⟩
 refine Zk hc8 (Zk hc8 (Zn hc8 ?_))
 exact GL.jump0 I3 () rfl ⟨(by rw [hc8]; rfl),rfl,rfl,rfl,rfl,trivial⟩
 refine Zm (GL.cut0 7 [(26,.bool (((decide (((c5.toNat:Int):Int) ≥ 97)) && (decide (((c5.toNat:Int):Int)≤122))) || ((decide (((c5.toNat:Int):Int) ≥ 65)) && (decide (((c5.toNat:Int):Int)≤90))))),(0,sv p_s),(4,.int .u8 (c5.toNat:Int)),(6,.int .i64 (List.length p_s:Int)),(7,.int .i64 x1)] ?_ ?_)
 rcases Zb ((decide (((c5.toNat:Int):Int) ≥ 97)) && (decide (((c5.toNat:Int):Int)≤122))) with hc9 | hc9
 refine Zk hc9 (Zk hc9 (Zk hc9 (GL.skip ⟨_,rfl,.inr rfl⟩ rfl (GL.skip ⟨_,rfl,.inr rfl⟩ rfl (Zk hc9 (Zt hc9 ?_))))))
 exact GL.jump0 I3 () rfl ⟨(by rw [hc9]; rfl),rfl,rfl,rfl,rfl,trivial⟩
 refine Zu hc9 Ym (Zu hc9 (OV.ibin (v:=.bool (decide (((c5.toNat:Int):Int) ≥ 65))) rfl rfl rfl) (Zu hc9 Ym (GL.cut0 3 [(25,.bool ((decide (((c5.toNat:Int):Int) ≥ 65)) && (decide (((c5.toNat:Int):Int)≤90)))),(0,sv p_s),(4,.int .u8 (c5.toNat:Int)),(6,.int .i64 (List.length p_s:Int)),(7,.int .i64 x1),(19,.bool ((decide (((c5.toNat:Int):Int) ≥ 97)) && (decide (((c5.toNat:Int):Int)≤122))))] ?_ ?_)))
 rcases Zb (decide (((c5.toNat:Int):Int) ≥ 65)) with hc10 | hc10
 refine Zu hc10 Ym (Zu hc10 (OV.ibin (v:=.bool (decide (((c5.toNat:Int):Int)≤90))) rfl rfl rfl) (Zu hc9 (OV.pickT rfl hc10 rfl) ?_))
 exact GL.jump0 I3 () rfl ⟨(by rw [hc10]; rfl),rfl,rfl,rfl,rfl,rfl,trivial⟩
 refine Zk hc10 (Zk hc10 (Zu hc9 (OV.pickF rfl hc10 rfl) ?_))
 exact GL.jump0 I3 () rfl ⟨(by rw [hc10]; rfl),rfl,rfl,rfl,rfl,rfl,trivial⟩
 refine Zn hc9 ?_
 exact GL.jump0 I3 () rfl ⟨(by rw [hc9]; rfl),rfl,rfl,rfl,rfl,trivial⟩
 refine Zm (GL.cut0 7 [(34,.bool ((((decide (((c5.toNat:Int):Int) ≥ 97)) && (decide (((c5.toNat:Int):Int)≤122))) || ((decide (((c5.toNat:Int):Int) ≥ 65)) && (decide (((c5.toNat:Int):Int)≤90)))) || ((decide (((c5.toNat:Int):Int) ≥ 48)) && (decide (((c5.toNat:Int):Int)≤57))))),(0,sv p_s),(4,.int .u8 (c5.toNat:Int)),(6,.int .i64 (List.length p_s:Int)),(7,.int .i64 x1)] ?_ ?_)
 rcases Zb (((decide (((c5.toNat:Int):Int) ≥ 97)) && (decide (((c5.toNat:Int):Int)≤122))) || ((decide (((c5.toNat:Int):Int) ≥ 65)) && (decide (((c5.toNat:Int):Int)≤90)))) with hc11 | hc11
 refine Zk hc11 (Zk hc11 (Zk hc11 (GL.skip ⟨_,rfl,.inr rfl⟩ rfl (GL.skip ⟨_,rfl,.inr rfl⟩ rfl (Zk hc11 (Zt hc11 ?_))))))
 exact GL.jump0 I3 () rfl ⟨(by rw [hc11]; rfl),rfl,rfl,rfl,rfl,trivial⟩
 refine Zu hc11 Ym (Zu hc11 (OV.ibin (v:=.bool (decide (((c5.toNat:Int):Int) ≥ 48))) rfl rfl rfl) (Zu hc11 Ym (GL.cut0 3 [(33,.bool ((decide (((c5.toNat:Int):Int) ≥ 48)) && (decide (((c5.toNat:Int):Int)≤57)))),(0,sv p_s),(4,.int .u8 (c5.toNat:Int)),(6,.int .i64 (List.length p_s:Int)),(7,.int .i64 x1),(27,.bool (((decide (((c5.toNat:Int):Int) ≥ 97)) && (decide (((c5.toNat:Int):Int)≤122))) || ((decide (((c5.toNat:Int):Int) ≥ 65)) && (decide (((c5.toNat:Int):Int)≤90)))))] ?_ ?_)))
 rcases Zb (decide (((c5.toNat:Int):Int) ≥ 48)) with hc12 | hc12
 refine Zu hc12 Ym (Zu hc12 (OV.ibin (v:=.bool (decide (((c5.toNat:Int):Int)≤57))) rfl rfl rfl) (Zu hc11 (OV.pickT rfl hc12 rfl) ?_))
 exact GL.jump0 I3 () rfl ⟨(by rw [hc12]; rfl),rfl,rfl,rfl,rfl,rfl,trivial⟩
 refine Zk hc12 (Zk hc12 (Zu hc11 (OV.pickF rfl hc12 rfl) ?_))
 exact GL.jump0 I3 () rfl ⟨(by rw [hc12]; rfl),rfl,rfl,rfl,rfl,rfl,trivial⟩
 refine Zn hc11 ?_
 exact GL.jump0 I3 () rfl ⟨(by rw [hc11]; rfl),rfl,rfl,rfl,rfl,trivial⟩
 refine Zm (GL.cut0 3 [(38,.bool (((((decide (((c5.toNat:Int):Int) ≥ 97)) && (decide (((c5.toNat:Int):Int)≤122))) || ((decide (((c5.toNat:Int):Int) ≥ 65)) && (decide (((c5.toNat:Int):Int)≤90)))) || ((decide (((c5.toNat:Int):Int) ≥ 48)) && (decide (((c5.toNat:Int):Int)≤57)))) || (((c5.toNat:Int):Int) == 95))),(0,sv p_s),(6,.int .i64 (List.length p_s:Int)),(7,.int .i64 x1)] ?_ ?_)
 rcases Zb ((((decide (((c5.toNat:Int):Int) ≥ 97)) && (decide (((c5.toNat:Int):Int)≤122))) || ((decide (((c5.toNat:Int):Int) ≥ 65)) && (decide (((c5.toNat:Int):Int)≤90)))) || ((decide (((c5.toNat:Int):Int) ≥ 48)) && (decide (((c5.toNat:Int):Int)≤57)))) with hc13 | hc13
 refine Zk hc13 (Zk hc13 (Zt hc13 ?_))
 exact GL.jump0 I3 () rfl ⟨(by rw [hc13]; rfl),rfl,rfl,rfl,trivial⟩
 refine Zu hc13 Ym (Zu hc13 (OV.ibin (v:=.bool (((c5.toNat:Int):Int) == 95)) rfl rfl rfl) (Zn hc13 ?_))
 exact GL.jump0 I3 () rfl ⟨(by rw [hc13]; rfl),rfl,rfl,rfl,trivial⟩
 refine Zv (OV.not rfl) (GL.nil (Yd h (fun hc14 h=>?_) fun hc14 h=>?_))
 refine Zo (Za (GL.nil ?_))
 exact Y1 I3 ⟨false,rfl,h⟩
 refine GC.skip_to I3 (GC.region (Zi (.int .i64 (w .i64 (x1+1))) (Zm ?_)))
 exact Yj I3 (w .i64 (x1+1)) h
 refine GC.exit_to I3 (Zo (Zm (Zr (Zi (.bool (decide (((List.length p_s:Int):Int)≤32))) (Za (GL.nil ?_))))))
 exact Y1 I3 ⟨(decide (((List.length p_s:Int):Int)≤32)),rfl,h⟩
def Qic (C:Ctx) (p_x:Qp) (v0:Nat×Nat) (K:Bool→Heap→Prop) (H:Heap):Prop:=
 nw (Qp.c p_x) (fun b1 H2=>
 ldV H2 v0 fun x3=>
 ldT H2 Qp.c (b1,0) fun x5=>
 callU Tryz.prog C x3 [.agg (Qp.c x5).toArray] H2 (fun v H8=>∃ (r7:Bool),v=.bool r7∧
 K (!r7) H8)) H
theorem QhA (C p_x v0 K H) (h:Qic C p_x v0 K H):Qiy C p_x v0 K H:=by
 refine Ye Tryz.func122 rfl Tryz.ntmps122 [(0,.agg (Qp.c p_x).toArray),(1,pv (some v0))] (Zo (GL.box (v:=.agg (Qp.c p_x).toArray) (cs:=Qp.c p_x) h trivial rfl rfl rfl ?_))
 intro b1 H2 h
 refine Za (GL.nil (Zo (Yl h fun x3 h=>?_)))
 obtain ⟨x5,hr6,h⟩:=h
 refine Zv (OV.loadT rfl rfl rfl hr6) (GL.callU (xv:=x3) (vs:=[.agg (Qp.c x5).toArray]) h trivial rfl rfl rfl ?_)
 rintro _ H8 ⟨r7,rfl,h⟩
 refine Zv (OV.not rfl) (Za (GL.nil ?_))
 exact Y1 I3 ⟨(!r7),rfl,h⟩
def Qau (C:Ctx) (p_s:Sl) (p_f:Value) (K:Bool→Heap→Prop) (H:Heap):Prop:=
 QaV C p_s p_f (fun r1 H2=>
 K (decide ((r1:Int) ≥ 0)) H2) H
theorem QbU (C p_s p_f K H) (h:Qau C p_s p_f K H):QaD C p_s p_f K H:=by
 refine Ye Tryz.func123 rfl Tryz.ntmps123 [(0,slv p_s),(1,p_f)] (Zo (Za (GL.nil (Zo (Zm (Zm (Zc h Qcr ?_)))))))
 rintro _ H2 ⟨r1,rfl,h⟩
 refine Zi (.bool (decide ((r1:Int) ≥ 0))) (Za (GL.nil ?_))
 exact Y1 I3 ⟨(decide ((r1:Int) ≥ 0)),rfl,h⟩
def Qhs (C:Ctx) (p_x:Qd) (v0:Nat×Nat) (K:Bool→Heap→Prop) (H:Heap):Prop:=
 nw (Qd.c p_x) (fun b1 H2=>
 ldV H2 v0 fun x3=>
 ldT H2 Qd.c (b1,0) fun x5=>
 callU Tryz.prog C x3 [.agg (Qd.c x5).toArray] H2 (fun v H8=>∃ (r7:Bool),v=.bool r7∧
 K (!r7) H8)) H
theorem Qg5 (C p_x v0 K H) (h:Qhs C p_x v0 K H):QhN C p_x v0 K H:=by
 refine Ye Tryz.func124 rfl Tryz.ntmps124 [(0,.agg (Qd.c p_x).toArray),(1,pv (some v0))] (Zo (GL.box (v:=.agg (Qd.c p_x).toArray) (cs:=Qd.c p_x) h trivial rfl rfl rfl ?_))
 intro b1 H2 h
 refine Za (GL.nil (Zo (Yl h fun x3 h=>?_)))
 obtain ⟨x5,hr6,h⟩:=h
 refine Zv (OV.loadT rfl rfl rfl hr6) (GL.callU (xv:=x3) (vs:=[.agg (Qd.c x5).toArray]) h trivial rfl rfl rfl ?_)
 rintro _ H8 ⟨r7,rfl,h⟩
 refine Zv (OV.not rfl) (Za (GL.nil ?_))
 exact Y1 I3 ⟨(!r7),rfl,h⟩
def QgT (C:Ctx) (p_l:Sl) (p_is:Value) (K:Bool→Heap→Prop) (H:Heap):Prop:=
 (Value.cells p_is = #[p_is])∧nw ([p_is]) (fun b1 H2=>
 Qbw C p_l (.func (.func 190) (List.toArray []) (List.toArray [pv (some (b1,0))]):Value) (fun r4 H5=>
 K (!r4) H5) H2) H
theorem Qls (C p_l p_is K H) (h:QgT C p_l p_is K H):QaE C p_l p_is K H:=by
 refine Ye Tryz.func125 rfl Tryz.ntmps125 [(0,slv p_l),(1,p_is)] (Zo ?_)
 obtain ⟨u3,h⟩:=h
 refine GL.box (v:=p_is) (cs:=[p_is]) h trivial rfl rfl u3 ?_
 intro b1 H2 h
 refine Za (GL.nil (Zo (Zm (Zv (OV.makeFunc (vs:=[]) (us:=[pv (some (b1,0))]) rfl rfl) (Zc h QdO ?_)))))
 rintro _ H5 ⟨r4,rfl,h⟩
 refine Zv (OV.not rfl) (Za (GL.nil ?_))
 exact Y1 I3 ⟨(!r4),rfl,h⟩
def QlX (C:Ctx) (p_s:Str) (K:Bool→Heap→Prop) (H:Heap):Prop:=
 Qcf C p_s [39] (fun r1 H2=>
 jn (α:=Bool) (fun b3 H15=>
 K b3 H15)
 (fun J4=>ift r1
 (slS p_s 1 (List.length p_s:Int) fun t7=>
 Qa3 C t7 (fun r13 H14=>
 J4 r13 H14) H2)
 (J4 false H2))) H
theorem Qo1 (C p_s K H) (h:QlX C p_s K H):QjH C p_s K H:=by
 refine Ye Tryz.func126 rfl Tryz.ntmps126 [(0,sv p_s)] (Zo (Za (GL.nil (Zo (Zm (Zc h QfE ?_))))))
 rintro _ H2 ⟨r1,rfl,h⟩
 refine Zm ?_
 obtain ⟨J4,h,hR5⟩:=h
 refine GL.cut (α:=Bool) 4 J4 (fun b3=>[(9,.bool b3)]) ?_ ?_
 rcases h.em with ⟨u6,h⟩ | ⟨u6,h⟩
 refine Zu u6 Ym ?_
 obtain ⟨h8,h9,h10,t7,h11,h⟩:=h
 refine Zu u6 (OV.sliceStr (s:=p_s) h8 h9 h10 h11 rfl rfl rfl rfl rfl rfl) (GL.call h (Yt u6) rfl Qbf (vs:=[sv t7]) rfl ?_)
 rintro _ H14 ⟨r13,rfl,h⟩
 refine Zt u6 ?_
 exact Yj I3 r13 h
 refine Zk u6 (Zk u6 (Zk u6 (Zn u6 ?_)))
 exact Yj I3 false h
 intro b3 H15 h
 replace h:=hR5 b3 H15 h
 refine Za (GL.nil ?_)
 exact Y1 I3 ⟨b3,rfl,h⟩
def QeI (C:Ctx) (p_l:Sl) (p_is:Value) (K:Bool→Heap→Prop) (H:Heap):Prop:=
 (Value.cells p_is = #[p_is])∧nw ([p_is]) (fun b1 H2=>
 QD C p_l (.func (.func 191) (List.toArray []) (List.toArray [pv (some (b1,0))]):Value) (fun r4 H5=>
 K (!r4) H5) H2) H
theorem Qil (C p_l p_is K H) (h:QeI C p_l p_is K H):Qab C p_l p_is K H:=by
 refine Ye Tryz.func127 rfl Tryz.ntmps127 [(0,slv p_l),(1,p_is)] (Zo ?_)
 obtain ⟨u3,h⟩:=h
 refine GL.box (v:=p_is) (cs:=[p_is]) h trivial rfl rfl u3 ?_
 intro b1 H2 h
 refine Za (GL.nil (Zo (Zm (Zv (OV.makeFunc (vs:=[]) (us:=[pv (some (b1,0))]) rfl rfl) (Zc h Qas ?_)))))
 rintro _ H5 ⟨r4,rfl,h⟩
 refine Zv (OV.not rfl) (Za (GL.nil ?_))
 exact Y1 I3 ⟨(!r4),rfl,h⟩
def Qie (C:Ctx) (p_c:Ql) (K:Bool→Heap→Prop) (H:Heap):Prop:=
 nw (Ql.c p_c) (fun b1 H2=>
 ldS H2 ((b1,0).1,(b1,0).2+0) fun x3=>
 Qa3 C x3 (fun r5 H6=>
 jn (α:=Bool) (fun b7 H15=>
 K b7 H15)
 (fun J8=>ift r5
 (ldL H6 ((b1,0).1,(b1,0).2+1) fun x11=>
 QbH C x11 false (fun r13 H14=>
 J8 r13 H14) H6)
 (J8 false H6))) H2) H
theorem Qmb (C p_c K H) (h:Qie C p_c K H):QbC C p_c K H:=by
 refine Ye Tryz.func128 rfl Tryz.ntmps128 [(0,.agg (Ql.c p_c).toArray)] (Zo (GL.box (v:=.agg (Ql.c p_c).toArray) (cs:=Ql.c p_c) h trivial rfl rfl rfl ?_))
 intro b1 H2 h
 refine Za (GL.nil (Zo (Zf (Yl h fun x3 h=>?_))))
 refine Zc h Qbf ?_
 rintro _ H6 ⟨r5,rfl,h⟩
 refine Zm ?_
 obtain ⟨J8,h,hR9⟩:=h
 refine GL.cut (α:=Bool) 4 J8 (fun b7=>[(10,.bool b7)]) ?_ ?_
 rcases h.em with ⟨u10,h⟩ | ⟨u10,h⟩
 refine Zu u10 Yf ?_
 obtain ⟨x11,v12,h⟩:=h
 refine Zu u10 (Yo v12) (GL.call h (Yt u10) rfl QkO (vs:=[slv x11,.bool false]) rfl ?_)
 rintro _ H14 ⟨r13,rfl,h⟩
 refine Zt u10 ?_
 exact Yj I3 r13 h
 refine Zk u10 (Zk u10 (Zk u10 (Zn u10 ?_)))
 exact Yj I3 false h
 intro b7 H15 h
 replace h:=hR9 b7 H15 h
 refine Za (GL.nil ?_)
 exact Y1 I3 ⟨b7,rfl,h⟩
def QaH (C:Ctx) (p_s:Sl) (p_f:Value) (K:Bool→Heap→Prop) (H:Heap):Prop:=
 Qa8 C p_s p_f (fun r1 H2=>
 K (decide ((r1:Int) ≥ 0)) H2) H
theorem Qb6 (C p_s p_f K H) (h:QaH C p_s p_f K H):QaJ C p_s p_f K H:=by
 refine Ye Tryz.func129 rfl Tryz.ntmps129 [(0,slv p_s),(1,p_f)] (Zo (Za (GL.nil (Zo (Zm (Zm (Zc h QcT ?_)))))))
 rintro _ H2 ⟨r1,rfl,h⟩
 refine Zi (.bool (decide ((r1:Int) ≥ 0))) (Za (GL.nil ?_))
 exact Y1 I3 ⟨(decide ((r1:Int) ≥ 0)),rfl,h⟩
def Qid (C:Ctx) (p_x:Qe) (v0:Nat×Nat) (K:Bool→Heap→Prop) (H:Heap):Prop:=
 nw (Qe.c p_x) (fun b1 H2=>
 ldV H2 v0 fun x3=>
 ldT H2 Qe.c (b1,0) fun x5=>
 callU Tryz.prog C x3 [.agg (Qe.c x5).toArray] H2 (fun v H8=>∃ (r7:Bool),v=.bool r7∧
 K (!r7) H8)) H
theorem QhB (C p_x v0 K H) (h:Qid C p_x v0 K H):Qiz C p_x v0 K H:=by
 refine Ye Tryz.func130 rfl Tryz.ntmps130 [(0,.agg (Qe.c p_x).toArray),(1,pv (some v0))] (Zo (GL.box (v:=.agg (Qe.c p_x).toArray) (cs:=Qe.c p_x) h trivial rfl rfl rfl ?_))
 intro b1 H2 h
 refine Za (GL.nil (Zo (Yl h fun x3 h=>?_)))
 obtain ⟨x5,hr6,h⟩:=h
 refine Zv (OV.loadT rfl rfl rfl hr6) (GL.callU (xv:=x3) (vs:=[.agg (Qe.c x5).toArray]) h trivial rfl rfl rfl ?_)
 rintro _ H8 ⟨r7,rfl,h⟩
 refine Zv (OV.not rfl) (Za (GL.nil ?_))
 exact Y1 I3 ⟨(!r7),rfl,h⟩
def Qed (C:Ctx) (p_l:Sl) (p_is:Value) (K:Bool→Heap→Prop) (H:Heap):Prop:=
 (Value.cells p_is = #[p_is])∧nw ([p_is]) (fun b1 H2=>
 QB C p_l (.func (.func 193) (List.toArray []) (List.toArray [pv (some (b1,0))]):Value) (fun r4 H5=>
 K (!r4) H5) H2) H
theorem Qhz (C p_l p_is K H) (h:Qed C p_l p_is K H):Q0 C p_l p_is K H:=by
 refine Ye Tryz.func131 rfl Tryz.ntmps131 [(0,slv p_l),(1,p_is)] (Zo ?_)
 obtain ⟨u3,h⟩:=h
 refine GL.box (v:=p_is) (cs:=[p_is]) h trivial rfl rfl u3 ?_
 intro b1 H2 h
 refine Za (GL.nil (Zo (Zm (Zv (OV.makeFunc (vs:=[]) (us:=[pv (some (b1,0))]) rfl rfl) (Zc h Qap ?_)))))
 rintro _ H5 ⟨r4,rfl,h⟩
 refine Zv (OV.not rfl) (Za (GL.nil ?_))
 exact Y1 I3 ⟨(!r4),rfl,h⟩
def QiZ (C:Ctx) (p_f:Qj) (v0:Nat×Nat) (K:Bool→Heap→Prop) (H:Heap):Prop:=
 nw (Qj.c p_f) (fun b1 H2=>
 ldS H2 ((b1,0).1,(b1,0).2+0) fun x3=>
 Qa3 C x3 (fun r5 H6=>
 jn (α:=Bool) (fun b7 H20=>
 jn (α:=Bool) (fun b21 H29=>
 K b21 H29)
 (fun J22=>ift b7
 (ldT H20 Qg.c ((b1,0).1,(b1,0).2+1) fun x25=>
 Qdb C x25 (fun r27 H28=>
 J22 r27 H28) H20)
 (J22 false H20)))
 (fun J8=>ift r5
 (J8 true H6)
 (ldB H6 v0 fun x11=>
 jn (α:=Bool) (fun b13 H19=>
 J8 b13 H19)
 (fun J14=>ift (!x11)
 (ldS H6 ((b1,0).1,(b1,0).2+0) fun x17=>
 J14 (x17 == ([]:Str)) H6)
 (J14 false H6))))) H2) H
theorem QmL (C p_f v0 K H) (h:QiZ C p_f v0 K H):Qb2 C p_f v0 K H:=by
 refine Ye Tryz.func132 rfl Tryz.ntmps132 [(0,.agg (Qj.c p_f).toArray),(1,pv (some v0))] (Zo (GL.box (v:=.agg (Qj.c p_f).toArray) (cs:=Qj.c p_f) h trivial rfl rfl rfl ?_))
 intro b1 H2 h
 refine Za (GL.nil (Zo (Zf (Yl h fun x3 h=>?_))))
 refine Zc h Qbf ?_
 rintro _ H6 ⟨r5,rfl,h⟩
 refine Zm ?_
 obtain ⟨J8,h,hR9⟩:=h
 refine GL.cut (α:=Bool) 8 J8 (fun b7=>[(15,.bool b7),(2,pv (some (b1,0)))]) ?_ ?_
 rcases h.em with ⟨u10,h⟩ | ⟨u10,h⟩
 refine Zk u10 (Zk u10 (Zk u10 (GL.skip ⟨_,rfl,.inr rfl⟩ rfl (GL.skip ⟨_,rfl,.inr rfl⟩ rfl (GL.skip ⟨_,rfl,.inr rfl⟩ rfl (Zk u10 (Zt u10 ?_)))))))
 exact Yj I3 true h
 obtain ⟨x11,hr12,h⟩:=h
 refine Zu u10 (Yo hr12) (Zu u10 (OV.not rfl) (Zu u10 Ym ?_))
 obtain ⟨J14,h,hR15⟩:=h
 refine GL.cut (α:=Bool) 4 J14 (fun b13=>[(14,.bool b13),(2,pv (some (b1,0))),(7,.bool r5)]) ?_ ?_
 rcases h.em with ⟨u16,h⟩ | ⟨u16,h⟩
 refine Zu u16 Yf ?_
 obtain ⟨x17,hr18,h⟩:=h
 refine Zu u16 (Yo hr18) (Zu u16 (OV.sbin (a:=x17) (b:=([]:Str)) (v:=.bool (x17 == ([]:Str))) rfl rfl rfl) (Zu u10 (OV.pickT rfl u16 rfl) ?_))
 exact Yj I3 (x17 == ([]:Str)) h
 refine Zk u16 (Zk u16 (Zk u16 (Zu u10 (OV.pickF rfl u16 rfl) ?_)))
 exact Yj I3 false h
 intro b13 H19 h
 replace h:=hR15 b13 H19 h
 refine Zn u10 ?_
 exact Yj I3 b13 h
 intro b7 H20 h
 replace h:=hR9 b7 H20 h
 refine Zm ?_
 obtain ⟨J22,h,hR23⟩:=h
 refine GL.cut (α:=Bool) 4 J22 (fun b21=>[(20,.bool b21)]) ?_ ?_
 rcases h.em with ⟨u24,h⟩ | ⟨u24,h⟩
 refine Zu u24 Yf ?_
 obtain ⟨x25,hr26,h⟩:=h
 refine Zu u24 (OV.loadT rfl rfl rfl hr26) (GL.call h (Yt u24) rfl QlL (vs:=[.agg (Qg.c x25).toArray]) rfl ?_)
 rintro _ H28 ⟨r27,rfl,h⟩
 refine Zt u24 ?_
 exact Yj I3 r27 h
 refine Zk u24 (Zk u24 (Zk u24 (Zn u24 ?_)))
 exact Yj I3 false h
 intro b21 H29 h
 replace h:=hR23 b21 H29 h
 refine Za (GL.nil ?_)
 exact Y1 I3 ⟨b21,rfl,h⟩
def QlY (C:Ctx) (p_t:Qg) (K:Bool→Heap→Prop) (H:Heap):Prop:=
 nw (Qg.c p_t) (fun b1 H2=>
 ldL H2 ((b1,0).1,(b1,0).2+1) fun x3=>
 ldS H2 ((b1,0).1,(b1,0).2+0) fun x5=>
 jn (α:=Bool) (fun x8 H9=>
 ift x8
 (K (((Sl.len x3:Int):Int) == 0) H9)
 (ift (x5 == ([116,117,112,108,101]:Str))
 (jn (α:=Bool) (fun b17 H25=>
 K b17 H25)
 (fun J18=>ift ((((Sl.len x3:Int):Int) != 1) && (decide (((Sl.len x3:Int):Int)≤16)))
 (ldL H9 ((b1,0).1,(b1,0).2+1) fun x21=>
 Q1 C x21 (.func (.func 133) (List.toArray []) (List.toArray []):Value) (fun r23 H24=>
 J18 r23 H24) H9)
 (J18 false H9)))
 (ldS H9 ((b1,0).1,(b1,0).2+0) fun x26=>
 QjH C x26 (fun r28 H29=>
 jn (α:=Bool) (fun b31 H49=>
 K b31 H49)
 (fun J32=>ift (r28 && (((Sl.len x3:Int):Int) == 0))
 (J32 true H29)
 (ldS H29 ((b1,0).1,(b1,0).2+0) fun x35=>
 Qe4 C x35 (fun r37 H38=>
 jn (α:=Bool) (fun b40 H48=>
 J32 b40 H48)
 (fun J41=>ift (r37 && (decide (((Sl.len x3:Int):Int)≤8)))
 (ldL H38 ((b1,0).1,(b1,0).2+1) fun x44=>
 Q1 C x44 (.func (.func 133) (List.toArray []) (List.toArray []):Value) (fun r46 H47=>
 J41 r46 H47) H38)
 (J41 false H38))) H29))) H9)))
 (fun J7=>ift (x5 == ([98,111,111,108]:Str))
 (J7 (x5 == ([98,111,111,108]:Str)) H2)
 (ift (x5 == ([105,110,116]:Str))
 (J7 (x5 == ([105,110,116]:Str)) H2)
 (ift (x5 == ([98,105,103]:Str))
 (J7 (x5 == ([98,105,103]:Str)) H2)
 (J7 (x5 == ([116,101,120,116]:Str)) H2))))) H
theorem Qo2 (C p_t K H) (h:QlY C p_t K H):Qdb C p_t K H:=by
 refine Ye Tryz.func133 rfl Tryz.ntmps133 [(0,.agg (Qg.c p_t).toArray)] (Zo (GL.box (v:=.agg (Qg.c p_t).toArray) (cs:=Qg.c p_t) h trivial rfl rfl rfl ?_))
 intro b1 H2 h
 refine Za (GL.nil (Zo (Zf (Yl h fun x3 h=>?_))))
 refine Zq (Za (GL.nil (GC.seq (Zo (Zf (Yl h fun x5 h=>?_))))))
 refine GL.nil (GC.block ?_)
 obtain ⟨J7,h,hR10⟩:=h
 refine GC.join (α:=Bool) J7 (fun x8=>[(9,.bool x8),(1,pv (some (b1,0))),(3,.int .i64 (Sl.len x3:Int)),(8,sv x5)]) ?_ ?_
 refine Zo (Zv (OV.sbin (a:=x5) (b:=([98,111,111,108]:Str)) (v:=.bool (x5 == ([98,111,111,108]:Str))) rfl rfl rfl) (Za (GL.nil (Yd h (fun u11 h=>?_) fun u11 h=>?_))))
 exact Yk I3 (x5 == ([98,111,111,108]:Str)) h
 refine Zo (Zv (OV.sbin (a:=x5) (b:=([105,110,116]:Str)) (v:=.bool (x5 == ([105,110,116]:Str))) rfl rfl rfl) (Za (GL.nil (Yd h (fun u12 h=>?_) fun u12 h=>?_))))
 exact Yk I3 (x5 == ([105,110,116]:Str)) h
 refine Zo (Zv (OV.sbin (a:=x5) (b:=([98,105,103]:Str)) (v:=.bool (x5 == ([98,105,103]:Str))) rfl rfl rfl) (Za (GL.nil (Yd h (fun u13 h=>?_) fun u13 h=>?_))))
 exact Yk I3 (x5 == ([98,105,103]:Str)) h
 refine GC.region (Zv (OV.sbin (a:=x5) (b:=([116,101,120,116]:Str)) (v:=.bool (x5 == ([116,101,120,116]:Str))) rfl rfl rfl) (Za ?_))
 exact Yj I3 (x5 == ([116,101,120,116]:Str)) h
 intro x8 H9 h
 replace h:=hR10 x8 H9 h
 refine Yd h (fun u14 h=>?_) fun u14 h=>?_
 refine Zo (Zm (Zi (.bool (((Sl.len x3:Int):Int) == 0)) (Za (GL.nil ?_))))
 exact Y1 I3 ⟨(((Sl.len x3:Int):Int) == 0),rfl,h⟩
 refine Zo (Zv (OV.sbin (a:=x5) (b:=([116,117,112,108,101]:Str)) (v:=.bool (x5 == ([116,117,112,108,101]:Str))) rfl rfl rfl) (Za (GL.nil (Yd h (fun u15 h=>?_) fun u15 h=>?_))))
 refine Zo (Zm (Zi (.bool (((Sl.len x3:Int):Int) != 1)) (Zm (GL.cut0 3 [(23,.bool ((((Sl.len x3:Int):Int) != 1) && (decide (((Sl.len x3:Int):Int)≤16)))),(1,pv (some (b1,0)))] ?_ ?_))))
 rcases Zb (((Sl.len x3:Int):Int) != 1) with u16 | u16
 refine Zu u16 Ym (Zu u16 (OV.ibin (v:=.bool (decide (((Sl.len x3:Int):Int)≤16))) rfl rfl rfl) (Zt u16 ?_))
 exact GL.jump0 I3 () rfl ⟨(by rw [u16]; rfl),rfl,trivial⟩
 refine Zk u16 (Zk u16 (Zn u16 ?_))
 exact GL.jump0 I3 () rfl ⟨(by rw [u16]; rfl),rfl,trivial⟩
 refine Zm ?_
 obtain ⟨J18,h,hR19⟩:=h
 refine GL.cut (α:=Bool) 4 J18 (fun b17=>[(28,.bool b17)]) ?_ ?_
 rcases h.em with ⟨u20,h⟩ | ⟨u20,h⟩
 refine Zu u20 Yf ?_
 obtain ⟨x21,v22,h⟩:=h
 refine Zu u20 (Yo v22) (GL.call h (Yt u20) rfl QfG (vs:=[slv x21,.func (.func 133) (List.toArray []) (List.toArray [])]) rfl ?_)
 rintro _ H24 ⟨r23,rfl,h⟩
 refine Zt u20 ?_
 exact Yj I3 r23 h
 refine Zk u20 (Zk u20 (Zk u20 (Zn u20 ?_)))
 exact Yj I3 false h
 intro b17 H25 h
 replace h:=hR19 b17 H25 h
 refine Za (GL.nil ?_)
 exact Y1 I3 ⟨b17,rfl,h⟩
 refine GC.skip_to I3 (Zo (Zf ?_))
 refine Yl h fun x26 h=>?_
 refine Zc h QlK ?_
 rintro _ H29 ⟨r28,rfl,h⟩
 refine Zm (GL.cut0 3 [(35,.bool (r28 && (((Sl.len x3:Int):Int) == 0))),(1,pv (some (b1,0))),(3,.int .i64 (Sl.len x3:Int))] ?_ ?_)
 rcases Bool.eq_false_or_eq_true r28 with u30 | u30
 refine Zu u30 Ym (Zu u30 (OV.ibin (v:=.bool (((Sl.len x3:Int):Int) == 0)) rfl rfl rfl) (Zt u30 ?_))
 exact GL.jump0 I3 () rfl ⟨(by rw [u30]; rfl),rfl,rfl,trivial⟩
 refine Zk u30 (Zk u30 (Zn u30 ?_))
 exact GL.jump0 I3 () rfl ⟨(by rw [u30]; rfl),rfl,rfl,trivial⟩
 refine Zm ?_
 obtain ⟨J32,h,hR33⟩:=h
 refine GL.cut (α:=Bool) 13 J32 (fun b31=>[(49,.bool b31)]) ?_ ?_
 rcases h.em with ⟨u34,h⟩ | ⟨u34,h⟩
 refine Zk u34 (Zk u34 (Zk u34 (Zk u34 (GL.skip ⟨_,rfl,.inr rfl⟩ rfl (GL.skip ⟨_,rfl,.inr rfl⟩ rfl (Zk u34 (Zk u34 (GL.skip ⟨_,rfl,.inr rfl⟩ rfl (GL.skip ⟨_,rfl,.inr rfl⟩ rfl (GL.skip ⟨_,rfl,.inr rfl⟩ rfl (Zk u34 (Zt u34 ?_))))))))))))
 exact Yj I3 true h
 refine Zu u34 Yf ?_
 obtain ⟨x35,v36,h⟩:=h
 refine Zu u34 (Yo v36) (GL.call h (Yt u34) rfl QgL (vs:=[sv x35]) rfl ?_)
 rintro _ H38 ⟨r37,rfl,h⟩
 refine Zu u34 Ym (GL.cut0 3 [(43,.bool (r37 && (decide (((Sl.len x3:Int):Int)≤8)))),(1,pv (some (b1,0))),(36,.bool (r28 && (((Sl.len x3:Int):Int) == 0)))] ?_ ?_)
 rcases Bool.eq_false_or_eq_true r37 with u39 | u39
 refine Zu u39 Ym (Zu u39 (OV.ibin (v:=.bool (decide (((Sl.len x3:Int):Int)≤8))) rfl rfl rfl) (Zu u34 (OV.pickT rfl u39 rfl) ?_))
 exact GL.jump0 I3 () rfl ⟨(by rw [u39]; rfl),rfl,rfl,trivial⟩
 refine Zk u39 (Zk u39 (Zu u34 (OV.pickF rfl u39 rfl) ?_))
 exact GL.jump0 I3 () rfl ⟨(by rw [u39]; rfl),rfl,rfl,trivial⟩
 refine Zu u34 Ym ?_
 obtain ⟨J41,h,hR42⟩:=h
 refine GL.cut (α:=Bool) 4 J41 (fun b40=>[(48,.bool b40),(36,.bool (r28 && (((Sl.len x3:Int):Int) == 0)))]) ?_ ?_
 rcases h.em with ⟨u43,h⟩ | ⟨u43,h⟩
 refine Zu u43 Yf ?_
 obtain ⟨x44,v45,h⟩:=h
 refine Zu u43 (Yo v45) (GL.call h (Yt u43) rfl QfG (vs:=[slv x44,.func (.func 133) (List.toArray []) (List.toArray [])]) rfl ?_)
 rintro _ H47 ⟨r46,rfl,h⟩
 refine Zu u34 (OV.pickT rfl u43 rfl) ?_
 exact Yj I3 r46 h
 refine Zk u43 (Zk u43 (Zk u43 (Zu u34 (OV.pickF rfl u43 rfl) ?_)))
 exact Yj I3 false h
 intro b40 H48 h
 replace h:=hR42 b40 H48 h
 refine Zn u34 ?_
 exact Yj I3 b40 h
 intro b31 H49 h
 replace h:=hR33 b31 H49 h
 refine Za (GL.nil ?_)
 exact Y1 I3 ⟨b31,rfl,h⟩
def Qbb (C:Ctx) (p_s:Sl) (p_f:Value) (K:Bool→Heap→Prop) (H:Heap):Prop:=
 Qbr C p_s p_f (fun r1 H2=>
 K (decide ((r1:Int) ≥ 0)) H2) H
theorem Qc3 (C p_s p_f K H) (h:Qbb C p_s p_f K H):Qbd C p_s p_f K H:=by
 refine Ye Tryz.func134 rfl Tryz.ntmps134 [(0,slv p_s),(1,p_f)] (Zo (Za (GL.nil (Zo (Zm (Zm (Zc h QdF ?_)))))))
 rintro _ H2 ⟨r1,rfl,h⟩
 refine Zi (.bool (decide ((r1:Int) ≥ 0))) (Za (GL.nil ?_))
 exact Y1 I3 ⟨(decide ((r1:Int) ≥ 0)),rfl,h⟩
def Qjr (C:Ctx) (p_x:Qk) (v0:Nat×Nat) (K:Bool→Heap→Prop) (H:Heap):Prop:=
 nw (Qk.c p_x) (fun b1 H2=>
 ldV H2 v0 fun x3=>
 ldT H2 Qk.c (b1,0) fun x5=>
 callU Tryz.prog C x3 [.agg (Qk.c x5).toArray] H2 (fun v H8=>∃ (r7:Bool),v=.bool r7∧
 K (!r7) H8)) H
theorem Qja (C p_x v0 K H) (h:Qjr C p_x v0 K H):QjE C p_x v0 K H:=by
 refine Ye Tryz.func135 rfl Tryz.ntmps135 [(0,.agg (Qk.c p_x).toArray),(1,pv (some v0))] (Zo (GL.box (v:=.agg (Qk.c p_x).toArray) (cs:=Qk.c p_x) h trivial rfl rfl rfl ?_))
 intro b1 H2 h
 refine Za (GL.nil (Zo (Yl h fun x3 h=>?_)))
 obtain ⟨x5,hr6,h⟩:=h
 refine Zv (OV.loadT rfl rfl rfl hr6) (GL.callU (xv:=x3) (vs:=[.agg (Qk.c x5).toArray]) h trivial rfl rfl rfl ?_)
 rintro _ H8 ⟨r7,rfl,h⟩
 refine Zv (OV.not rfl) (Za (GL.nil ?_))
 exact Y1 I3 ⟨(!r7),rfl,h⟩
def QmA (C:Ctx) (p_s:Str) (K:Bool→Heap→Prop) (H:Heap):Prop:=
 Qev C p_s [46] (fun r1 r2 r3 H4=>
 Qa3 C r1 (fun r5 H6=>
 jn (α:=Bool) (fun b7 H18=>
 K b7 H18)
 (fun J8=>ift r5
 (jn (α:=Bool) (fun b11 H17=>
 J8 b11 H17)
 (fun J12=>ift (!r3)
 (J12 true H6)
 (Qa3 C r2 (fun r15 H16=>
 J12 r15 H16) H6)))
 (J8 false H6))) H4) H
theorem QpI (C p_s K H) (h:QmA C p_s K H):Qe4 C p_s K H:=by
 refine Ye Tryz.func136 rfl Tryz.ntmps136 [(0,sv p_s)] (Zo (Za (GL.nil (Zo (Zm (Zc h Qhi ?_))))))
 rintro _ H4 ⟨r1,r2,r3,rfl,h⟩
 refine Zm (Yv (sv r1) rfl rfl (Yv (sv r2) rfl rfl (Yv (.bool r3) rfl rfl (Za (Za (Za (GL.nil (Zo (Zm (Zc h Qbf ?_))))))))))
 rintro _ H6 ⟨r5,rfl,h⟩
 refine Zm ?_
 obtain ⟨J8,h,hR9⟩:=h
 refine GL.cut (α:=Bool) 7 J8 (fun b7=>[(21,.bool b7)]) ?_ ?_
 rcases h.em with ⟨u10,h⟩ | ⟨u10,h⟩
 refine Zu u10 Ym (Zu u10 (OV.not rfl) (Zu u10 Ym ?_))
 obtain ⟨J12,h,hR13⟩:=h
 refine GL.cut (α:=Bool) 3 J12 (fun b11=>[(20,.bool b11),(14,.bool r5)]) ?_ ?_
 rcases h.em with ⟨u14,h⟩ | ⟨u14,h⟩
 refine Zk u14 (Zk u14 (Zu u10 (OV.pickT rfl u14 rfl) ?_))
 exact Yj I3 true h
 refine Zu u14 Ym (GL.call h (Yt u14) rfl Qbf (vs:=[sv r2]) rfl ?_)
 rintro _ H16 ⟨r15,rfl,h⟩
 refine Zu u10 (OV.pickF rfl u14 rfl) ?_
 exact Yj I3 r15 h
 intro b11 H17 h
 replace h:=hR13 b11 H17 h
 refine Zt u10 ?_
 exact Yj I3 b11 h
 refine Zk u10 (Zk u10 (Zk u10 (GL.skip ⟨_,rfl,.inr rfl⟩ rfl (GL.skip ⟨_,rfl,.inr rfl⟩ rfl (Zk u10 (Zn u10 ?_))))))
 exact Yj I3 false h
 intro b7 H18 h
 replace h:=hR9 b7 H18 h
 refine Za (GL.nil ?_)
 exact Y1 I3 ⟨b7,rfl,h⟩
def QfJ (C:Ctx) (p_l:Sl) (p_is:Value) (K:Bool→Heap→Prop) (H:Heap):Prop:=
 (Value.cells p_is = #[p_is])∧nw ([p_is]) (fun b1 H2=>
 Qbc C p_l (.func (.func 197) (List.toArray []) (List.toArray [pv (some (b1,0))]):Value) (fun r4 H5=>
 K (!r4) H5) H2) H
theorem Qkt (C p_l p_is K H) (h:QfJ C p_l p_is K H):QI C p_l p_is K H:=by
 refine Ye Tryz.func137 rfl Tryz.ntmps137 [(0,slv p_l),(1,p_is)] (Zo ?_)
 obtain ⟨u3,h⟩:=h
 refine GL.box (v:=p_is) (cs:=[p_is]) h trivial rfl rfl u3 ?_
 intro b1 H2 h
 refine Za (GL.nil (Zo (Zm (Zv (OV.makeFunc (vs:=[]) (us:=[pv (some (b1,0))]) rfl rfl) (Zc h Qc5 ?_)))))
 rintro _ H5 ⟨r4,rfl,h⟩
 refine Zv (OV.not rfl) (Za (GL.nil ?_))
 exact Y1 I3 ⟨(!r4),rfl,h⟩
def Qmy (C:Ctx) (p_e:Qb) (K:Bool→Heap→Prop) (H:Heap):Prop:=
 nw (Qb.c p_e) (fun b1 H2=>
 ldT H2 Qb.c (b1,0) fun x3=>
 Qci C x3 false (fun r5 H6=>
 K r5 H6) H2) H
theorem QpG (C p_e K H) (h:Qmy C p_e K H):Qch C p_e K H:=by
 refine Ye Tryz.func138 rfl Tryz.ntmps138 [(0,.agg (Qb.c p_e).toArray)] (Zo (GL.box (v:=.agg (Qb.c p_e).toArray) (cs:=Qb.c p_e) h trivial rfl rfl rfl ?_))
 intro b1 H2 h
 refine Za (GL.nil (Zo ?_))
 obtain ⟨x3,v4,h⟩:=h
 refine Zv (OV.loadT rfl rfl rfl v4) (Zc h QjT ?_)
 rintro _ H6 ⟨r5,rfl,h⟩
 refine Za (GL.nil ?_)
 exact Y1 I3 ⟨r5,rfl,h⟩
def Qk5 (C:Ctx) (p_s:Str) (K:Bool→Heap→Prop) (H:Heap):Prop:=
 K (((((p_s == ([]:Str)) || (p_s == ([99,111,117,110,116]:Str))) || (p_s == ([115,117,109]:Str))) || (p_s == ([109,105,110]:Str))) || (p_s == ([109,97,120]:Str))) H
theorem Qog (C p_s K H) (h:Qk5 C p_s K H):Qlx C p_s K H:=by
 refine Ye Tryz.func139 rfl Tryz.ntmps139 [(0,sv p_s)] (Zo (Za (GL.nil (Zo (Zm (Zv (OV.sbin (a:=p_s) (b:=([]:Str)) (v:=.bool (p_s == ([]:Str))) rfl rfl rfl) (Zm (GL.cut0 3 [(8,.bool ((p_s == ([]:Str)) || (p_s == ([99,111,117,110,116]:Str)))),(0,sv p_s)] ?_ ?_))))))))
 rcases Zb (p_s == ([]:Str)) with u1 | u1
 refine Zk u1 (Zk u1 (Zt u1 ?_))
 exact GL.jump0 I3 () rfl ⟨(by rw [u1]; rfl),rfl,trivial⟩
 refine Zu u1 Ym (Zu u1 (OV.sbin (a:=p_s) (b:=([99,111,117,110,116]:Str)) (v:=.bool (p_s == ([99,111,117,110,116]:Str))) rfl rfl rfl) (Zn u1 ?_))
 exact GL.jump0 I3 () rfl ⟨(by rw [u1]; rfl),rfl,trivial⟩
 refine Zm (GL.cut0 3 [(12,.bool (((p_s == ([]:Str)) || (p_s == ([99,111,117,110,116]:Str))) || (p_s == ([115,117,109]:Str)))),(0,sv p_s)] ?_ ?_)
 rcases Zb ((p_s == ([]:Str)) || (p_s == ([99,111,117,110,116]:Str))) with u2 | u2
 refine Zk u2 (Zk u2 (Zt u2 ?_))
 exact GL.jump0 I3 () rfl ⟨(by rw [u2]; rfl),rfl,trivial⟩
 refine Zu u2 Ym (Zu u2 (OV.sbin (a:=p_s) (b:=([115,117,109]:Str)) (v:=.bool (p_s == ([115,117,109]:Str))) rfl rfl rfl) (Zn u2 ?_))
 exact GL.jump0 I3 () rfl ⟨(by rw [u2]; rfl),rfl,trivial⟩
 refine Zm (GL.cut0 3 [(16,.bool ((((p_s == ([]:Str)) || (p_s == ([99,111,117,110,116]:Str))) || (p_s == ([115,117,109]:Str))) || (p_s == ([109,105,110]:Str)))),(0,sv p_s)] ?_ ?_)
 rcases Zb (((p_s == ([]:Str)) || (p_s == ([99,111,117,110,116]:Str))) || (p_s == ([115,117,109]:Str))) with u3 | u3
 refine Zk u3 (Zk u3 (Zt u3 ?_))
 exact GL.jump0 I3 () rfl ⟨(by rw [u3]; rfl),rfl,trivial⟩
 refine Zu u3 Ym (Zu u3 (OV.sbin (a:=p_s) (b:=([109,105,110]:Str)) (v:=.bool (p_s == ([109,105,110]:Str))) rfl rfl rfl) (Zn u3 ?_))
 exact GL.jump0 I3 () rfl ⟨(by rw [u3]; rfl),rfl,trivial⟩
 refine Zm (GL.cut0 3 [(20,.bool (((((p_s == ([]:Str)) || (p_s == ([99,111,117,110,116]:Str))) || (p_s == ([115,117,109]:Str))) || (p_s == ([109,105,110]:Str))) || (p_s == ([109,97,120]:Str))))] ?_ ?_)
 rcases Zb ((((p_s == ([]:Str)) || (p_s == ([99,111,117,110,116]:Str))) || (p_s == ([115,117,109]:Str))) || (p_s == ([109,105,110]:Str))) with u4 | u4
 refine Zk u4 (Zk u4 (Zt u4 ?_))
 exact GL.jump0 I3 () rfl ⟨(by rw [u4]; rfl),trivial⟩
 refine Zu u4 Ym (Zu u4 (OV.sbin (a:=p_s) (b:=([109,97,120]:Str)) (v:=.bool (p_s == ([109,97,120]:Str))) rfl rfl rfl) (Zn u4 ?_))
 exact GL.jump0 I3 () rfl ⟨(by rw [u4]; rfl),trivial⟩
 refine Za (GL.nil ?_)
 exact Y1 I3 ⟨(((((p_s == ([]:Str)) || (p_s == ([99,111,117,110,116]:Str))) || (p_s == ([115,117,109]:Str))) || (p_s == ([109,105,110]:Str))) || (p_s == ([109,97,120]:Str))),rfl,h⟩
def QaW (C:Ctx) (p_s:Sl) (p_f:Value) (K:Bool→Heap→Prop) (H:Heap):Prop:=
 Qbh C p_s p_f (fun r1 H2=>
 K (decide ((r1:Int) ≥ 0)) H2) H
theorem Qcs (C p_s p_f K H) (h:QaW C p_s p_f K H):QaZ C p_s p_f K H:=by
 refine Ye Tryz.func140 rfl Tryz.ntmps140 [(0,slv p_s),(1,p_f)] (Zo (Za (GL.nil (Zo (Zm (Zm (Zc h Qdd ?_)))))))
 rintro _ H2 ⟨r1,rfl,h⟩
 refine Zi (.bool (decide ((r1:Int) ≥ 0))) (Za (GL.nil ?_))
 exact Y1 I3 ⟨(decide ((r1:Int) ≥ 0)),rfl,h⟩
def QiQ (C:Ctx) (p_x:Qn) (v0:Nat×Nat) (K:Bool→Heap→Prop) (H:Heap):Prop:=
 nw (Qn.c p_x) (fun b1 H2=>
 ldV H2 v0 fun x3=>
 ldT H2 Qn.c (b1,0) fun x5=>
 callU Tryz.prog C x3 [.agg (Qn.c x5).toArray] H2 (fun v H8=>∃ (r7:Bool),v=.bool r7∧
 K (!r7) H8)) H
theorem Qin (C p_x v0 K H) (h:QiQ C p_x v0 K H):Qjg C p_x v0 K H:=by
 refine Ye Tryz.func141 rfl Tryz.ntmps141 [(0,.agg (Qn.c p_x).toArray),(1,pv (some v0))] (Zo (GL.box (v:=.agg (Qn.c p_x).toArray) (cs:=Qn.c p_x) h trivial rfl rfl rfl ?_))
 intro b1 H2 h
 refine Za (GL.nil (Zo (Yl h fun x3 h=>?_)))
 obtain ⟨x5,hr6,h⟩:=h
 refine Zv (OV.loadT rfl rfl rfl hr6) (GL.callU (xv:=x3) (vs:=[.agg (Qn.c x5).toArray]) h trivial rfl rfl rfl ?_)
 rintro _ H8 ⟨r7,rfl,h⟩
 refine Zv (OV.not rfl) (Za (GL.nil ?_))
 exact Y1 I3 ⟨(!r7),rfl,h⟩
def Qat (C:Ctx) (p_s:Sl) (p_f:Value) (K:Bool→Heap→Prop) (H:Heap):Prop:=
 QaU C p_s p_f (fun r1 H2=>
 K (decide ((r1:Int) ≥ 0)) H2) H
theorem QbT (C p_s p_f K H) (h:Qat C p_s p_f K H):QaC C p_s p_f K H:=by
 refine Ye Tryz.func142 rfl Tryz.ntmps142 [(0,slv p_s),(1,p_f)] (Zo (Za (GL.nil (Zo (Zm (Zm (Zc h Qcq ?_)))))))
 rintro _ H2 ⟨r1,rfl,h⟩
 refine Zi (.bool (decide ((r1:Int) ≥ 0))) (Za (GL.nil ?_))
 exact Y1 I3 ⟨(decide ((r1:Int) ≥ 0)),rfl,h⟩
def Qhr (C:Ctx) (p_x:Qi) (v0:Nat×Nat) (K:Bool→Heap→Prop) (H:Heap):Prop:=
 nw (Qi.c p_x) (fun b1 H2=>
 ldV H2 v0 fun x3=>
 ldT H2 Qi.c (b1,0) fun x5=>
 callU Tryz.prog C x3 [.agg (Qi.c x5).toArray] H2 (fun v H8=>∃ (r7:Bool),v=.bool r7∧
 K (!r7) H8)) H
theorem Qg4 (C p_x v0 K H) (h:Qhr C p_x v0 K H):QhM C p_x v0 K H:=by
 refine Ye Tryz.func143 rfl Tryz.ntmps143 [(0,.agg (Qi.c p_x).toArray),(1,pv (some v0))] (Zo (GL.box (v:=.agg (Qi.c p_x).toArray) (cs:=Qi.c p_x) h trivial rfl rfl rfl ?_))
 intro b1 H2 h
 refine Za (GL.nil (Zo (Yl h fun x3 h=>?_)))
 obtain ⟨x5,hr6,h⟩:=h
 refine Zv (OV.loadT rfl rfl rfl hr6) (GL.callU (xv:=x3) (vs:=[.agg (Qi.c x5).toArray]) h trivial rfl rfl rfl ?_)
 rintro _ H8 ⟨r7,rfl,h⟩
 refine Zv (OV.not rfl) (Za (GL.nil ?_))
 exact Y1 I3 ⟨(!r7),rfl,h⟩
def Qke (C:Ctx) (p_e:Qb) (K:Bool→Heap→Prop) (H:Heap):Prop:=
 nw (Qb.c p_e) (fun b1 H2=>
 ldT H2 Qb.c (b1,0) fun x3=>
 Qci C x3 true (fun r5 H6=>
 K r5 H6) H2) H
theorem Qnd (C p_e K H) (h:Qke C p_e K H):QcI C p_e K H:=by
 refine Ye Tryz.func144 rfl Tryz.ntmps144 [(0,.agg (Qb.c p_e).toArray)] (Zo (GL.box (v:=.agg (Qb.c p_e).toArray) (cs:=Qb.c p_e) h trivial rfl rfl rfl ?_))
 intro b1 H2 h
 refine Za (GL.nil (Zo ?_))
 obtain ⟨x3,v4,h⟩:=h
 refine Zv (OV.loadT rfl rfl rfl v4) (Zc h QjT ?_)
 rintro _ H6 ⟨r5,rfl,h⟩
 refine Za (GL.nil ?_)
 exact Y1 I3 ⟨r5,rfl,h⟩
def Qi1 (C:Ctx) (p_s:Str) (K:Bool→Heap→Prop) (H:Heap):Prop:=
 jn (α:=Bool) (fun b1 H8=>
 jn (α:=Bool) (fun b9 H16=>
 jn (α:=Bool) (fun b17 H23=>
 K b17 H23)
 (fun J18=>ift b9
 (QiA C p_s (fun r21 H22=>
 J18 r21 H22) H16)
 (J18 false H16)))
 (fun J10=>ift b1
 (ixs p_s 0 fun c13=>
 J10 (decide (((c13.toNat:Int):Int)≤90)) H8)
 (J10 false H8)))
 (fun J2=>ift (!(p_s == ([]:Str)))
 (ixs p_s 0 fun c5=>
 J2 (decide (((c5.toNat:Int):Int) ≥ 65)) H)
 (J2 false H))
theorem QmN (C p_s K H) (h:Qi1 C p_s K H):Qex C p_s K H:=by
 refine Ye Tryz.func145 rfl Tryz.ntmps145 [(0,sv p_s)] (Zo (Za (GL.nil (Zo (Zm (Zv (OV.sbin (a:=p_s) (b:=([]:Str)) (v:=.bool (!(p_s == ([]:Str)))) rfl rfl rfl) (Zm ?_)))))))
 obtain ⟨J2,h,hR3⟩:=h
 refine GL.cut (α:=Bool) 4 J2 (fun b1=>[(9,.bool b1),(0,sv p_s)]) ?_ ?_
 rcases h.em with ⟨u4,h⟩ | ⟨u4,h⟩
 refine Zu u4 Ym ?_
 obtain ⟨c5,ha6,hb7,h⟩:=h
 refine Zu u4 (OV.indexStr rfl rfl rfl ha6 hb7) (Zu u4 (OV.ibin (v:=.bool (decide (((c5.toNat:Int):Int) ≥ 65))) rfl rfl rfl) (Zt u4 ?_))
 exact Yj I3 (decide (((c5.toNat:Int):Int) ≥ 65)) h
 refine Zk u4 (Zk u4 (Zk u4 (Zn u4 ?_)))
 exact Yj I3 false h
 intro b1 H8 h
 replace h:=hR3 b1 H8 h
 refine Zm ?_
 obtain ⟨J10,h,hR11⟩:=h
 refine GL.cut (α:=Bool) 4 J10 (fun b9=>[(14,.bool b9),(0,sv p_s)]) ?_ ?_
 rcases h.em with ⟨u12,h⟩ | ⟨u12,h⟩
 refine Zu u12 Ym ?_
 obtain ⟨c13,ha14,hb15,h⟩:=h
 refine Zu u12 (OV.indexStr rfl rfl rfl ha14 hb15) (Zu u12 (OV.ibin (v:=.bool (decide (((c13.toNat:Int):Int)≤90))) rfl rfl rfl) (Zt u12 ?_))
 exact Yj I3 (decide (((c13.toNat:Int):Int)≤90)) h
 refine Zk u12 (Zk u12 (Zk u12 (Zn u12 ?_)))
 exact Yj I3 false h
 intro b9 H16 h
 replace h:=hR11 b9 H16 h
 refine Zm ?_
 obtain ⟨J18,h,hR19⟩:=h
 refine GL.cut (α:=Bool) 3 J18 (fun b17=>[(18,.bool b17)]) ?_ ?_
 rcases h.em with ⟨u20,h⟩ | ⟨u20,h⟩
 refine Zu u20 Ym (GL.call h (Yt u20) rfl Qmv (vs:=[sv p_s]) rfl ?_)
 rintro _ H22 ⟨r21,rfl,h⟩
 refine Zt u20 ?_
 exact Yj I3 r21 h
 refine Zk u20 (Zk u20 (Zn u20 ?_))
 exact Yj I3 false h
 intro b17 H23 h
 replace h:=hR19 b17 H23 h
 refine Za (GL.nil ?_)
 exact Y1 I3 ⟨b17,rfl,h⟩
def Qa0 (C:Ctx) (p_s:Sl) (p_f:Value) (K:Int→Heap→Prop) (H:Heap):Prop:=
 lp (α:=Int) 0 H (fun x1 J2 H3=>
 ift (decide ((x1:Int) < (Sl.len p_s:Int)))
 (ixa p_s x1 fun p5=>
 ldT H3 Qa.c (p5.1,p5.2+(x1:Int).toNat*6) fun x10=>
 callU Tryz.prog C p_f [.agg (Qa.c x10).toArray] H3 (fun v H13=>∃ (r12:Bool),v=.bool r12∧
 ift r12
 (K x1 H13)
 (J2 (w .i64 (x1+1)) H13)))
 (K (-1) H3))
theorem QcK (C p_s p_f K H) (h:Qa0 C p_s p_f K H):Qa7 C p_s p_f K H:=by
 refine Ye Tryz.func146 rfl Tryz.ntmps146 [(0,slv p_s),(1,p_f)] (Zo (Za (GL.nil (GC.seq (Zo (Zm (Zq (Zm (GL.nil (GC.block (Yp h (fun x1=>[(8,.int .i64 x1),(0,slv p_s),(1,p_f),(7,.int .i64 (Sl.len p_s:Int))]) ?_)))))))))))
 intro x1 H3 J2 h
 refine Zo (Zi (.bool (decide ((x1:Int) < (Sl.len p_s:Int)))) (GL.nil (GC.seq (Yd h (fun u4 h=>?_) fun u4 h=>?_))))
 refine GC.skip (GC.seq (GC.block (Zo (Zm (Za (GL.nil (Zo (Zm (Zm (Zm (Yx h fun p5 h=>?_)))))))))))
 obtain ⟨x10,v11,h⟩:=h
 refine Zv (OV.loadT rfl rfl rfl v11) (GL.callU (xv:=p_f) (vs:=[.agg (Qa.c x10).toArray]) h trivial rfl rfl rfl ?_)
 rintro _ H13 ⟨r12,rfl,h⟩
 refine GL.nil (Yd h (fun u14 h=>?_) fun u14 h=>?_)
 refine Zo (Zm (Za (GL.nil ?_)))
 exact Y1 I3 ⟨x1,rfl,h⟩
 refine GC.skip_to I3 (GC.region (Zi (.int .i64 (w .i64 (x1+1))) (Zm ?_)))
 exact Yj I3 (w .i64 (x1+1)) h
 refine GC.exit_to I3 (Zo (Za (GL.nil ?_)))
 exact Y1 I3 ⟨(-1),rfl,h⟩
def Qd8 (C:Ctx) (p_m:Qa) (v0:Nat×Nat) (K:Bool→Heap→Prop) (H:Heap):Prop:=
 nw (Qa.c p_m) (fun b1 H2=>
 ldS H2 ((b1,0).1,(b1,0).2+0) fun x3=>
 ldS H2 v0 fun x5=>
 K (x3 == x5) H2) H
theorem Qhu (C p_m v0 K H) (h:Qd8 C p_m v0 K H):Qiv C p_m v0 K H:=by
 refine Ye Tryz.func147 rfl Tryz.ntmps147 [(0,.agg (Qa.c p_m).toArray),(1,pv (some v0))] (Zo (GL.box (v:=.agg (Qa.c p_m).toArray) (cs:=Qa.c p_m) h trivial rfl rfl rfl ?_))
 intro b1 H2 h
 refine Za (GL.nil (Zo (Zf (Yl h fun x3 h=>?_))))
 refine Yl h fun x5 h=>?_
 refine Zv (OV.sbin (a:=x3) (b:=x5) (v:=.bool (x3 == x5)) rfl rfl rfl) (Za (GL.nil ?_))
 exact Y1 I3 ⟨(x3 == x5),rfl,h⟩
def QK (C:Ctx) (p_s:Sl) (p_f:Value) (K:Int→Heap→Prop) (H:Heap):Prop:=
 lp (α:=Int) 0 H (fun x1 J2 H3=>
 ift (decide ((x1:Int) < (Sl.len p_s:Int)))
 (ixa p_s x1 fun p5=>
 ldT H3 Qp.c (p5.1,p5.2+(x1:Int).toNat*3) fun x10=>
 callU Tryz.prog C p_f [.agg (Qp.c x10).toArray] H3 (fun v H13=>∃ (r12:Bool),v=.bool r12∧
 ift r12
 (K x1 H13)
 (J2 (w .i64 (x1+1)) H13)))
 (K (-1) H3))
theorem Q9 (C p_s p_f K H) (h:QK C p_s p_f K H):Qa6 C p_s p_f K H:=by
 refine Ye Tryz.func148 rfl Tryz.ntmps148 [(0,slv p_s),(1,p_f)] (Zo (Za (GL.nil (GC.seq (Zo (Zm (Zq (Zm (GL.nil (GC.block (Yp h (fun x1=>[(8,.int .i64 x1),(0,slv p_s),(1,p_f),(7,.int .i64 (Sl.len p_s:Int))]) ?_)))))))))))
 intro x1 H3 J2 h
 refine Zo (Zi (.bool (decide ((x1:Int) < (Sl.len p_s:Int)))) (GL.nil (GC.seq (Yd h (fun u4 h=>?_) fun u4 h=>?_))))
 refine GC.skip (GC.seq (GC.block (Zo (Zm (Za (GL.nil (Zo (Zm (Zm (Zm (Yx h fun p5 h=>?_)))))))))))
 obtain ⟨x10,v11,h⟩:=h
 refine Zv (OV.loadT rfl rfl rfl v11) (GL.callU (xv:=p_f) (vs:=[.agg (Qp.c x10).toArray]) h trivial rfl rfl rfl ?_)
 rintro _ H13 ⟨r12,rfl,h⟩
 refine GL.nil (Yd h (fun u14 h=>?_) fun u14 h=>?_)
 refine Zo (Zm (Za (GL.nil ?_)))
 exact Y1 I3 ⟨x1,rfl,h⟩
 refine GC.skip_to I3 (GC.region (Zi (.int .i64 (w .i64 (x1+1))) (Zm ?_)))
 exact Yj I3 (w .i64 (x1+1)) h
 refine GC.exit_to I3 (Zo (Za (GL.nil ?_)))
 exact Y1 I3 ⟨(-1),rfl,h⟩
def Qdh (C:Ctx) (p_x:Qp) (v0:Nat×Nat) (v1:Nat×Nat) (v2:Nat×Nat) (K:Bool→Heap→Prop) (H:Heap):Prop:=
 nw (Qp.c p_x) (fun b1 H2=>
 ldP H2 v0 fun x3=>
 ldS H2 ((b1,0).1,(b1,0).2+2) fun x5=>
 Qaz C x3 x5 (fun r7 H8=>
 ldM H8 v1 fun x9=>
 lkM kI (fun x:Bool=>(.bool x:Value)) false x9 r7 (fun x11 is12=>
 jn (α:=Bool) (fun b14 H26=>
 K b14 H26)
 (fun J15=>ift (!x11)
 (ldP H8 v0 fun x18=>
 ldI H8 .i64 v2 fun x20=>
 ldM H8 v1 fun x22=>
 QaA C x18 r7 x20 x22 (fun r24 H25=>
 J15 r24 H25) H8)
 (J15 false H8))) H8) H2) H
theorem Qf1 (C p_x v0 v1 v2 K H) (h:Qdh C p_x v0 v1 v2 K H):Qgw C p_x v0 v1 v2 K H:=by
 refine Ye Tryz.func149 rfl Tryz.ntmps149 [(0,.agg (Qp.c p_x).toArray),(1,pv (some v0)),(2,pv (some v1)),(3,pv (some v2))] (Zo (GL.box (v:=.agg (Qp.c p_x).toArray) (cs:=Qp.c p_x) h trivial rfl rfl rfl ?_))
 intro b1 H2 h
 refine Za (GL.nil (Zo (Yl h fun x3 h=>?_)))
 refine Zf (Yl h fun x5 h=>?_)
 refine Zc h Qbx ?_
 rintro _ H8 ⟨r7,rfl,h⟩
 refine Za (GL.nil (Zo (Yl h fun x9 h=>?_)))
 refine Zm ?_
 obtain ⟨x11,is12,hr13,h⟩:=h
 refine Zv (OV.lookup1 (v:=.bool x11) (ke:=kI) (enc:=(fun x:Bool=>(.bool x:Value))) (z:=false) (q:=x9) (k:=r7) (x:=x11) (b:=is12) rfl hr13 rfl rfl rfl (kInt (by kernel_rfl)) rfl) (Zv (OV.not rfl) (Zm ?_))
 obtain ⟨J15,h,hR16⟩:=h
 refine GL.cut (α:=Bool) 6 J15 (fun b14=>[(21,.bool b14)]) ?_ ?_
 rcases h.em with ⟨u17,h⟩ | ⟨u17,h⟩
 obtain ⟨x18,hr19,h⟩:=h
 refine Zu u17 (Yo hr19) (Zu u17 Ym ?_)
 obtain ⟨x20,hr21,h⟩:=h
 refine Zu u17 (Yo hr21) ?_
 obtain ⟨x22,hr23,h⟩:=h
 refine Zu u17 (Yo hr23) (GL.call h (Yt u17) rfl QdN (vs:=[pv x18,.int .i64 r7,.int .i64 x20,mv x22]) rfl ?_)
 rintro _ H25 ⟨r24,rfl,h⟩
 refine Zt u17 ?_
 exact Yj I3 r24 h
 refine Zk u17 (Zk u17 (Zk u17 (Zk u17 (Zk u17 (Zn u17 ?_)))))
 exact Yj I3 false h
 intro b14 H26 h
 replace h:=hR16 b14 H26 h
 refine Za (GL.nil ?_)
 exact Y1 I3 ⟨b14,rfl,h⟩
def QcA (C:Ctx) (p_s:Sl) (p_v:Str) (K:Int→Heap→Prop) (H:Heap):Prop:=
 lp (α:=Int) 0 H (fun x1 J2 H3=>
 ift (decide ((x1:Int) < (Sl.len p_s:Int)))
 (ixa p_s x1 fun p5=>
 ldS H3 (p5.1,p5.2+(x1:Int).toNat*1) fun x10=>
 ift (p_v == x10)
 (K x1 H3)
 (J2 (w .i64 (x1+1)) H3))
 (K (-1) H3))
theorem Qfw (C p_s p_v K H) (h:QcA C p_s p_v K H):QcU C p_s p_v K H:=by
 refine Ye Tryz.func150 rfl Tryz.ntmps150 [(0,slv p_s),(1,sv p_v)] (Zo (Za (GL.nil (GC.seq (Zo (Zm (Zq (Zm (GL.nil (GC.block (Yp h (fun x1=>[(8,.int .i64 x1),(0,slv p_s),(1,sv p_v),(7,.int .i64 (Sl.len p_s:Int))]) ?_)))))))))))
 intro x1 H3 J2 h
 refine Zo (Zi (.bool (decide ((x1:Int) < (Sl.len p_s:Int)))) (GL.nil (GC.seq (Yd h (fun u4 h=>?_) fun u4 h=>?_))))
 refine GC.skip (GC.seq (GC.block (Zo (Zm (Za (GL.nil (Zo (Zm (Zm (Zm (Yx h fun p5 h=>?_)))))))))))
 refine Yl h fun x10 h=>?_
 refine Zv (OV.sbin (a:=p_v) (b:=x10) (v:=.bool (p_v == x10)) rfl rfl rfl) (GL.nil (Yd h (fun u12 h=>?_) fun u12 h=>?_))
 refine Zo (Zm (Za (GL.nil ?_)))
 exact Y1 I3 ⟨x1,rfl,h⟩
 refine GC.skip_to I3 (GC.region (Zi (.int .i64 (w .i64 (x1+1))) (Zm ?_)))
 exact Yj I3 (w .i64 (x1+1)) h
 refine GC.exit_to I3 (Zo (Za (GL.nil ?_)))
 exact Y1 I3 ⟨(-1),rfl,h⟩
def Q5 (C:Ctx) (p_s:Sl) (p_f:Value) (K:Int→Heap→Prop) (H:Heap):Prop:=
 lp (α:=Int) 0 H (fun x1 J2 H3=>
 ift (decide ((x1:Int) < (Sl.len p_s:Int)))
 (ixa p_s x1 fun p5=>
 ldT H3 Ql.c (p5.1,p5.2+(x1:Int).toNat*2) fun x10=>
 callU Tryz.prog C p_f [.agg (Ql.c x10).toArray] H3 (fun v H13=>∃ (r12:Bool),v=.bool r12∧
 ift r12
 (K x1 H13)
 (J2 (w .i64 (x1+1)) H13)))
 (K (-1) H3))
theorem QaI (C p_s p_f K H) (h:Q5 C p_s p_f K H):QaT C p_s p_f K H:=by
 refine Ye Tryz.func151 rfl Tryz.ntmps151 [(0,slv p_s),(1,p_f)] (Zo (Za (GL.nil (GC.seq (Zo (Zm (Zq (Zm (GL.nil (GC.block (Yp h (fun x1=>[(8,.int .i64 x1),(0,slv p_s),(1,p_f),(7,.int .i64 (Sl.len p_s:Int))]) ?_)))))))))))
 intro x1 H3 J2 h
 refine Zo (Zi (.bool (decide ((x1:Int) < (Sl.len p_s:Int)))) (GL.nil (GC.seq (Yd h (fun u4 h=>?_) fun u4 h=>?_))))
 refine GC.skip (GC.seq (GC.block (Zo (Zm (Za (GL.nil (Zo (Zm (Zm (Zm (Yx h fun p5 h=>?_)))))))))))
 obtain ⟨x10,v11,h⟩:=h
 refine Zv (OV.loadT rfl rfl rfl v11) (GL.callU (xv:=p_f) (vs:=[.agg (Ql.c x10).toArray]) h trivial rfl rfl rfl ?_)
 rintro _ H13 ⟨r12,rfl,h⟩
 refine GL.nil (Yd h (fun u14 h=>?_) fun u14 h=>?_)
 refine Zo (Zm (Za (GL.nil ?_)))
 exact Y1 I3 ⟨x1,rfl,h⟩
 refine GC.skip_to I3 (GC.region (Zi (.int .i64 (w .i64 (x1+1))) (Zm ?_)))
 exact Yj I3 (w .i64 (x1+1)) h
 refine GC.exit_to I3 (Zo (Za (GL.nil ?_)))
 exact Y1 I3 ⟨(-1),rfl,h⟩
def QR (C:Ctx) (p_s:Sl) (p_f:Value) (K:Bool→Heap→Prop) (H:Heap):Prop:=
 QaG C p_s p_f (fun r1 H2=>
 K (decide ((r1:Int) ≥ 0)) H2) H
theorem Qan (C p_s p_f K H) (h:QR C p_s p_f K H):QB C p_s p_f K H:=by
 refine Ye Tryz.func152 rfl Tryz.ntmps152 [(0,slv p_s),(1,p_f)] (Zo (Za (GL.nil (Zo (Zm (Zm (Zc h Qb4 ?_)))))))
 rintro _ H2 ⟨r1,rfl,h⟩
 refine Zi (.bool (decide ((r1:Int) ≥ 0))) (Za (GL.nil ?_))
 exact Y1 I3 ⟨(decide ((r1:Int) ≥ 0)),rfl,h⟩
def QiW (C:Ctx) (p_f:Qj) (v0:Nat×Nat) (K:Bool→Heap→Prop) (H:Heap):Prop:=
 nw (Qj.c p_f) (fun b1 H2=>
 ldT H2 Qg.c ((b1,0).1,(b1,0).2+1) fun x3=>
 ldL H2 v0 fun x5=>
 QfX C x3 x5 (fun r7 H8=>
 K r7 H8) H2) H
theorem QmI (C p_f v0 K H) (h:QiW C p_f v0 K H):Qnj C p_f v0 K H:=by
 refine Ye Tryz.func153 rfl Tryz.ntmps153 [(0,.agg (Qj.c p_f).toArray),(1,pv (some v0))] (Zo (GL.box (v:=.agg (Qj.c p_f).toArray) (cs:=Qj.c p_f) h trivial rfl rfl rfl ?_))
 intro b1 H2 h
 refine Za (GL.nil (Zo (Zf ?_)))
 obtain ⟨x3,hr4,h⟩:=h
 refine Zv (OV.loadT rfl rfl rfl hr4) (Yl h fun x5 h=>?_)
 refine Zc h QkM ?_
 rintro _ H8 ⟨r7,rfl,h⟩
 refine Za (GL.nil ?_)
 exact Y1 I3 ⟨r7,rfl,h⟩
def QkW (C:Ctx) (p_t:Qg) (p_params:Sl) (K:Bool→Heap→Prop) (H:Heap):Prop:=
 nw (Qg.c p_t) (fun b1 H2=>
 nw ([slv p_params]) (fun b3 H4=>
 ldS H4 ((b1,0).1,(b1,0).2+0) fun x5=>
 ixs x5 0 fun c7=>
 ift (((c7.toNat:Int):Int) == 39)
 (ldL H4 (b3,0) fun x11=>
 ldS H4 ((b1,0).1,(b1,0).2+0) fun x13=>
 Qw C x11 x13 (fun r15 H16=>
 K (!r15) H16) H4)
 (ldL H4 ((b1,0).1,(b1,0).2+1) fun x17=>
 QQ C x17 (.func (.func 203) (List.toArray []) (List.toArray [pv (some (b3,0))]):Value) (fun r19 H20=>
 K r19 H20) H4)) H2) H
theorem Qn7 (C p_t p_params K H) (h:QkW C p_t p_params K H):QfX C p_t p_params K H:=by
 refine Ye Tryz.func154 rfl Tryz.ntmps154 [(0,.agg (Qg.c p_t).toArray),(1,slv p_params)] (Zo (GL.box (v:=.agg (Qg.c p_t).toArray) (cs:=Qg.c p_t) h trivial rfl rfl rfl ?_))
 intro b1 H2 h
 refine GL.box (v:=slv p_params) (cs:=[slv p_params]) h trivial rfl rfl rfl ?_
 intro b3 H4 h
 refine Za (GL.nil (GC.seq (Zo (Zf (Yl h fun x5 h=>?_)))))
 refine Ys h fun c7 h=>?_
 refine Zi (.bool (((c7.toNat:Int):Int) == 39)) (GL.nil (Yd h (fun u10 h=>?_) fun u10 h=>?_))
 refine Zo (Yl h fun x11 h=>?_)
 refine Zf (Yl h fun x13 h=>?_)
 refine Zc h QbR ?_
 rintro _ H16 ⟨r15,rfl,h⟩
 refine Zv (OV.not rfl) (Za (GL.nil ?_))
 exact Y1 I3 ⟨(!r15),rfl,h⟩
 refine GC.skip (Zo (Zf (Yl h fun x17 h=>?_)))
 refine Zv (OV.makeFunc (vs:=[]) (us:=[pv (some (b3,0))]) rfl rfl) (Zc h Qa9 ?_)
 rintro _ H20 ⟨r19,rfl,h⟩
 refine Za (GL.nil ?_)
 exact Y1 I3 ⟨r19,rfl,h⟩
def Qfm (C:Ctx) (E:Value→Heap→Prop) (p_p:Option (Nat×Nat)) (p_m:Qa) (p_t:Qg) (p_pos:Qf) (K:Qg→Heap→Prop) (H:Heap):Prop:=
 nw (Qa.c p_m) (fun b1 H2=>
 nw (Qg.c p_t) (fun b3 H4=>
 nw (Qf.c p_pos) (fun b5 H6=>
 nw (Qg.c Qg.zero) (fun b7 H8=>
 jn (α:=Unit) (fun x10 H11=>
 ldL H11 ((b3,0).1,(b3,0).2+1) fun x39=>
 st ((b3,0).1,(b3,0).2+1) (slv Sl.nil) (fun H41=>
 lp (α:=Int) 0 H41 (fun x42 J43 H44=>
 ift (decide ((x42:Int) < (Sl.len x39:Int)))
 (ixa x39 x42 fun p46=>
 ldT H44 Qg.c (p46.1,p46.2+(x42:Int).toNat*2) fun x51=>
 nw (Qg.c Qg.zero) (fun b53 H54=>
 stT (b53,0) (Qg.c x51) (fun H55=>
 dr H55 fun Hs56=>
 ldL Hs56 ((b3,0).1,(b3,0).2+1) fun x58=>
 ldT Hs56 Qa.c (b1,0) fun x60=>
 ldT Hs56 Qg.c (b53,0) fun x62=>
 ldT Hs56 Qf.c (b5,0) fun x64=>
 QbX C E p_p x60 x62 x64 (fun r67 H68=>
 Heap.le Hs56 H68∧
 nw ((Qg.c r67)++[]) (fun b70 H71=>
 Heap.le Hs56 H71∧
 apS (Qg.c Qg.zero) 40 x58 (Sl.of (some (b70,0)) 1 1) (fun r73 H74=>
 Heap.le Hs56 H74∧
 st ((b3,0).1,(b3,0).2+1) (slv r73) (fun H75=>
 J43 (w .i64 (x42+1)) H75) H74) H71) H68) H55) H54) H44)
 (ldT H44 Qg.c (b3,0) fun x76=>
 stT (b7,0) (Qg.c x76) (fun H78=>
 ldT H78 Qg.c (b7,0) fun x79=>
 K x79 H78) H44))) H11)
 (fun J9=>ldS H8 ((b3,0).1,(b3,0).2+0) fun x13=>
 jn (α:=Bool) (fun x16 H17=>
 ift x16
 (J9 () H17)
 (ldS H17 ((b3,0).1,(b3,0).2+0) fun x24=>
 ixs x24 0 fun c26=>
 ift (((c26.toNat:Int):Int) != 39)
 (ldT H17 Qa.c (b1,0) fun x30=>
 ldS H17 ((b3,0).1,(b3,0).2+0) fun x32=>
 ldT H17 Qf.c (b5,0) fun x34=>
 QG C E p_p x30 x32 0 x34 (fun r36 H37=>
 st ((b3,0).1,(b3,0).2+0) (sv r36) (fun H38=>
 J9 () H38) H37) H17)
 (J9 () H17)))
 (fun J15=>ift (x13 == ([98,111,111,108]:Str))
 (J15 (x13 == ([98,111,111,108]:Str)) H8)
 (ift (x13 == ([105,110,116]:Str))
 (J15 (x13 == ([105,110,116]:Str)) H8)
 (ift (x13 == ([98,105,103]:Str))
 (J15 (x13 == ([98,105,103]:Str)) H8)
 (ift (x13 == ([116,101,120,116]:Str))
 (J15 (x13 == ([116,101,120,116]:Str)) H8)
 (J15 (x13 == ([116,117,112,108,101]:Str)) H8))))))) H6) H4) H2) H
theorem Qju (C E p_p p_m p_t p_pos K H) (h:Qfm C E p_p p_m p_t p_pos K H):QbX C E p_p p_m p_t p_pos K H:=by
 refine SpecP.enter Tryz.func155 rfl Tryz.ntmps155 rfl (GC.sub [(0,pv p_p),(1,.agg (Qa.c p_m).toArray),(2,.agg (Qg.c p_t).toArray),(3,.agg (Qf.c p_pos).toArray)] ⟨rfl,rfl,rfl,rfl,trivial⟩ (Zo (GL.box (v:=.agg (Qa.c p_m).toArray) (cs:=Qa.c p_m) h trivial rfl rfl rfl ?_)))
 intro b1 H2 h
 refine GL.box (v:=.agg (Qg.c p_t).toArray) (cs:=Qg.c p_t) h trivial rfl rfl rfl ?_
 intro b3 H4 h
 refine GL.box (v:=.agg (Qf.c p_pos).toArray) (cs:=Qf.c p_pos) h trivial rfl rfl rfl ?_
 intro b5 H6 h
 refine GL.alloc (cs:=Qg.c Qg.zero) h trivial rfl rfl rfl ?_
 intro b7 H8 h
 refine GL.nil ?_
 obtain ⟨J9,h,hR12⟩:=h
 refine GC.join (α:=Unit) J9 (fun _=>[(0,pv p_p),(5,pv (some (b1,0))),(6,pv (some (b3,0))),(7,pv (some (b5,0))),(8,pv (some (b7,0)))]) ?_ ?_
 refine Zo (Zf (Yl h fun x13 h=>?_))
 refine GL.nil (GC.block ?_)
 obtain ⟨J15,h,hR18⟩:=h
 refine GC.join (α:=Bool) J15 (fun x16=>[(25,.bool x16),(0,pv p_p),(5,pv (some (b1,0))),(6,pv (some (b3,0))),(7,pv (some (b5,0))),(8,pv (some (b7,0)))]) ?_ ?_
 refine Zo (Zv (OV.sbin (a:=x13) (b:=([98,111,111,108]:Str)) (v:=.bool (x13 == ([98,111,111,108]:Str))) rfl rfl rfl) (Za (GL.nil (Yd h (fun u19 h=>?_) fun u19 h=>?_))))
 exact Yk I3 (x13 == ([98,111,111,108]:Str)) h
 refine Zo (Zv (OV.sbin (a:=x13) (b:=([105,110,116]:Str)) (v:=.bool (x13 == ([105,110,116]:Str))) rfl rfl rfl) (Za (GL.nil (Yd h (fun u20 h=>?_) fun u20 h=>?_))))
 exact Yk I3 (x13 == ([105,110,116]:Str)) h
 refine Zo (Zv (OV.sbin (a:=x13) (b:=([98,105,103]:Str)) (v:=.bool (x13 == ([98,105,103]:Str))) rfl rfl rfl) (Za (GL.nil (Yd h (fun u21 h=>?_) fun u21 h=>?_))))
 exact Yk I3 (x13 == ([98,105,103]:Str)) h
 refine Zo (Zv (OV.sbin (a:=x13) (b:=([116,101,120,116]:Str)) (v:=.bool (x13 == ([116,101,120,116]:Str))) rfl rfl rfl) (Za (GL.nil (Yd h (fun u22 h=>?_) fun u22 h=>?_))))
 exact Yk I3 (x13 == ([116,101,120,116]:Str)) h
 refine GC.region (Zv (OV.sbin (a:=x13) (b:=([116,117,112,108,101]:Str)) (v:=.bool (x13 == ([116,117,112,108,101]:Str))) rfl rfl rfl) (Za ?_))
 exact Yj I3 (x13 == ([116,117,112,108,101]:Str)) h
 intro x16 H17 h
 replace h:=hR18 x16 H17 h
 refine Yd h (fun u23 h=>?_) fun u23 h=>?_
 exact Yk I3 () h
 refine Zo (Zf (Yl h fun x24 h=>?_))
 refine Ys h fun c26 h=>?_
 refine Zi (.bool (((c26.toNat:Int):Int) != 39)) (GL.nil (Yd h (fun u29 h=>?_) fun u29 h=>?_))
 refine GC.region (Zm ?_)
 obtain ⟨x30,v31,h⟩:=h
 refine Zv (OV.loadT rfl rfl rfl v31) (Zf (Yl h fun x32 h=>?_))
 obtain ⟨x34,v35,h⟩:=h
 refine Zv (OV.loadT rfl rfl rfl v35) (GL.callP h (fun _ _ _ _ h=>h) trivial rfl Qby (vs:=[pv p_p,.agg (Qa.c x30).toArray,sv x32,.int .i64 0,.agg (Qf.c x34).toArray]) rfl ?_)
 rintro _ H37 ⟨r36,rfl,h⟩
 refine Zf (GL.store (p:=((b3,0).1,(b3,0).2+0)) (v:=sv r36) h trivial rfl rfl rfl rfl ?_)
 intro H38 h
 exact Yj I3 () h
 exact Yk I3 () h
 intro x10 H11 h
 replace h:=hR12 x10 H11 h
 refine Zo (Zf (Yl h fun x39 h=>?_))
 refine Za (GL.nil (Zo (Zf (GL.store (p:=((b3,0).1,(b3,0).2+1)) (v:=slv Sl.nil) h trivial rfl rfl rfl rfl ?_))))
 intro H41 h
 refine GL.nil (GC.seq (Zo (Zm (Zq (Zm (GL.nil (GC.block (Yp h (fun x42=>[(36,.int .i64 x42),(0,pv p_p),(5,pv (some (b1,0))),(6,pv (some (b3,0))),(7,pv (some (b5,0))),(8,pv (some (b7,0))),(34,slv x39),(35,.int .i64 (Sl.len x39:Int))]) ?_))))))))
 intro x42 H44 J43 h
 refine Zo (Zi (.bool (decide ((x42:Int) < (Sl.len x39:Int)))) (GL.nil (GC.seq (Yd h (fun u45 h=>?_) fun u45 h=>?_))))
 refine GC.skip (GC.seq (GC.block (Zo (Yx h fun p46 h=>?_))))
 obtain ⟨x51,v52,h⟩:=h
 refine Zv (OV.loadT rfl rfl rfl v52) (GL.alloc (cs:=Qg.c Qg.zero) h trivial rfl rfl rfl ?_)
 intro b53 H54 h
 refine GL.storeT (p:=(b53,0)) (vs:=Qg.c x51) h trivial rfl rfl rfl rfl ?_
 intro H55 h
 refine GL.nil ?_
 obtain ⟨Hs56,hle57,h⟩:=h
 refine GC.tail (Hs:=Hs56) 10 (by kernel_rfl) hle57 (by kernel_rfl) (GT.takeP 0 rfl trivial (OV.fieldAddr (p:=(b3,0)) rfl rfl) ?_)
 obtain ⟨x58,v59,h⟩:=h
 refine GT.takeP 1 rfl trivial (OV.load (p:=((b3,0).1,(b3,0).2+1)) rfl rfl v59) (GT.takeP 2 rfl trivial (OV.move (v:=pv p_p) rfl) ?_)
 obtain ⟨x60,v61,h⟩:=h
 refine GT.takeP 3 rfl trivial (OV.loadT (p:=(b1,0)) (cs:=Qa.c x60) rfl rfl rfl v61) ?_
 obtain ⟨x62,v63,h⟩:=h
 refine GT.takeP 4 rfl trivial (OV.loadT (p:=(b53,0)) (cs:=Qg.c x62) rfl rfl rfl v63) ?_
 obtain ⟨x64,v65,h⟩:=h
 refine GT.takeP 5 rfl trivial (OV.loadT (p:=(b5,0)) (cs:=Qf.c x64) rfl rfl rfl v65) (GT.eff 6 rfl (by kernel_rfl) rfl (GL.callP h (fun _ _ _ _ h=>h) trivial rfl Qfj (vs:=[pv p_p,.agg (Qa.c x60).toArray,.agg (Qg.c x62).toArray,.agg (Qf.c x64).toArray]) rfl ?_))
 rintro _ H68 ⟨r67,rfl,h⟩
 obtain ⟨hle66,h⟩:=h
 refine GT.back hle66 (GT.eff 7 rfl (by kernel_rfl) rfl (GL.buildSlice (cs:=(Qg.c r67)++[]) h trivial rfl (vs:=[(0,.agg (Qg.c r67).toArray)]) rfl ⟨24,fun _=>by kernel_rfl⟩ ?_))
 intro b70 H71 h
 obtain ⟨hle69,h⟩:=h
 refine GT.back hle69 (GT.eff 8 rfl (by kernel_rfl) rfl (GL.appendS (s:=x58) (s2:=(Sl.of (some (b70,0)) 1 1)) (zc:=Qg.c Qg.zero) (bytes:=40) h trivial rfl rfl rfl ⟨⟨_,_,_,rfl,rfl,rfl,rfl,rfl,rfl⟩⟩ rfl ?_))
 intro r73 H74 h
 obtain ⟨hle72,h⟩:=h
 refine GT.back hle72 (GT.takeP 9 rfl trivial (OV.fieldAddr (p:=(b3,0)) rfl rfl) (GT.done (by kernel_rfl) ?_))
 show GL _ _ _ _ _ [_] _ _
 refine GL.store (p:=((b3,0).1,(b3,0).2+1)) (v:=slv r73) h trivial rfl rfl rfl rfl ?_
 intro H75 h
 refine GL.nil_to I3 (GC.region (Zi (.int .i64 (w .i64 (x42+1))) (Zm ?_)))
 exact Yj I3 (w .i64 (x42+1)) h
 refine GC.exit_to I3 (Zo ?_)
 obtain ⟨x76,v77,h⟩:=h
 refine Zv (OV.loadT rfl rfl rfl v77) (GL.storeT (p:=(b7,0)) (vs:=Qg.c x76) h trivial rfl rfl rfl rfl ?_)
 intro H78 h
 refine GL.nil ?_
 obtain ⟨x79,v80,h⟩:=h
 exact GC.ret (fun _ _ hf hs=>postP (E:=E) hf (QsF rfl (RV.cellT (p:=(b7,0)) (cs:=Qg.c x79) rfl rfl rfl v80) hf hs ⟨x79,rfl,h⟩))
def QkY (C:Ctx) (p_s:Str) (p_sep:Str) (K:Str→Str→Bool→Heap→Prop) (H:Heap):Prop:=
 Qdv C p_s p_sep (fun r1 r2 r3 H4=>
 K r1 r2 r3 H4) H
theorem Qn9 (C p_s p_sep K H) (h:QkY C p_s p_sep K H):Qev C p_s p_sep K H:=by
 refine Ye Tryz.func156 rfl Tryz.ntmps156 [(0,sv p_s),(1,sv p_sep)] (Zo (Za (Za (Za (GL.nil (Zo (Zm (Zm (Zc h Qgd ?_)))))))))
 rintro _ H4 ⟨r1,r2,r3,rfl,h⟩
 refine Yv (sv r1) rfl rfl (Yv (sv r2) rfl rfl (Yv (.bool r3) rfl rfl (Za (Za (Za (GL.nil ?_))))))
 exact Y3 I3 ⟨r1,r2,r3,rfl,h⟩
def Qd9 (C:Ctx) (p_x:Qp) (v0:Nat×Nat) (K:Bool→Heap→Prop) (H:Heap):Prop:=
 nw (Qp.c p_x) (fun b1 H2=>
 ldS H2 ((b1,0).1,(b1,0).2+2) fun x3=>
 ldS H2 v0 fun x5=>
 K (x3 == x5) H2) H
theorem Qhv (C p_x v0 K H) (h:Qd9 C p_x v0 K H):Qiw C p_x v0 K H:=by
 refine Ye Tryz.func157 rfl Tryz.ntmps157 [(0,.agg (Qp.c p_x).toArray),(1,pv (some v0))] (Zo (GL.box (v:=.agg (Qp.c p_x).toArray) (cs:=Qp.c p_x) h trivial rfl rfl rfl ?_))
 intro b1 H2 h
 refine Za (GL.nil (Zo (Zf (Yl h fun x3 h=>?_))))
 refine Yl h fun x5 h=>?_
 refine Zv (OV.sbin (a:=x3) (b:=x5) (v:=.bool (x3 == x5)) rfl rfl rfl) (Za (GL.nil ?_))
 exact Y1 I3 ⟨(x3 == x5),rfl,h⟩
def QbL (C:Ctx) (p_s:Str) (p_prefix:Str) (K:Bool→Heap→Prop) (H:Heap):Prop:=
 jn (α:=Bool) (fun b1 H11=>
 K b1 H11)
 (fun J2=>ift (decide (((List.length p_s:Int):Int) ≥ (List.length p_prefix:Int)))
 (slS p_s 0 (List.length p_prefix:Int) fun t5=>
 J2 (t5 == p_prefix) H)
 (J2 false H))
theorem Qer (C p_s p_prefix K H) (h:QbL C p_s p_prefix K H):Qag C p_s p_prefix K H:=by
 refine Ye Tryz.func158 rfl Tryz.ntmps158 [(0,sv p_s),(1,sv p_prefix)] (Zo (Za (GL.nil (Zo (Zm (Zr (Zm (Zr (Zi (.bool (decide (((List.length p_s:Int):Int) ≥ (List.length p_prefix:Int)))) (Zm ?_))))))))))
 obtain ⟨J2,h,hR3⟩:=h
 refine GL.cut (α:=Bool) 7 J2 (fun b1=>[(17,.bool b1)]) ?_ ?_
 rcases h.em with ⟨u4,h⟩ | ⟨u4,h⟩
 refine Zu u4 Ym (Zu u4 Ym (Zu u4 (OV.lenStr rfl rfl) ?_))
 obtain ⟨h6,h7,h8,t5,h9,h⟩:=h
 refine Zu u4 (OV.sliceStr (s:=p_s) h6 h7 h8 h9 rfl rfl rfl rfl rfl rfl) (Zu u4 Ym (Zu u4 (OV.sbin (a:=t5) (b:=p_prefix) (v:=.bool (t5 == p_prefix)) rfl rfl rfl) (Zt u4 ?_)))
 exact Yj I3 (t5 == p_prefix) h
 refine Zk u4 (Zk u4 (Zk u4 (Zk u4 (Zk u4 (Zk u4 (Zn u4 ?_))))))
 exact Yj I3 false h
 intro b1 H11 h
 replace h:=hR3 b1 H11 h
 refine Za (GL.nil ?_)
 exact Y1 I3 ⟨b1,rfl,h⟩
def QgV (C:Ctx) (p_w:Option (Nat×Nat)) (p_is:Bool) (K:Heap→Prop) (H:Heap):Prop:=
 ift p_is
 (nck p_w fun p2=>
 Qm C (some (p2.1,p2.2+0)) [112,117,98,32] (fun r4 r5 H6=>
 K H6) H)
 (K H)
theorem Qlu (C p_w p_is K H) (h:QgV C p_w p_is K H):Qds C p_w p_is K H:=by
 refine Ye Tryz.func159 rfl Tryz.ntmps159 [(0,pv p_w),(1,.bool p_is)] (Zo (Zm (GL.nil (Yd h (fun u1 h=>?_) fun u1 h=>?_))))
 refine GC.region (Zm ?_)
 obtain ⟨p2,hp3,h⟩:=h
 refine Zv (OV.nilCheck (q:=p_w) rfl hp3) (Zf (Zc h Qo ?_))
 rintro _ H6 ⟨r4,r5,rfl,h⟩
 exact GL.ends (fun _ _ hf hs=>Qt rfl hf hs ⟨rfl,h⟩)
 exact GC.ends (fun _ _ hf hs=>Qt rfl hf hs ⟨rfl,h⟩)
def QeL (C:Ctx) (p_w:Option (Nat×Nat)) (p_l:Sl) (p_write:Value) (K:Heap→Prop) (H:Heap):Prop:=
 nck p_w fun p1=>
 Qq C (some (p1.1,p1.2+0)) 40 (fun r3 H4=>
 QgG C p_w p_l [44,32] p_write (fun H5=>
 nck p_w fun p6=>
 Qq C (some (p6.1,p6.2+0)) 41 (fun r8 H9=>
 K H9) H5) H4) H
theorem Qip (C p_w p_l p_write K H) (h:QeL C p_w p_l p_write K H):QcN C p_w p_l p_write K H:=by
 refine Ye Tryz.func160 rfl Tryz.ntmps160 [(0,pv p_w),(1,slv p_l),(2,p_write)] (Zo (Zm ?_))
 obtain ⟨p1,hp2,h⟩:=h
 refine Zv (OV.nilCheck (q:=p_w) rfl hp2) (Zf (Zc h Qr ?_))
 rintro _ H4 ⟨r3,rfl,h⟩
 refine GL.nil (Zo (Zm (Zm (Zm (Zc h Qlj ?_)))))
 rintro _ H5 ⟨rfl,h⟩
 refine GL.nil (GC.region (Zm ?_))
 obtain ⟨p6,hp7,h⟩:=h
 refine Zv (OV.nilCheck (q:=p_w) rfl hp7) (Zf (Zc h Qr ?_))
 rintro _ H9 ⟨r8,rfl,h⟩
 exact GL.ends (fun _ _ hf hs=>Qt rfl hf hs ⟨rfl,h⟩)
def Qek (C:Ctx) (p_s:Str) (v0:Nat×Nat) (K:Heap→Prop) (H:Heap):Prop:=
 ldP H v0 fun x1=>
 nck x1 fun p3=>
 Qm C (some (p3.1,p3.2+0)) p_s (fun r5 r6 H7=>
 K H7) H
theorem QhI (C p_s v0 K H) (h:Qek C p_s v0 K H):Qez C p_s v0 K H:=by
 refine Ye Tryz.func161 rfl Tryz.ntmps161 [(0,sv p_s),(1,pv (some v0))] (GC.region (Yl h fun x1 h=>?_))
 obtain ⟨p3,hp4,h⟩:=h
 refine Zv (OV.nilCheck (q:=x1) rfl hp4) (Zf (Zm (Zc h Qo ?_)))
 rintro _ H7 ⟨r5,r6,rfl,h⟩
 exact GL.ends (fun _ _ hf hs=>Qt rfl hf hs ⟨rfl,h⟩)
def Qeh (C:Ctx) (p_w:Option (Nat×Nat)) (p_l:Sl) (p_between:Str) (p_write:Value) (K:Heap→Prop) (H:Heap):Prop:=
 lp (α:=Int) 0 H (fun x1 J2 H3=>
 ift (decide ((x1:Int) < (Sl.len p_l:Int)))
 (ixa p_l x1 fun p5=>
 ldT H3 Ql.c (p5.1,p5.2+(x1:Int).toNat*2) fun x10=>
 nw (Ql.c Ql.zero) (fun b12 H13=>
 stT (b12,0) (Ql.c x10) (fun H14=>
 jn (α:=Unit) (fun x16 H17=>
 ldT H17 Ql.c (b12,0) fun x25=>
 callU Tryz.prog C p_write [.agg (Ql.c x25).toArray] H17 (fun v H27=>v=.tuple #[]∧
 J2 (w .i64 (x1+1)) H27))
 (fun J15=>ift (decide ((x1:Int) > 0))
 (nck p_w fun p20=>
 Qm C (some (p20.1,p20.2+0)) p_between (fun r22 r23 H24=>
 J15 () H24) H14)
 (J15 () H14))) H13) H3)
 (K H3))
theorem QhF (C p_w p_l p_between p_write K H) (h:Qeh C p_w p_l p_between p_write K H):Qcj C p_w p_l p_between p_write K H:=by
 refine Ye Tryz.func162 rfl Tryz.ntmps162 [(0,pv p_w),(1,slv p_l),(2,sv p_between),(3,p_write)] (Zo (Zm (Zq (Zm (GL.nil (GC.block (Yp h (fun x1=>[(12,.int .i64 x1),(0,pv p_w),(2,sv p_between),(3,p_write),(10,slv p_l),(11,.int .i64 (Sl.len p_l:Int))]) ?_)))))))
 intro x1 H3 J2 h
 refine Zo (Zi (.bool (decide ((x1:Int) < (Sl.len p_l:Int)))) (GL.nil (GC.seq (Yd h (fun u4 h=>?_) fun u4 h=>?_))))
 refine GC.skip (GC.seq (GC.block (Zo (Zm (Yx h fun p5 h=>?_)))))
 obtain ⟨x10,v11,h⟩:=h
 refine Zv (OV.loadT rfl rfl rfl v11) (GL.alloc (cs:=Ql.c Ql.zero) h trivial rfl rfl rfl ?_)
 intro b12 H13 h
 refine Za (GL.storeT (p:=(b12,0)) (vs:=Ql.c x10) h trivial rfl rfl rfl rfl ?_)
 intro H14 h
 refine GL.nil ?_
 obtain ⟨J15,h,hR18⟩:=h
 refine GC.join (α:=Unit) J15 (fun _=>[(0,pv p_w),(2,sv p_between),(3,p_write),(9,pv (some (b12,0))),(10,slv p_l),(11,.int .i64 (Sl.len p_l:Int)),(12,.int .i64 x1)]) ?_ ?_
 refine Zo (Zm (Zi (.bool (decide ((x1:Int) > 0))) (GL.nil (Yd h (fun u19 h=>?_) fun u19 h=>?_))))
 refine GC.region (Zm ?_)
 obtain ⟨p20,hp21,h⟩:=h
 refine Zv (OV.nilCheck (q:=p_w) rfl hp21) (Zf (Zm (Zc h Qo ?_)))
 rintro _ H24 ⟨r22,r23,rfl,h⟩
 exact Yj I3 () h
 exact Yk I3 () h
 intro x16 H17 h
 replace h:=hR18 x16 H17 h
 refine GC.region (Zm ?_)
 obtain ⟨x25,v26,h⟩:=h
 refine Zv (OV.loadT rfl rfl rfl v26) (GL.callU (xv:=p_write) (vs:=[.agg (Ql.c x25).toArray]) h trivial rfl rfl rfl ?_)
 rintro _ H27 ⟨rfl,h⟩
 refine GL.nil_to I3 (GC.region (Zi (.int .i64 (w .i64 (x1+1))) (Zm ?_)))
 exact Yj I3 (w .i64 (x1+1)) h
 exact GC.exit_ends (fun _ _ hf hs=>Qt rfl hf hs ⟨rfl,h⟩)
def Qel (C:Ctx) (p_c:Ql) (v0:Nat×Nat) (K:Heap→Prop) (H:Heap):Prop:=
 nw (Ql.c p_c) (fun b1 H2=>
 dr H2 fun Hs3=>
 ldP Hs3 v0 fun x5=>
 nck x5 fun p7=>
 ldS Hs3 ((b1,0).1,(b1,0).2+0) fun x9=>
 Qm C (some (p7.1,p7.2+0)) x9 (fun r12 r13 H14=>
 Heap.le Hs3 H14∧
 ldL H14 ((b1,0).1,(b1,0).2+1) fun x15=>
 ift (decide (((Sl.len x15:Int):Int) > 0))
 (ldP H14 v0 fun x18=>
 ldL H14 ((b1,0).1,(b1,0).2+1) fun x20=>
 ldP H14 v0 fun x22=>
 Qad C x18 x20 (.func (.func 165) (List.toArray [pv x22]) (List.toArray []):Value) (fun H24=>
 K H24) H14)
 (K H14)) H2) H
theorem QhJ (C p_c v0 K H) (h:Qel C p_c v0 K H):QeA C p_c v0 K H:=by
 refine Ye Tryz.func163 rfl Tryz.ntmps163 [(0,.agg (Ql.c p_c).toArray),(1,pv (some v0))] (Zo (GL.box (v:=.agg (Ql.c p_c).toArray) (cs:=Ql.c p_c) h trivial rfl rfl rfl ?_))
 intro b1 H2 h
 refine GL.nil (GC.seq ?_)
 obtain ⟨Hs3,hle4,h⟩:=h
 refine GC.any (Hs:=Hs3) (by kernel_rfl) hle4 ?_
 obtain ⟨x5,hr6,h⟩:=h
 refine Zp 0 rfl (Yo hr6) ?_
 obtain ⟨p7,hp8,h⟩:=h
 refine Zp 1 rfl (OV.nilCheck (q:=x5) rfl hp8) (Zp 2 rfl Yf (Zp 3 rfl Yf ?_))
 obtain ⟨x9,hr10,h⟩:=h
 refine Zp 4 rfl (Yo hr10) (GA.eff 5 rfl (by kernel_rfl) (Zc h Qo ?_))
 rintro _ H14 ⟨r12,r13,rfl,h⟩
 obtain ⟨hle11,h⟩:=h
 refine GA.back hle11 (GA.done (by kernel_rfl) (GL.nil (Zo (Zf (Yl h fun x15 h=>?_)))))
 refine Zq (Zi (.bool (decide (((Sl.len x15:Int):Int) > 0))) (GL.nil (Yd h (fun u17 h=>?_) fun u17 h=>?_)))
 refine GC.region (Yl h fun x18 h=>?_)
 refine Zf (Yl h fun x20 h=>?_)
 refine Yl h fun x22 h=>?_
 refine Zv (OV.makeFunc (vs:=[pv x22]) (us:=[]) rfl rfl) (Zc h Qcx ?_)
 rintro _ H24 ⟨rfl,h⟩
 exact GL.ends (fun _ _ hf hs=>Qt rfl hf hs ⟨rfl,h⟩)
 exact GC.ends (fun _ _ hf hs=>Qt rfl hf hs ⟨rfl,h⟩)
def QcB (C:Ctx) (p_w:Option (Nat×Nat)) (p_l:Sl) (p_write:Value) (K:Heap→Prop) (H:Heap):Prop:=
 nck p_w fun p1=>
 Qq C (some (p1.1,p1.2+0)) 40 (fun r3 H4=>
 Qb3 C p_w p_l [44,32] p_write (fun H5=>
 nck p_w fun p6=>
 Qq C (some (p6.1,p6.2+0)) 41 (fun r8 H9=>
 K H9) H5) H4) H
theorem Qfx (C p_w p_l p_write K H) (h:QcB C p_w p_l p_write K H):Qad C p_w p_l p_write K H:=by
 refine Ye Tryz.func164 rfl Tryz.ntmps164 [(0,pv p_w),(1,slv p_l),(2,p_write)] (Zo (Zm ?_))
 obtain ⟨p1,hp2,h⟩:=h
 refine Zv (OV.nilCheck (q:=p_w) rfl hp2) (Zf (Zc h Qr ?_))
 rintro _ H4 ⟨r3,rfl,h⟩
 refine GL.nil (Zo (Zm (Zm (Zm (Zc h Qhp ?_)))))
 rintro _ H5 ⟨rfl,h⟩
 refine GL.nil (GC.region (Zm ?_))
 obtain ⟨p6,hp7,h⟩:=h
 refine Zv (OV.nilCheck (q:=p_w) rfl hp7) (Zf (Zc h Qr ?_))
 rintro _ H9 ⟨r8,rfl,h⟩
 exact GL.ends (fun _ _ hf hs=>Qt rfl hf hs ⟨rfl,h⟩)
def QeO (C:Ctx) (p_w:Option (Nat×Nat)) (p_f:Qj) (K:Heap→Prop) (H:Heap):Prop:=
 nw (Qj.c p_f) (fun b1 H2=>
 jn (α:=Unit) (fun x4 H5=>
 ldT H5 Qg.c ((b1,0).1,(b1,0).2+1) fun x15=>
 Qe6 C p_w x15 (fun H17=>
 K H17) H5)
 (fun J3=>ldS H2 ((b1,0).1,(b1,0).2+0) fun x7=>
 ift (!(x7 == ([]:Str)))
 (ldS H2 ((b1,0).1,(b1,0).2+0) fun x10=>
 nw ([sv x10,sv [58,32]]) (fun b12 H13=>
 QA C p_w (Sl.of (some (b12,0)) 2 2) (fun H14=>
 J3 () H14) H13) H2)
 (J3 () H2))) H
theorem Qis (C p_w p_f K H) (h:QeO C p_w p_f K H):QeR C p_w p_f K H:=by
 refine Ye Tryz.func165 rfl Tryz.ntmps165 [(0,pv p_w),(1,.agg (Qj.c p_f).toArray)] (Zo (GL.box (v:=.agg (Qj.c p_f).toArray) (cs:=Qj.c p_f) h trivial rfl rfl rfl ?_))
 intro b1 H2 h
 refine GL.nil ?_
 obtain ⟨J3,h,hR6⟩:=h
 refine GC.join (α:=Unit) J3 (fun _=>[(0,pv p_w),(3,pv (some (b1,0)))]) ?_ ?_
 refine Zo (Zf (Yl h fun x7 h=>?_))
 refine Zv (OV.sbin (a:=x7) (b:=([]:Str)) (v:=.bool (!(x7 == ([]:Str)))) rfl rfl rfl) (GL.nil (Yd h (fun u9 h=>?_) fun u9 h=>?_))
 refine GC.region (Zm (Zf (Yl h fun x10 h=>?_)))
 refine GL.buildSlice (cs:=[sv x10,sv [58,32]]) h trivial rfl (vs:=[(0,sv x10),(1,sv [58,32])]) rfl ⟨9,fun _=>by kernel_rfl⟩ ?_
 intro b12 H13 h
 refine Zc h QM ?_
 rintro _ H14 ⟨rfl,h⟩
 exact Yj I3 () h
 exact Yk I3 () h
 intro x4 H5 h
 replace h:=hR6 x4 H5 h
 refine GC.region (Zm (Zf ?_))
 obtain ⟨x15,v16,h⟩:=h
 refine Zv (OV.loadT rfl rfl rfl v16) (Zc h QgN ?_)
 rintro _ H17 ⟨rfl,h⟩
 exact GL.ends (fun _ _ hf hs=>Qt rfl hf hs ⟨rfl,h⟩)
def QcY (C:Ctx) (p_b:Option (Nat×Nat)) (p_c:Int) (K:Value→Heap→Prop) (H:Heap):Prop:=
 QaK C p_b (fun H1=>
 nck p_b fun p2=>
 ldL H1 (p2.1,p2.2+1) fun x4=>
 apdG 5 ([.int .u8 0]) 1 x4 ([.int .u8 p_c]) 1 (fun r6 H7=>
 nck p_b fun p8=>
 sttG (p8.1,p8.2+1) (slv r6) (fun H10=>
 K .nilIface H10) H7) H1) H
theorem QfS (C p_b p_c K H) (h:QcY C p_b p_c K H):Qq C p_b p_c K H:=by
 refine Ye Tryz.func166 rfl Tryz.ntmps166 [(0,pv p_b),(1,.int .u8 p_c)] (Zo (Za (GL.nil (Zo (Zm (Zc h QcV ?_))))))
 rintro _ H1 ⟨rfl,h⟩
 refine GL.nil (Zo (Zm (Zm ?_)))
 obtain ⟨p2,hp3,h⟩:=h
 refine Zv (OV.nilCheck (q:=p_b) rfl hp3) (Zf (Yl h fun x4 h=>?_))
 refine Zm (GL.appendGLit (e:=5) (s:=x4) (ys:=[.int .u8 p_c]) (zc:=[.int .u8 0]) (bytes:=1) h trivial rfl (fun _=>trivial) rfl (fun _=>rfl) (fun _=>rfl) (vs:=[(0,.int .u8 p_c)]) rfl ⟨5,fun _=>by kernel_rfl⟩ ⟨⟨_,_,rfl,rfl,rfl,rfl,rfl,rfl⟩⟩ rfl rfl ?_)
 intro _ r6 H7 h
 obtain ⟨p8,hp9,h⟩:=h
 refine Zv (OV.nilCheck (q:=p_b) rfl hp9) (Zf (GL.storeG (p:=(p8.1,p8.2+1)) (v:=slv r6) h trivial rfl rfl rfl rfl ?_))
 intro H10 h
 refine GL.nil (Zo (Za (GL.nil ?_)))
 exact Y1 I3 ⟨.nilIface,rfl,h⟩
def QbP (C:Ctx) (p_w:Option (Nat×Nat)) (p_l:Sl) (p_write:Value) (K:Heap→Prop) (H:Heap):Prop:=
 nck p_w fun p1=>
 Qq C (some (p1.1,p1.2+0)) 40 (fun r3 H4=>
 QaP C p_w p_l [44,32] p_write (fun H5=>
 nck p_w fun p6=>
 Qq C (some (p6.1,p6.2+0)) 41 (fun r8 H9=>
 K H9) H5) H4) H
theorem QdK (C p_w p_l p_write K H) (h:QbP C p_w p_l p_write K H):Qy C p_w p_l p_write K H:=by
 refine Ye Tryz.func167 rfl Tryz.ntmps167 [(0,pv p_w),(1,slv p_l),(2,p_write)] (Zo (Zm ?_))
 obtain ⟨p1,hp2,h⟩:=h
 refine Zv (OV.nilCheck (q:=p_w) rfl hp2) (Zf (Zc h Qr ?_))
 rintro _ H4 ⟨r3,rfl,h⟩
 refine GL.nil (Zo (Zm (Zm (Zm (Zc h Qfl ?_)))))
 rintro _ H5 ⟨rfl,h⟩
 refine GL.nil (GC.region (Zm ?_))
 obtain ⟨p6,hp7,h⟩:=h
 refine Zv (OV.nilCheck (q:=p_w) rfl hp7) (Zf (Zc h Qr ?_))
 rintro _ H9 ⟨r8,rfl,h⟩
 exact GL.ends (fun _ _ hf hs=>Qt rfl hf hs ⟨rfl,h⟩)
def Qft (C:Ctx) (p_e:Qb) (v0:Nat×Nat) (v1:Nat×Nat) (v2:Nat×Nat) (K:Heap→Prop) (H:Heap):Prop:=
 nw (Qb.c p_e) (fun b1 H2=>
 ldL H2 (v0.1,v0.2+4) fun x3=>
 ldI H2 .i64 v1 fun x5=>
 ixa x3 x5 fun p7=>
 ldS H2 (p7.1,p7.2+(x5:Int).toNat*1) fun x12=>
 ldI H2 .i64 v1 fun x14=>
 st v1 (.int .i64 (w .i64 (x14+1))) (fun H16=>
 ift (x12 == ([]:Str))
 (ldP H16 v2 fun x18=>
 ldT H16 Qb.c (b1,0) fun x20=>
 Qae C x18 x20 (fun H22=>
 K H22) H16)
 (ldP H16 v2 fun x23=>
 nw ([sv x12,sv [40]]) (fun b25 H26=>
 QA C x23 (Sl.of (some (b25,0)) 2 2) (fun H27=>
 ldP H27 v2 fun x28=>
 ldT H27 Qb.c (b1,0) fun x30=>
 Qae C x28 x30 (fun H32=>
 ldP H32 v2 fun x33=>
 nck x33 fun p35=>
 Qq C (some (p35.1,p35.2+0)) 41 (fun r37 H38=>
 K H38) H32) H27) H26) H16)) H2) H
theorem QjB (C p_e v0 v1 v2 K H) (h:Qft C p_e v0 v1 v2 K H):QdD C p_e v0 v1 v2 K H:=by
 refine Ye Tryz.func168 rfl Tryz.ntmps168 [(0,.agg (Qb.c p_e).toArray),(1,pv (some v0)),(2,pv (some v1)),(3,pv (some v2))] (Zo (GL.box (v:=.agg (Qb.c p_e).toArray) (cs:=Qb.c p_e) h trivial rfl rfl rfl ?_))
 intro b1 H2 h
 refine GL.nil (Zo (Zf (Yl h fun x3 h=>?_)))
 refine Yl h fun x5 h=>?_
 refine Yx h fun p7 h=>?_
 refine Yl h fun x12 h=>?_
 refine Za (GL.nil (Zo (Yl h fun x14 h=>?_)))
 refine Zi (.int .i64 (w .i64 (x14+1))) (GL.store (p:=v1) (v:=.int .i64 (w .i64 (x14+1))) h trivial rfl rfl rfl rfl ?_)
 intro H16 h
 refine GL.nil (GC.seq (Zo (Zm (Zv (OV.sbin (a:=x12) (b:=([]:Str)) (v:=.bool (x12 == ([]:Str))) rfl rfl rfl) (GL.nil (Yd h (fun u17 h=>?_) fun u17 h=>?_))))))
 refine Zo (Yl h fun x18 h=>?_)
 obtain ⟨x20,hr21,h⟩:=h
 refine Zv (OV.loadT rfl rfl rfl hr21) (Zc h Q4 ?_)
 rintro _ H22 ⟨rfl,h⟩
 refine GL.nil ?_
 exact GC.ret (fun _ _ hf hs=>Qt rfl hf hs ⟨rfl,h⟩)
 refine GC.skip (Zo (Yl h fun x23 h=>?_))
 refine Zm (GL.buildSlice (cs:=[sv x12,sv [40]]) h trivial rfl (vs:=[(0,sv x12),(1,sv [40])]) rfl ⟨9,fun _=>by kernel_rfl⟩ ?_)
 intro b25 H26 h
 refine Zc h QM ?_
 rintro _ H27 ⟨rfl,h⟩
 refine GL.nil (Zo (Yl h fun x28 h=>?_))
 obtain ⟨x30,hr31,h⟩:=h
 refine Zv (OV.loadT rfl rfl rfl hr31) (Zc h Q4 ?_)
 rintro _ H32 ⟨rfl,h⟩
 refine GL.nil (GC.region (Yl h fun x33 h=>?_))
 obtain ⟨p35,hp36,h⟩:=h
 refine Zv (OV.nilCheck (q:=x33) rfl hp36) (Zf (Zc h Qr ?_))
 rintro _ H38 ⟨r37,rfl,h⟩
 exact GL.ends (fun _ _ hf hs=>Qt rfl hf hs ⟨rfl,h⟩)
def Qgp (C:Ctx) (p_w:Option (Nat×Nat)) (p_e:Qb) (K:Heap→Prop) (H:Heap):Prop:=
 nw (Qb.c p_e) (fun b1 H2=>
 ldI H2 .u8 ((b1,0).1,(b1,0).2+0) fun x3=>
 ift ((x3:Int) == 1)
 (dr H2 fun Hs6=>
 nck p_w fun p8=>
 ldT Hs6 Qh.c ((b1,0).1,(b1,0).2+4) fun x10=>
 QjI C x10 (fun r13 H14=>
 Heap.le Hs6 H14∧
 Qm C (some (p8.1,p8.2+0)) r13 (fun r16 r17 H18=>
 Heap.le Hs6 H18∧
 K H18) H14) H2)
 (ift ((x3:Int) == 2)
 (dr H2 fun Hs20=>
 nck p_w fun p22=>
 ldS Hs20 ((b1,0).1,(b1,0).2+3) fun x24=>
 Qm C (some (p22.1,p22.2+0)) x24 (fun r27 r28 H29=>
 Heap.le Hs20 H29∧
 K H29) H2)
 (ift ((x3:Int) == 3)
 (nck p_w fun p31=>
 Qq C (some (p31.1,p31.2+0)) 95 (fun r33 H34=>
 K H34) H2)
 (ift ((x3:Int) == 4)
 (ldL H2 ((b1,0).1,(b1,0).2+8) fun x36=>
 Qy C p_w x36 (.func (.func 169) (List.toArray [pv p_w]) (List.toArray []):Value) (fun H38=>
 K H38) H2)
 (ift ((x3:Int) == 5)
 (dr H2 fun Hs40=>
 nck p_w fun p42=>
 ldS Hs40 ((b1,0).1,(b1,0).2+3) fun x44=>
 Qm C (some (p42.1,p42.2+0)) x44 (fun r47 r48 H49=>
 Heap.le Hs40 H49∧
 ldL H49 ((b1,0).1,(b1,0).2+8) fun x50=>
 ift (decide (((Sl.len x50:Int):Int) > 0))
 (ldL H49 ((b1,0).1,(b1,0).2+8) fun x53=>
 Qy C p_w x53 (.func (.func 169) (List.toArray [pv p_w]) (List.toArray []):Value) (fun H55=>
 K H55) H49)
 (K H49)) H2)
 (ift ((x3:Int) == 6)
 (ldT H2 Qb.c (b1,0) fun x57=>
 Qey C p_w x57 (fun H59=>
 K H59) H2)
 (ift ((x3:Int) == 7)
 (ldT H2 Qb.c (b1,0) fun x61=>
 Qd0 C p_w x61 (fun H63=>
 K H63) H2)
 (ift ((x3:Int) == 8)
 (nw ([sv [40,105,102,32],sv [32,116,104,101,110,32],sv [32,101,108,115,101,32]]) (fun b65 H66=>
 lp (α:=Int) 0 H66 (fun x67 J68 H69=>
 ift (decide ((x67:Int) < (Sl.len (Sl.of (some (b65,0)) 3 3):Int)))
 (ixa (Sl.of (some (b65,0)) 3 3) x67 fun p71=>
 ldS H69 (p71.1,p71.2+(x67:Int).toNat*1) fun x76=>
 nck p_w fun p78=>
 Qm C (some (p78.1,p78.2+0)) x76 (fun r80 r81 H82=>
 ldL H82 ((b1,0).1,(b1,0).2+8) fun x83=>
 ixa x83 x67 fun p85=>
 ldT H82 Qb.c (p85.1,p85.2+(x67:Int).toNat*9) fun x90=>
 Qae C p_w x90 (fun H92=>
 J68 (w .i64 (x67+1)) H92) H82) H69)
 (nck p_w fun p93=>
 Qq C (some (p93.1,p93.2+0)) 41 (fun r95 H96=>
 K H96) H69))) H2)
 (K H2))))))))) H
theorem Qld (C p_w p_e K H) (h:Qgp C p_w p_e K H):Qae C p_w p_e K H:=by
 refine Ye Tryz.func169 rfl Tryz.ntmps169 [(0,pv p_w),(1,.agg (Qb.c p_e).toArray)] (Zo (GL.box (v:=.agg (Qb.c p_e).toArray) (cs:=Qb.c p_e) h trivial rfl rfl rfl ?_))
 intro b1 H2 h
 refine GL.nil (Zo (Zf (Yl h fun x3 h=>?_)))
 refine GL.nil (GC.block (Zo (Zi (.bool ((x3:Int) == 1)) (Za (GL.nil (Yd h (fun u5 h=>?_) fun u5 h=>?_))))))
 obtain ⟨Hs6,hle7,h⟩:=h
 refine GC.any (Hs:=Hs6) (by kernel_rfl) hle7 (Zp 0 rfl Ym ?_)
 obtain ⟨p8,hp9,h⟩:=h
 refine Zp 1 rfl (OV.nilCheck (q:=p_w) rfl hp9) (Zp 2 rfl Yf (Zp 3 rfl Yf ?_))
 obtain ⟨x10,v11,h⟩:=h
 refine Zp 4 rfl (OV.loadT rfl rfl rfl v11) (GA.eff 5 rfl (by kernel_rfl) (Zc h QpA ?_))
 rintro _ H14 ⟨r13,rfl,h⟩
 obtain ⟨hle12,h⟩:=h
 refine GA.back hle12 (GA.eff 6 rfl (by kernel_rfl) (Zc h Qo ?_))
 rintro _ H18 ⟨r16,r17,rfl,h⟩
 obtain ⟨hle15,h⟩:=h
 refine GA.back hle15 (GA.done (by kernel_rfl) ?_)
 exact GL.ends (fun _ _ hf hs=>Qt rfl hf hs ⟨rfl,h⟩)
 refine Zo (Zi (.bool ((x3:Int) == 2)) (Za (GL.nil (Yd h (fun u19 h=>?_) fun u19 h=>?_))))
 obtain ⟨Hs20,hle21,h⟩:=h
 refine GC.any (Hs:=Hs20) (by kernel_rfl) hle21 (Zp 0 rfl Ym ?_)
 obtain ⟨p22,hp23,h⟩:=h
 refine Zp 1 rfl (OV.nilCheck (q:=p_w) rfl hp23) (Zp 2 rfl Yf (Zp 3 rfl Yf ?_))
 obtain ⟨x24,v25,h⟩:=h
 refine Zp 4 rfl (Yo v25) (GA.eff 5 rfl (by kernel_rfl) (Zc h Qo ?_))
 rintro _ H29 ⟨r27,r28,rfl,h⟩
 obtain ⟨hle26,h⟩:=h
 refine GA.back hle26 (GA.done (by kernel_rfl) ?_)
 exact GL.ends (fun _ _ hf hs=>Qt rfl hf hs ⟨rfl,h⟩)
 refine Zo (Zi (.bool ((x3:Int) == 3)) (Za (GL.nil (Yd h (fun u30 h=>?_) fun u30 h=>?_))))
 refine GC.region (Zm ?_)
 obtain ⟨p31,hp32,h⟩:=h
 refine Zv (OV.nilCheck (q:=p_w) rfl hp32) (Zf (Zc h Qr ?_))
 rintro _ H34 ⟨r33,rfl,h⟩
 exact GL.ends (fun _ _ hf hs=>Qt rfl hf hs ⟨rfl,h⟩)
 refine Zo (Zi (.bool ((x3:Int) == 4)) (Za (GL.nil (Yd h (fun u35 h=>?_) fun u35 h=>?_))))
 refine GC.region (Zm (Zf (Yl h fun x36 h=>?_)))
 refine Zm (Zv (OV.makeFunc (vs:=[pv p_w]) (us:=[]) rfl rfl) (Zc h QT ?_))
 rintro _ H38 ⟨rfl,h⟩
 exact GL.ends (fun _ _ hf hs=>Qt rfl hf hs ⟨rfl,h⟩)
 refine Zo (Zi (.bool ((x3:Int) == 5)) (Za (GL.nil (Yd h (fun u39 h=>?_) fun u39 h=>?_))))
 refine GC.seq ?_
 obtain ⟨Hs40,hle41,h⟩:=h
 refine GC.any (Hs:=Hs40) (by kernel_rfl) hle41 (Zp 0 rfl Ym ?_)
 obtain ⟨p42,hp43,h⟩:=h
 refine Zp 1 rfl (OV.nilCheck (q:=p_w) rfl hp43) (Zp 2 rfl Yf (Zp 3 rfl Yf ?_))
 obtain ⟨x44,v45,h⟩:=h
 refine Zp 4 rfl (Yo v45) (GA.eff 5 rfl (by kernel_rfl) (Zc h Qo ?_))
 rintro _ H49 ⟨r47,r48,rfl,h⟩
 obtain ⟨hle46,h⟩:=h
 refine GA.back hle46 (GA.done (by kernel_rfl) (GL.nil (Zo (Zf (Yl h fun x50 h=>?_)))))
 refine Zq (Zi (.bool (decide (((Sl.len x50:Int):Int) > 0))) (GL.nil (Yd h (fun u52 h=>?_) fun u52 h=>?_)))
 refine GC.region (Zm (Zf (Yl h fun x53 h=>?_)))
 refine Zm (Zv (OV.makeFunc (vs:=[pv p_w]) (us:=[]) rfl rfl) (Zc h QT ?_))
 rintro _ H55 ⟨rfl,h⟩
 exact GL.ends (fun _ _ hf hs=>Qt rfl hf hs ⟨rfl,h⟩)
 exact GC.ends (fun _ _ hf hs=>Qt rfl hf hs ⟨rfl,h⟩)
 refine Zo (Zi (.bool ((x3:Int) == 6)) (Za (GL.nil (Yd h (fun u56 h=>?_) fun u56 h=>?_))))
 refine GC.region (Zm ?_)
 obtain ⟨x57,v58,h⟩:=h
 refine Zv (OV.loadT rfl rfl rfl v58) (Zc h Qlk ?_)
 rintro _ H59 ⟨rfl,h⟩
 exact GL.ends (fun _ _ hf hs=>Qt rfl hf hs ⟨rfl,h⟩)
 refine Zo (Zi (.bool ((x3:Int) == 7)) (Za (GL.nil (Yd h (fun u60 h=>?_) fun u60 h=>?_))))
 refine GC.region (Zm ?_)
 obtain ⟨x61,v62,h⟩:=h
 refine Zv (OV.loadT rfl rfl rfl v62) (Zc h QkE ?_)
 rintro _ H63 ⟨rfl,h⟩
 exact GL.ends (fun _ _ hf hs=>Qt rfl hf hs ⟨rfl,h⟩)
 refine Zo (Zi (.bool ((x3:Int) == 8)) (Za (GL.nil (Yd h (fun u64 h=>?_) fun u64 h=>?_))))
 refine GC.seq (Zo (GL.buildSlice (cs:=[sv [40,105,102,32],sv [32,116,104,101,110,32],sv [32,101,108,115,101,32]]) h trivial rfl (vs:=[(0,sv [40,105,102,32]),(1,sv [32,116,104,101,110,32]),(2,sv [32,101,108,115,101,32])]) rfl ⟨9,fun _=>by kernel_rfl⟩ ?_))
 intro b65 H66 h
 refine Zq (Zm (GL.nil (GC.block (Yp h (fun x67=>[(71,.int .i64 x67),(0,pv p_w),(3,pv (some (b1,0))),(69,slv (Sl.of (some (b65,0)) 3 3)),(70,.int .i64 (Sl.len (Sl.of (some (b65,0)) 3 3):Int))]) ?_))))
 intro x67 H69 J68 h
 refine Zo (Zi (.bool (decide ((x67:Int) < (Sl.len (Sl.of (some (b65,0)) 3 3):Int)))) (GL.nil (GC.seq (Yd h (fun u70 h=>?_) fun u70 h=>?_))))
 refine GC.skip (GC.seq (GC.block (Zo (Zm (Yx h fun p71 h=>?_)))))
 refine Yl h fun x76 h=>?_
 refine Za (Za (GL.nil (Zo (Zm ?_))))
 obtain ⟨p78,hp79,h⟩:=h
 refine Zv (OV.nilCheck (q:=p_w) rfl hp79) (Zf (Zm (Zc h Qo ?_)))
 rintro _ H82 ⟨r80,r81,rfl,h⟩
 refine GL.nil (GC.region (Zm (Zf (Yl h fun x83 h=>?_))))
 refine Zm (Yx h fun p85 h=>?_)
 obtain ⟨x90,v91,h⟩:=h
 refine Zv (OV.loadT rfl rfl rfl v91) (Zc h Q4 ?_)
 rintro _ H92 ⟨rfl,h⟩
 refine GL.nil_to I3 (GC.region (Zi (.int .i64 (w .i64 (x67+1))) (Zm ?_)))
 exact Yj I3 (w .i64 (x67+1)) h
 refine GC.exit_to I3 (GC.region (Zm ?_))
 obtain ⟨p93,hp94,h⟩:=h
 refine Zv (OV.nilCheck (q:=p_w) rfl hp94) (Zf (Zc h Qr ?_))
 rintro _ H96 ⟨r95,rfl,h⟩
 exact GL.ends (fun _ _ hf hs=>Qt rfl hf hs ⟨rfl,h⟩)
 exact GC.ends (fun _ _ hf hs=>Qt rfl hf hs ⟨rfl,h⟩)
def QcZ (C:Ctx) (p_b:Option (Nat×Nat)) (K:Heap→Prop) (H:Heap):Prop:=
 nck p_b fun p1=>
 ldP H (p1.1,p1.2+0) fun x3=>
 ift (Option.isNone x3)
 (∃ p7,p_b=some p7∧cvU p7 (
 cvT Tryz.prog 145 2 p7 (
 nck p_b fun p10=>
 sttG (p10.1,p10.2+0) (pv (some p7)) (fun H12=>
 K H12) H) H) H)
 (nck p_b fun p13=>
 ldP H (p13.1,p13.2+0) fun x15=>
 ∃ p17,x15=some p17∧p_b=some p17∧
 ift false
 (False)
 (K H))
theorem QfT (C p_b K H) (h:QcZ C p_b K H):QaK C p_b K H:=by
 refine Ye Tryz.func170 rfl Tryz.ntmps170 [(0,pv p_b)] (Zo (Zm ?_))
 obtain ⟨p1,hp2,h⟩:=h
 refine Zv (OV.nilCheck (q:=p_b) rfl hp2) (Zf (Yl h fun x3 h=>?_))
 refine Zv (OV.eqlNil (p:=x3) rfl rfl rfl) (GL.nil (Yd h (fun u5 h=>?_) fun u5 h=>?_))
 refine GC.region (Zm (Zm ?_))
 obtain ⟨p7,hp8,hu6,h⟩:=h
 refine Zv (OV.cvU (q:=p_b) (p:=p7) hp8 hu6 rfl rfl rfl ⟨_,rfl,by decide⟩) (Zv (OV.ext Qhe (vs:=[pv (some p7)]) (v:=pv (some p7)) rfl (fun w=>QtD _ w)) ?_)
 obtain ⟨hu9,h⟩:=h
 refine Zv (OV.cvT (len:=2) (p:=p7) hu9 rfl rfl rfl ⟨_,rfl⟩) ?_
 obtain ⟨p10,hp11,h⟩:=h
 refine Zv (OV.nilCheck (q:=p_b) rfl hp11) (Zf (GL.storeG (p:=(p10.1,p10.2+0)) (v:=pv (some p7)) h trivial rfl rfl rfl rfl ?_))
 intro H12 h
 exact GL.ends (fun _ _ hf hs=>Qt rfl hf hs ⟨rfl,h⟩)
 refine Zo (Zm ?_)
 obtain ⟨p13,hp14,h⟩:=h
 refine Zv (OV.nilCheck (q:=p_b) rfl hp14) (Zf (Yl h fun x15 h=>?_))
 refine Zm ?_
 obtain ⟨p17,hp18,hq19,h⟩:=h
 refine Zv (OV.neqSame (p:=x15) (q:=p_b) rfl rfl hp18 hq19 rfl rfl) (GL.nil (Yd h (fun u20 h=>?_) fun u20 h=>?_))
 exact GC.never h
 exact GC.ends (fun _ _ hf hs=>Qt rfl hf hs ⟨rfl,h⟩)
def QlR (C:Ctx) (p_a:Qh) (p_b:Qh) (K:Bool→Heap→Prop) (H:Heap):Prop:=
 nw (Qh.c p_a) (fun b1 H2=>
 nw (Qh.c p_b) (fun b3 H4=>
 ldI H4 .u8 ((b1,0).1,(b1,0).2+0) fun x5=>
 ldI H4 .u8 ((b3,0).1,(b3,0).2+0) fun x7=>
 jn (α:=Bool) (fun b9 H17=>
 jn (α:=Bool) (fun b18 H26=>
 jn (α:=Bool) (fun b27 H37=>
 K b27 H37)
 (fun J28=>ift b18
 (ldL H26 ((b1,0).1,(b1,0).2+3) fun x31=>
 ldL H26 ((b3,0).1,(b3,0).2+3) fun x33=>
 Qf5 C x31 x33 (fun r35 H36=>
 J28 r35 H36) H26)
 (J28 false H26)))
 (fun J19=>ift b9
 (ldS H17 ((b1,0).1,(b1,0).2+2) fun x22=>
 ldS H17 ((b3,0).1,(b3,0).2+2) fun x24=>
 J19 (x22 == x24) H17)
 (J19 false H17)))
 (fun J10=>ift ((x5:Int) == x7)
 (ldI H4 .i64 ((b1,0).1,(b1,0).2+1) fun x13=>
 ldI H4 .i64 ((b3,0).1,(b3,0).2+1) fun x15=>
 J10 ((x13:Int) == x15) H4)
 (J10 false H4))) H2) H
theorem QoV (C p_a p_b K H) (h:QlR C p_a p_b K H):Qbp C p_a p_b K H:=by
 refine Ye Tryz.func185 rfl Tryz.ntmps185 [(0,.agg (Qh.c p_a).toArray),(1,.agg (Qh.c p_b).toArray)] (Zo (GL.box (v:=.agg (Qh.c p_a).toArray) (cs:=Qh.c p_a) h trivial rfl rfl rfl ?_))
 intro b1 H2 h
 refine GL.box (v:=.agg (Qh.c p_b).toArray) (cs:=Qh.c p_b) h trivial rfl rfl rfl ?_
 intro b3 H4 h
 refine Za (GL.nil (Zo (Zf (Yl h fun x5 h=>?_))))
 refine Zf (Yl h fun x7 h=>?_)
 refine Zi (.bool ((x5:Int) == x7)) (Zm ?_)
 obtain ⟨J10,h,hR11⟩:=h
 refine GL.cut (α:=Bool) 6 J10 (fun b9=>[(16,.bool b9),(2,pv (some (b1,0))),(3,pv (some (b3,0)))]) ?_ ?_
 rcases h.em with ⟨u12,h⟩ | ⟨u12,h⟩
 refine Zu u12 Yf ?_
 obtain ⟨x13,v14,h⟩:=h
 refine Zu u12 (Yo v14) (Zu u12 Yf ?_)
 obtain ⟨x15,v16,h⟩:=h
 refine Zu u12 (Yo v16) (Zu u12 (OV.ibin (v:=.bool ((x13:Int) == x15)) rfl rfl rfl) (Zt u12 ?_))
 exact Yj I3 ((x13:Int) == x15) h
 refine Zk u12 (Zk u12 (Zk u12 (Zk u12 (Zk u12 (Zn u12 ?_)))))
 exact Yj I3 false h
 intro b9 H17 h
 replace h:=hR11 b9 H17 h
 refine Zm ?_
 obtain ⟨J19,h,hR20⟩:=h
 refine GL.cut (α:=Bool) 6 J19 (fun b18=>[(23,.bool b18),(2,pv (some (b1,0))),(3,pv (some (b3,0)))]) ?_ ?_
 rcases h.em with ⟨u21,h⟩ | ⟨u21,h⟩
 refine Zu u21 Yf ?_
 obtain ⟨x22,v23,h⟩:=h
 refine Zu u21 (Yo v23) (Zu u21 Yf ?_)
 obtain ⟨x24,v25,h⟩:=h
 refine Zu u21 (Yo v25) (Zu u21 (OV.sbin (a:=x22) (b:=x24) (v:=.bool (x22 == x24)) rfl rfl rfl) (Zt u21 ?_))
 exact Yj I3 (x22 == x24) h
 refine Zk u21 (Zk u21 (Zk u21 (Zk u21 (Zk u21 (Zn u21 ?_)))))
 exact Yj I3 false h
 intro b18 H26 h
 replace h:=hR20 b18 H26 h
 refine Zm ?_
 obtain ⟨J28,h,hR29⟩:=h
 refine GL.cut (α:=Bool) 6 J28 (fun b27=>[(30,.bool b27)]) ?_ ?_
 rcases h.em with ⟨u30,h⟩ | ⟨u30,h⟩
 refine Zu u30 Yf ?_
 obtain ⟨x31,v32,h⟩:=h
 refine Zu u30 (Yo v32) (Zu u30 Yf ?_)
 obtain ⟨x33,v34,h⟩:=h
 refine Zu u30 (Yo v34) (GL.call h (Yt u30) rfl QmQ (vs:=[slv x31,slv x33]) rfl ?_)
 rintro _ H36 ⟨r35,rfl,h⟩
 refine Zt u30 ?_
 exact Yj I3 r35 h
 refine Zk u30 (Zk u30 (Zk u30 (Zk u30 (Zk u30 (Zn u30 ?_)))))
 exact Yj I3 false h
 intro b27 H37 h
 replace h:=hR29 b27 H37 h
 refine Za (GL.nil ?_)
 exact Y1 I3 ⟨b27,rfl,h⟩
def Qif (C:Ctx) (p_t:Qg) (K:Int→Heap→Prop) (H:Heap):Prop:=
 nw (Qg.c p_t) (fun b1 H2=>
 ldL H2 ((b1,0).1,(b1,0).2+1) fun x3=>
 Q3 C x3 (.func (.func 186) (List.toArray []) (List.toArray []):Value) (fun r5 H6=>
 K (w .i64 (1+r5)) H6) H2) H
theorem Qmc (C p_t K H) (h:Qif C p_t K H):Qbj C p_t K H:=by
 refine Ye Tryz.func186 rfl Tryz.ntmps186 [(0,.agg (Qg.c p_t).toArray)] (Zo (GL.box (v:=.agg (Qg.c p_t).toArray) (cs:=Qg.c p_t) h trivial rfl rfl rfl ?_))
 intro b1 H2 h
 refine Za (GL.nil (Zo (Zf (Yl h fun x3 h=>?_))))
 refine Zc h Qh1 ?_
 rintro _ H6 ⟨r5,rfl,h⟩
 refine Zi (.int .i64 (w .i64 (1+r5))) (Za (GL.nil ?_))
 exact Y1 I3 ⟨(w .i64 (1+r5)),rfl,h⟩
def QaO (C:Ctx) (p_s:Sl) (p_f:Value) (K:Int→Heap→Prop) (H:Heap):Prop:=
 lp (α:=Int) 0 H (fun x1 J2 H3=>
 ift (decide ((x1:Int) < (Sl.len p_s:Int)))
 (ixa p_s x1 fun p5=>
 ldT H3 Qd.c (p5.1,p5.2+(x1:Int).toNat*6) fun x10=>
 callU Tryz.prog C p_f [.agg (Qd.c x10).toArray] H3 (fun v H13=>∃ (r12:Bool),v=.bool r12∧
 ift r12
 (K x1 H13)
 (J2 (w .i64 (x1+1)) H13)))
 (K (-1) H3))
theorem Qcb (C p_s p_f K H) (h:QaO C p_s p_f K H):QaV C p_s p_f K H:=by
 refine Ye Tryz.func188 rfl Tryz.ntmps188 [(0,slv p_s),(1,p_f)] (Zo (Za (GL.nil (GC.seq (Zo (Zm (Zq (Zm (GL.nil (GC.block (Yp h (fun x1=>[(8,.int .i64 x1),(0,slv p_s),(1,p_f),(7,.int .i64 (Sl.len p_s:Int))]) ?_)))))))))))
 intro x1 H3 J2 h
 refine Zo (Zi (.bool (decide ((x1:Int) < (Sl.len p_s:Int)))) (GL.nil (GC.seq (Yd h (fun u4 h=>?_) fun u4 h=>?_))))
 refine GC.skip (GC.seq (GC.block (Zo (Zm (Za (GL.nil (Zo (Zm (Zm (Zm (Yx h fun p5 h=>?_)))))))))))
 obtain ⟨x10,v11,h⟩:=h
 refine Zv (OV.loadT rfl rfl rfl v11) (GL.callU (xv:=p_f) (vs:=[.agg (Qd.c x10).toArray]) h trivial rfl rfl rfl ?_)
 rintro _ H13 ⟨r12,rfl,h⟩
 refine GL.nil (Yd h (fun u14 h=>?_) fun u14 h=>?_)
 refine Zo (Zm (Za (GL.nil ?_)))
 exact Y1 I3 ⟨x1,rfl,h⟩
 refine GC.skip_to I3 (GC.region (Zi (.int .i64 (w .i64 (x1+1))) (Zm ?_)))
 exact Yj I3 (w .i64 (x1+1)) h
 refine GC.exit_to I3 (Zo (Za (GL.nil ?_)))
 exact Y1 I3 ⟨(-1),rfl,h⟩
def Qbt (C:Ctx) (p_s:Sl) (p_f:Value) (K:Bool→Heap→Prop) (H:Heap):Prop:=
 QbQ C p_s p_f (fun r1 H2=>
 K (decide ((r1:Int) ≥ 0)) H2) H
theorem QdJ (C p_s p_f K H) (h:Qbt C p_s p_f K H):Qbw C p_s p_f K H:=by
 refine Ye Tryz.func189 rfl Tryz.ntmps189 [(0,slv p_s),(1,p_f)] (Zo (Za (GL.nil (Zo (Zm (Zm (Zc h QeD ?_)))))))
 rintro _ H2 ⟨r1,rfl,h⟩
 refine Zi (.bool (decide ((r1:Int) ≥ 0))) (Za (GL.nil ?_))
 exact Y1 I3 ⟨(decide ((r1:Int) ≥ 0)),rfl,h⟩
def QfM (C:Ctx) (p_x:Str) (v0:Nat×Nat) (K:Bool→Heap→Prop) (H:Heap):Prop:=
 ldV H v0 fun x1=>
 callU Tryz.prog C x1 [sv p_x] H (fun v H4=>∃ (r3:Bool),v=.bool r3∧
 K (!r3) H4)
theorem Qkw (C p_x v0 K H) (h:QfM C p_x v0 K H):Qf7 C p_x v0 K H:=by
 refine Ye Tryz.func190 rfl Tryz.ntmps190 [(0,sv p_x),(1,pv (some v0))] (Zo (Za (GL.nil (Zo (Yl h fun x1 h=>?_)))))
 refine Zm (GL.callU (xv:=x1) (vs:=[sv p_x]) h trivial rfl rfl rfl ?_)
 rintro _ H4 ⟨r3,rfl,h⟩
 refine Zv (OV.not rfl) (Za (GL.nil ?_))
 exact Y1 I3 ⟨(!r3),rfl,h⟩
def Qhq (C:Ctx) (p_x:Ql) (v0:Nat×Nat) (K:Bool→Heap→Prop) (H:Heap):Prop:=
 nw (Ql.c p_x) (fun b1 H2=>
 ldV H2 v0 fun x3=>
 ldT H2 Ql.c (b1,0) fun x5=>
 callU Tryz.prog C x3 [.agg (Ql.c x5).toArray] H2 (fun v H8=>∃ (r7:Bool),v=.bool r7∧
 K (!r7) H8)) H
theorem Qg3 (C p_x v0 K H) (h:Qhq C p_x v0 K H):QhL C p_x v0 K H:=by
 refine Ye Tryz.func191 rfl Tryz.ntmps191 [(0,.agg (Ql.c p_x).toArray),(1,pv (some v0))] (Zo (GL.box (v:=.agg (Ql.c p_x).toArray) (cs:=Ql.c p_x) h trivial rfl rfl rfl ?_))
 intro b1 H2 h
 refine Za (GL.nil (Zo (Yl h fun x3 h=>?_)))
 obtain ⟨x5,hr6,h⟩:=h
 refine Zv (OV.loadT rfl rfl rfl hr6) (GL.callU (xv:=x3) (vs:=[.agg (Ql.c x5).toArray]) h trivial rfl rfl rfl ?_)
 rintro _ H8 ⟨r7,rfl,h⟩
 refine Zv (OV.not rfl) (Za (GL.nil ?_))
 exact Y1 I3 ⟨(!r7),rfl,h⟩
def Qa1 (C:Ctx) (p_s:Sl) (p_f:Value) (K:Int→Heap→Prop) (H:Heap):Prop:=
 lp (α:=Int) 0 H (fun x1 J2 H3=>
 ift (decide ((x1:Int) < (Sl.len p_s:Int)))
 (ixa p_s x1 fun p5=>
 ldT H3 Qe.c (p5.1,p5.2+(x1:Int).toNat*6) fun x10=>
 callU Tryz.prog C p_f [.agg (Qe.c x10).toArray] H3 (fun v H13=>∃ (r12:Bool),v=.bool r12∧
 ift r12
 (K x1 H13)
 (J2 (w .i64 (x1+1)) H13)))
 (K (-1) H3))
theorem QcL (C p_s p_f K H) (h:Qa1 C p_s p_f K H):Qa8 C p_s p_f K H:=by
 refine Ye Tryz.func192 rfl Tryz.ntmps192 [(0,slv p_s),(1,p_f)] (Zo (Za (GL.nil (GC.seq (Zo (Zm (Zq (Zm (GL.nil (GC.block (Yp h (fun x1=>[(8,.int .i64 x1),(0,slv p_s),(1,p_f),(7,.int .i64 (Sl.len p_s:Int))]) ?_)))))))))))
 intro x1 H3 J2 h
 refine Zo (Zi (.bool (decide ((x1:Int) < (Sl.len p_s:Int)))) (GL.nil (GC.seq (Yd h (fun u4 h=>?_) fun u4 h=>?_))))
 refine GC.skip (GC.seq (GC.block (Zo (Zm (Za (GL.nil (Zo (Zm (Zm (Zm (Yx h fun p5 h=>?_)))))))))))
 obtain ⟨x10,v11,h⟩:=h
 refine Zv (OV.loadT rfl rfl rfl v11) (GL.callU (xv:=p_f) (vs:=[.agg (Qe.c x10).toArray]) h trivial rfl rfl rfl ?_)
 rintro _ H13 ⟨r12,rfl,h⟩
 refine GL.nil (Yd h (fun u14 h=>?_) fun u14 h=>?_)
 refine Zo (Zm (Za (GL.nil ?_)))
 exact Y1 I3 ⟨x1,rfl,h⟩
 refine GC.skip_to I3 (GC.region (Zi (.int .i64 (w .i64 (x1+1))) (Zm ?_)))
 exact Yj I3 (w .i64 (x1+1)) h
 refine GC.exit_to I3 (Zo (Za (GL.nil ?_)))
 exact Y1 I3 ⟨(-1),rfl,h⟩
def QgB (C:Ctx) (p_x:Qj) (v0:Nat×Nat) (K:Bool→Heap→Prop) (H:Heap):Prop:=
 nw (Qj.c p_x) (fun b1 H2=>
 ldV H2 v0 fun x3=>
 ldT H2 Qj.c (b1,0) fun x5=>
 callU Tryz.prog C x3 [.agg (Qj.c x5).toArray] H2 (fun v H8=>∃ (r7:Bool),v=.bool r7∧
 K (!r7) H8)) H
theorem Qgs (C p_x v0 K H) (h:QgB C p_x v0 K H):Qhb C p_x v0 K H:=by
 refine Ye Tryz.func193 rfl Tryz.ntmps193 [(0,.agg (Qj.c p_x).toArray),(1,pv (some v0))] (Zo (GL.box (v:=.agg (Qj.c p_x).toArray) (cs:=Qj.c p_x) h trivial rfl rfl rfl ?_))
 intro b1 H2 h
 refine Za (GL.nil (Zo (Yl h fun x3 h=>?_)))
 obtain ⟨x5,hr6,h⟩:=h
 refine Zv (OV.loadT rfl rfl rfl hr6) (GL.callU (xv:=x3) (vs:=[.agg (Qj.c x5).toArray]) h trivial rfl rfl rfl ?_)
 rintro _ H8 ⟨r7,rfl,h⟩
 refine Zv (OV.not rfl) (Za (GL.nil ?_))
 exact Y1 I3 ⟨(!r7),rfl,h⟩
def QfL (C:Ctx) (p_l:Sl) (p_is:Value) (K:Bool→Heap→Prop) (H:Heap):Prop:=
 (Value.cells p_is = #[p_is])∧nw ([p_is]) (fun b1 H2=>
 QQ C p_l (.func (.func 223) (List.toArray []) (List.toArray [pv (some (b1,0))]):Value) (fun r4 H5=>
 K (!r4) H5) H2) H
theorem Qkv (C p_l p_is K H) (h:QfL C p_l p_is K H):Q1 C p_l p_is K H:=by
 refine Ye Tryz.func194 rfl Tryz.ntmps194 [(0,slv p_l),(1,p_is)] (Zo ?_)
 obtain ⟨u3,h⟩:=h
 refine GL.box (v:=p_is) (cs:=[p_is]) h trivial rfl rfl u3 ?_
 intro b1 H2 h
 refine Za (GL.nil (Zo (Zm (Zv (OV.makeFunc (vs:=[]) (us:=[pv (some (b1,0))]) rfl rfl) (Zc h Qa9 ?_)))))
 rintro _ H5 ⟨r4,rfl,h⟩
 refine Zv (OV.not rfl) (Za (GL.nil ?_))
 exact Y1 I3 ⟨(!r4),rfl,h⟩
def Qbm (C:Ctx) (p_s:Sl) (p_f:Value) (K:Int→Heap→Prop) (H:Heap):Prop:=
 lp (α:=Int) 0 H (fun x1 J2 H3=>
 ift (decide ((x1:Int) < (Sl.len p_s:Int)))
 (ixa p_s x1 fun p5=>
 ldT H3 Qk.c (p5.1,p5.2+(x1:Int).toNat*6) fun x10=>
 callU Tryz.prog C p_f [.agg (Qk.c x10).toArray] H3 (fun v H13=>∃ (r12:Bool),v=.bool r12∧
 ift r12
 (K x1 H13)
 (J2 (w .i64 (x1+1)) H13)))
 (K (-1) H3))
theorem Qdy (C p_s p_f K H) (h:Qbm C p_s p_f K H):Qbr C p_s p_f K H:=by
 refine Ye Tryz.func195 rfl Tryz.ntmps195 [(0,slv p_s),(1,p_f)] (Zo (Za (GL.nil (GC.seq (Zo (Zm (Zq (Zm (GL.nil (GC.block (Yp h (fun x1=>[(8,.int .i64 x1),(0,slv p_s),(1,p_f),(7,.int .i64 (Sl.len p_s:Int))]) ?_)))))))))))
 intro x1 H3 J2 h
 refine Zo (Zi (.bool (decide ((x1:Int) < (Sl.len p_s:Int)))) (GL.nil (GC.seq (Yd h (fun u4 h=>?_) fun u4 h=>?_))))
 refine GC.skip (GC.seq (GC.block (Zo (Zm (Za (GL.nil (Zo (Zm (Zm (Zm (Yx h fun p5 h=>?_)))))))))))
 obtain ⟨x10,v11,h⟩:=h
 refine Zv (OV.loadT rfl rfl rfl v11) (GL.callU (xv:=p_f) (vs:=[.agg (Qk.c x10).toArray]) h trivial rfl rfl rfl ?_)
 rintro _ H13 ⟨r12,rfl,h⟩
 refine GL.nil (Yd h (fun u14 h=>?_) fun u14 h=>?_)
 refine Zo (Zm (Za (GL.nil ?_)))
 exact Y1 I3 ⟨x1,rfl,h⟩
 refine GC.skip_to I3 (GC.region (Zi (.int .i64 (w .i64 (x1+1))) (Zm ?_)))
 exact Yj I3 (w .i64 (x1+1)) h
 refine GC.exit_to I3 (Zo (Za (GL.nil ?_)))
 exact Y1 I3 ⟨(-1),rfl,h⟩
def Qba (C:Ctx) (p_s:Sl) (p_f:Value) (K:Bool→Heap→Prop) (H:Heap):Prop:=
 Qbq C p_s p_f (fun r1 H2=>
 K (decide ((r1:Int) ≥ 0)) H2) H
theorem Qc2 (C p_s p_f K H) (h:Qba C p_s p_f K H):Qbc C p_s p_f K H:=by
 refine Ye Tryz.func196 rfl Tryz.ntmps196 [(0,slv p_s),(1,p_f)] (Zo (Za (GL.nil (Zo (Zm (Zm (Zc h QdE ?_)))))))
 rintro _ H2 ⟨r1,rfl,h⟩
 refine Zi (.bool (decide ((r1:Int) ≥ 0))) (Za (GL.nil ?_))
 exact Y1 I3 ⟨(decide ((r1:Int) ≥ 0)),rfl,h⟩
def Qjq (C:Ctx) (p_x:Qb) (v0:Nat×Nat) (K:Bool→Heap→Prop) (H:Heap):Prop:=
 nw (Qb.c p_x) (fun b1 H2=>
 ldV H2 v0 fun x3=>
 ldT H2 Qb.c (b1,0) fun x5=>
 callU Tryz.prog C x3 [.agg (Qb.c x5).toArray] H2 (fun v H8=>∃ (r7:Bool),v=.bool r7∧
 K (!r7) H8)) H
theorem Qi7 (C p_x v0 K H) (h:Qjq C p_x v0 K H):QjD C p_x v0 K H:=by
 refine Ye Tryz.func197 rfl Tryz.ntmps197 [(0,.agg (Qb.c p_x).toArray),(1,pv (some v0))] (Zo (GL.box (v:=.agg (Qb.c p_x).toArray) (cs:=Qb.c p_x) h trivial rfl rfl rfl ?_))
 intro b1 H2 h
 refine Za (GL.nil (Zo (Yl h fun x3 h=>?_)))
 obtain ⟨x5,hr6,h⟩:=h
 refine Zv (OV.loadT rfl rfl rfl hr6) (GL.callU (xv:=x3) (vs:=[.agg (Qb.c x5).toArray]) h trivial rfl rfl rfl ?_)
 rintro _ H8 ⟨r7,rfl,h⟩
 refine Zv (OV.not rfl) (Za (GL.nil ?_))
 exact Y1 I3 ⟨(!r7),rfl,h⟩
def Qmz (C:Ctx) (p_e:Qb) (p_pattern:Bool) (K:Bool→Heap→Prop) (H:Heap):Prop:=
 nw (Qb.c p_e) (fun b1 H2=>
 nw ([.bool p_pattern]) (fun b3 H4=>
 ldL H4 ((b1,0).1,(b1,0).2+8) fun x5=>
 jn (α:=Bool) (fun x8 H9=>
 jn (α:=Bool) (fun b102 H110=>
 jn (α:=Bool) (fun b111 H119=>
 K b111 H119)
 (fun J112=>ift b102
 (ldL H110 ((b1,0).1,(b1,0).2+8) fun x115=>
 QI C x115 (.func (.func 228) (List.toArray []) (List.toArray [pv (some (b3,0))]):Value) (fun r117 H118=>
 J112 r117 H118) H110)
 (J112 false H110)))
 (fun J103=>ift x8
 (ldT H9 Qh.c ((b1,0).1,(b1,0).2+4) fun x106=>
 Qd1 C x106 (fun r108 H109=>
 J103 r108 H109) H9)
 (J103 false H9)))
 (fun J7=>ldI H4 .u8 ((b1,0).1,(b1,0).2+0) fun x11=>
 ift ((x11:Int) == 1)
 (ldI H4 .u8 (((b1,0).1,(b1,0).2+4).1,((b1,0).1,(b1,0).2+4).2+0) fun x14=>
 jn (α:=Bool) (fun b17 H25=>
 jn (α:=Bool) (fun b27 H33=>
 K b27 H33)
 (fun J28=>ift (b17 && (((Sl.len x5:Int):Int) == 0))
 (ldS H25 ((b1,0).1,(b1,0).2+3) fun x31=>
 J28 (x31 == ([]:Str)) H25)
 (J28 false H25)))
 (fun J18=>ift ((decide ((x14:Int) ≥ 1)) && (decide ((x14:Int)≤4)))
 (ldT H4 Qh.c ((b1,0).1,(b1,0).2+4) fun x21=>
 QbI C x21 (fun r23 H24=>
 J18 ((r23:Int) == 0) H24) H4)
 (J18 false H4)))
 (ift ((x11:Int) == 2)
 (ldS H4 ((b1,0).1,(b1,0).2+3) fun x35=>
 Qex C x35 (fun r37 H38=>
 J7 (r37 && (((Sl.len x5:Int):Int) == 0)) H38) H4)
 (ift ((x11:Int) == 3)
 (ldB H4 (b3,0) fun x41=>
 jn (α:=Bool) (fun b43 H49=>
 J7 (b43 && (((Sl.len x5:Int):Int) == 0)) H49)
 (fun J44=>ift x41
 (ldS H4 ((b1,0).1,(b1,0).2+3) fun x47=>
 J44 (x47 == ([]:Str)) H4)
 (J44 false H4)))
 (ift ((x11:Int) == 4)
 (ldS H4 ((b1,0).1,(b1,0).2+3) fun x52=>
 J7 (((x52 == ([]:Str)) && (((Sl.len x5:Int):Int) != 1)) && (decide (((Sl.len x5:Int):Int)≤16))) H4)
 (ift ((x11:Int) == 5)
 (ldS H4 ((b1,0).1,(b1,0).2+3) fun x57=>
 Qe4 C x57 (fun r59 H60=>
 J7 (r59 && (decide (((Sl.len x5:Int):Int)≤8))) H60) H4)
 (ift ((x11:Int) == 6)
 (dr H4 fun Hs63=>
 ldS Hs63 ((b1,0).1,(b1,0).2+3) fun x65=>
 QjG C (fun r68 H69=>
 Heap.le Hs63 H69∧
 lkM sv (fun x:Int=>(.int .i64 x:Value)) 0 r68 x65 (fun x71 is72=>
 Heap.le Hs63 H69∧
 ldB H69 (b3,0) fun x74=>
 J7 (((!x74) && (decide ((x71:Int) > 0))) && ((x71:Int) == (Sl.len x5:Int))) H69) H69) H4)
 (ift ((x11:Int) == 7)
 (ldB H4 (b3,0) fun x79=>
 jn (α:=Bool) (fun b81 H89=>
 J7 (b81 && (((Sl.len x5:Int):Int) == 1)) H89)
 (fun J82=>ift (!x79)
 (ldS H4 ((b1,0).1,(b1,0).2+3) fun x85=>
 Qa3 C x85 (fun r87 H88=>
 J82 r87 H88) H4)
 (J82 false H4)))
 (ift ((x11:Int) == 8)
 (ldB H4 (b3,0) fun x92=>
 jn (α:=Bool) (fun b94 H100=>
 J7 (b94 && (((Sl.len x5:Int):Int) == 3)) H100)
 (fun J95=>ift (!x92)
 (ldS H4 ((b1,0).1,(b1,0).2+3) fun x98=>
 J95 (x98 == ([]:Str)) H4)
 (J95 false H4)))
 (J7 false H4)))))))))) H2) H
theorem QpH (C p_e p_pattern K H) (h:Qmz C p_e p_pattern K H):Qci C p_e p_pattern K H:=by
 refine Ye Tryz.func198 rfl Tryz.ntmps198 [(0,.agg (Qb.c p_e).toArray),(1,.bool p_pattern)] (Zo (GL.box (v:=.agg (Qb.c p_e).toArray) (cs:=Qb.c p_e) h trivial rfl rfl rfl ?_))
 intro b1 H2 h
 refine GL.box (v:=.bool p_pattern) (cs:=[.bool p_pattern]) h trivial rfl rfl rfl ?_
 intro b3 H4 h
 refine Za (GL.nil (Zo (Zf (Yl h fun x5 h=>?_))))
 refine Zq (Za (GL.nil (Zo (Za (GL.nil ?_)))))
 obtain ⟨J7,h,hR10⟩:=h
 refine GC.join (α:=Bool) J7 (fun x8=>[(6,.bool x8),(2,pv (some (b1,0))),(3,pv (some (b3,0)))]) ?_ ?_
 refine Zo (Zf (Yl h fun x11 h=>?_))
 refine GL.nil (GC.block (Zo (Zi (.bool ((x11:Int) == 1)) (Za (GL.nil (Yd h (fun u13 h=>?_) fun u13 h=>?_))))))
 refine Zo (Zf (Zf (Yl h fun x14 h=>?_)))
 refine Za (GL.nil (Zo (Zm (Zi (.bool (decide ((x14:Int) ≥ 1))) (Zm (GL.cut0 3 [(24,.bool ((decide ((x14:Int) ≥ 1)) && (decide ((x14:Int)≤4)))),(2,pv (some (b1,0))),(5,.int .i64 (Sl.len x5:Int))] ?_ ?_))))))
 rcases Zb (decide ((x14:Int) ≥ 1)) with u16 | u16
 refine Zu u16 Ym (Zu u16 (OV.ibin (v:=.bool (decide ((x14:Int)≤4))) rfl rfl rfl) (Zt u16 ?_))
 exact GL.jump0 I3 () rfl ⟨(by rw [u16]; rfl),rfl,rfl,trivial⟩
 refine Zk u16 (Zk u16 (Zn u16 ?_))
 exact GL.jump0 I3 () rfl ⟨(by rw [u16]; rfl),rfl,rfl,trivial⟩
 refine Zm ?_
 obtain ⟨J18,h,hR19⟩:=h
 refine GL.cut (α:=Bool) 5 J18 (fun b17=>[(30,.bool b17),(2,pv (some (b1,0))),(5,.int .i64 (Sl.len x5:Int))]) ?_ ?_
 rcases h.em with ⟨u20,h⟩ | ⟨u20,h⟩
 refine Zu u20 Yf ?_
 obtain ⟨x21,v22,h⟩:=h
 refine Zu u20 (OV.loadT rfl rfl rfl v22) (GL.call h (Yt u20) rfl QkP (vs:=[.agg (Qh.c x21).toArray]) rfl ?_)
 rintro _ H24 ⟨r23,rfl,h⟩
 refine Zu u20 (OV.ibin (v:=.bool ((r23:Int) == 0)) rfl rfl rfl) (Zt u20 ?_)
 exact Yj I3 ((r23:Int) == 0) h
 refine Zk u20 (Zk u20 (Zk u20 (Zk u20 (Zn u20 ?_))))
 exact Yj I3 false h
 intro b17 H25 h
 replace h:=hR19 b17 H25 h
 refine Zm (GL.cut0 3 [(34,.bool (b17 && (((Sl.len x5:Int):Int) == 0))),(2,pv (some (b1,0)))] ?_ ?_)
 rcases Bool.eq_false_or_eq_true b17 with u26 | u26
 refine Zu u26 Ym (Zu u26 (OV.ibin (v:=.bool (((Sl.len x5:Int):Int) == 0)) rfl rfl rfl) (Zt u26 ?_))
 exact GL.jump0 I3 () rfl ⟨(by rw [u26]; rfl),rfl,trivial⟩
 refine Zk u26 (Zk u26 (Zn u26 ?_))
 exact GL.jump0 I3 () rfl ⟨(by rw [u26]; rfl),rfl,trivial⟩
 refine Zm ?_
 obtain ⟨J28,h,hR29⟩:=h
 refine GL.cut (α:=Bool) 4 J28 (fun b27=>[(39,.bool b27)]) ?_ ?_
 rcases h.em with ⟨u30,h⟩ | ⟨u30,h⟩
 refine Zu u30 Yf ?_
 obtain ⟨x31,v32,h⟩:=h
 refine Zu u30 (Yo v32) (Zu u30 (OV.sbin (a:=x31) (b:=([]:Str)) (v:=.bool (x31 == ([]:Str))) rfl rfl rfl) (Zt u30 ?_))
 exact Yj I3 (x31 == ([]:Str)) h
 refine Zk u30 (Zk u30 (Zk u30 (Zn u30 ?_)))
 exact Yj I3 false h
 intro b27 H33 h
 replace h:=hR29 b27 H33 h
 refine Za (GL.nil ?_)
 exact Y1 I3 ⟨b27,rfl,h⟩
 refine Zo (Zi (.bool ((x11:Int) == 2)) (Za (GL.nil (Yd h (fun u34 h=>?_) fun u34 h=>?_))))
 refine GC.region (Zf (Yl h fun x35 h=>?_))
 refine Zc h QiU ?_
 rintro _ H38 ⟨r37,rfl,h⟩
 refine Zm (GL.cut0 3 [(48,.bool (r37 && (((Sl.len x5:Int):Int) == 0))),(2,pv (some (b1,0))),(3,pv (some (b3,0)))] ?_ ?_)
 rcases Bool.eq_false_or_eq_true r37 with u39 | u39
 refine Zu u39 Ym (Zu u39 (OV.ibin (v:=.bool (((Sl.len x5:Int):Int) == 0)) rfl rfl rfl) (Zt u39 ?_))
 exact GL.jump0 I3 () rfl ⟨(by rw [u39]; rfl),rfl,rfl,trivial⟩
 refine Zk u39 (Zk u39 (Zn u39 ?_))
 exact GL.jump0 I3 () rfl ⟨(by rw [u39]; rfl),rfl,rfl,trivial⟩
 refine Za ?_
 exact Yj I3 (r37 && (((Sl.len x5:Int):Int) == 0)) h
 refine Zo (Zi (.bool ((x11:Int) == 3)) (Za (GL.nil (Yd h (fun u40 h=>?_) fun u40 h=>?_))))
 refine GC.region (Yl h fun x41 h=>?_)
 refine Zm ?_
 obtain ⟨J44,h,hR45⟩:=h
 refine GL.cut (α:=Bool) 4 J44 (fun b43=>[(56,.bool b43),(2,pv (some (b1,0))),(3,pv (some (b3,0))),(5,.int .i64 (Sl.len x5:Int))]) ?_ ?_
 rcases h.em with ⟨u46,h⟩ | ⟨u46,h⟩
 refine Zu u46 Yf ?_
 obtain ⟨x47,v48,h⟩:=h
 refine Zu u46 (Yo v48) (Zu u46 (OV.sbin (a:=x47) (b:=([]:Str)) (v:=.bool (x47 == ([]:Str))) rfl rfl rfl) (Zt u46 ?_))
 exact Yj I3 (x47 == ([]:Str)) h
 refine Zk u46 (Zk u46 (Zk u46 (Zn u46 ?_)))
 exact Yj I3 false h
 intro b43 H49 h
 replace h:=hR45 b43 H49 h
 refine Zm (GL.cut0 3 [(60,.bool (b43 && (((Sl.len x5:Int):Int) == 0))),(2,pv (some (b1,0))),(3,pv (some (b3,0)))] ?_ ?_)
 rcases Bool.eq_false_or_eq_true b43 with u50 | u50
 refine Zu u50 Ym (Zu u50 (OV.ibin (v:=.bool (((Sl.len x5:Int):Int) == 0)) rfl rfl rfl) (Zt u50 ?_))
 exact GL.jump0 I3 () rfl ⟨(by rw [u50]; rfl),rfl,rfl,trivial⟩
 refine Zk u50 (Zk u50 (Zn u50 ?_))
 exact GL.jump0 I3 () rfl ⟨(by rw [u50]; rfl),rfl,rfl,trivial⟩
 refine Za ?_
 exact Yj I3 (b43 && (((Sl.len x5:Int):Int) == 0)) h
 refine Zo (Zi (.bool ((x11:Int) == 4)) (Za (GL.nil (Yd h (fun u51 h=>?_) fun u51 h=>?_))))
 refine GC.region (Zf (Yl h fun x52 h=>?_))
 refine Zv (OV.sbin (a:=x52) (b:=([]:Str)) (v:=.bool (x52 == ([]:Str))) rfl rfl rfl) (Zm (GL.cut0 3 [(69,.bool ((x52 == ([]:Str)) && (((Sl.len x5:Int):Int) != 1))),(2,pv (some (b1,0))),(3,pv (some (b3,0))),(5,.int .i64 (Sl.len x5:Int))] ?_ ?_))
 rcases Zb (x52 == ([]:Str)) with u54 | u54
 refine Zu u54 Ym (Zu u54 (OV.ibin (v:=.bool (((Sl.len x5:Int):Int) != 1)) rfl rfl rfl) (Zt u54 ?_))
 exact GL.jump0 I3 () rfl ⟨(by rw [u54]; rfl),rfl,rfl,rfl,trivial⟩
 refine Zk u54 (Zk u54 (Zn u54 ?_))
 exact GL.jump0 I3 () rfl ⟨(by rw [u54]; rfl),rfl,rfl,rfl,trivial⟩
 refine Zm (GL.cut0 3 [(73,.bool (((x52 == ([]:Str)) && (((Sl.len x5:Int):Int) != 1)) && (decide (((Sl.len x5:Int):Int)≤16)))),(2,pv (some (b1,0))),(3,pv (some (b3,0)))] ?_ ?_)
 rcases Zb ((x52 == ([]:Str)) && (((Sl.len x5:Int):Int) != 1)) with u55 | u55
 refine Zu u55 Ym (Zu u55 (OV.ibin (v:=.bool (decide (((Sl.len x5:Int):Int)≤16))) rfl rfl rfl) (Zt u55 ?_))
 exact GL.jump0 I3 () rfl ⟨(by rw [u55]; rfl),rfl,rfl,trivial⟩
 refine Zk u55 (Zk u55 (Zn u55 ?_))
 exact GL.jump0 I3 () rfl ⟨(by rw [u55]; rfl),rfl,rfl,trivial⟩
 refine Za ?_
 exact Yj I3 (((x52 == ([]:Str)) && (((Sl.len x5:Int):Int) != 1)) && (decide (((Sl.len x5:Int):Int)≤16))) h
 refine Zo (Zi (.bool ((x11:Int) == 5)) (Za (GL.nil (Yd h (fun u56 h=>?_) fun u56 h=>?_))))
 refine GC.region (Zf (Yl h fun x57 h=>?_))
 refine Zc h QgL ?_
 rintro _ H60 ⟨r59,rfl,h⟩
 refine Zm (GL.cut0 3 [(82,.bool (r59 && (decide (((Sl.len x5:Int):Int)≤8)))),(2,pv (some (b1,0))),(3,pv (some (b3,0)))] ?_ ?_)
 rcases Bool.eq_false_or_eq_true r59 with u61 | u61
 refine Zu u61 Ym (Zu u61 (OV.ibin (v:=.bool (decide (((Sl.len x5:Int):Int)≤8))) rfl rfl rfl) (Zt u61 ?_))
 exact GL.jump0 I3 () rfl ⟨(by rw [u61]; rfl),rfl,rfl,trivial⟩
 refine Zk u61 (Zk u61 (Zn u61 ?_))
 exact GL.jump0 I3 () rfl ⟨(by rw [u61]; rfl),rfl,rfl,trivial⟩
 refine Za ?_
 exact Yj I3 (r59 && (decide (((Sl.len x5:Int):Int)≤8))) h
 refine Zo (Zi (.bool ((x11:Int) == 6)) (Za (GL.nil (Yd h (fun u62 h=>?_) fun u62 h=>?_))))
 refine GC.seq ?_
 obtain ⟨Hs63,hle64,h⟩:=h
 refine GC.any (Hs:=Hs63) (by kernel_rfl) hle64 (Zp 1 rfl Yf ?_)
 obtain ⟨x65,v66,h⟩:=h
 refine Zp 2 rfl (Yo v66) (GA.eff 0 rfl (by kernel_rfl) (Zc h Qpz ?_))
 rintro _ H69 ⟨r68,rfl,h⟩
 obtain ⟨hle67,h⟩:=h
 refine GA.back hle67 (GA.eff 3 rfl (by kernel_rfl) ?_)
 obtain ⟨x71,is72,v73,h⟩:=h
 refine Zv (OV.lookup1 (v:=.int .i64 x71) (ke:=sv) (enc:=(fun x:Int=>(.int .i64 x:Value))) (z:=0) (q:=r68) (k:=x65) (x:=x71) (b:=is72) rfl v73 rfl rfl rfl (kText rfl) rfl) ?_
 obtain ⟨hle70,h⟩:=h
 refine GA.back hle70 (Zp 4 rfl Ya (GA.done (by kernel_rfl) (GL.nil (GC.region (Yl h fun x74 h=>?_)))))
 refine Zv (OV.not rfl) (Zm (GL.cut0 3 [(94,.bool ((!x74) && (decide ((x71:Int) > 0)))),(2,pv (some (b1,0))),(3,pv (some (b3,0))),(5,.int .i64 (Sl.len x5:Int)),(8,.int .i64 x71)] ?_ ?_))
 rcases Zb (!x74) with u76 | u76
 refine Zu u76 Ym (Zu u76 (OV.ibin (v:=.bool (decide ((x71:Int) > 0))) rfl rfl rfl) (Zt u76 ?_))
 exact GL.jump0 I3 () rfl ⟨(by rw [u76]; rfl),rfl,rfl,rfl,rfl,trivial⟩
 refine Zk u76 (Zk u76 (Zn u76 ?_))
 exact GL.jump0 I3 () rfl ⟨(by rw [u76]; rfl),rfl,rfl,rfl,rfl,trivial⟩
 refine Zm (GL.cut0 4 [(99,.bool (((!x74) && (decide ((x71:Int) > 0))) && ((x71:Int) == (Sl.len x5:Int)))),(2,pv (some (b1,0))),(3,pv (some (b3,0)))] ?_ ?_)
 rcases Zb ((!x74) && (decide ((x71:Int) > 0))) with u77 | u77
 refine Zu u77 Ym (Zu u77 Ym (Zu u77 (OV.ibin (v:=.bool ((x71:Int) == (Sl.len x5:Int))) rfl rfl rfl) (Zt u77 ?_)))
 exact GL.jump0 I3 () rfl ⟨(by rw [u77]; rfl),rfl,rfl,trivial⟩
 refine Zk u77 (Zk u77 (Zk u77 (Zn u77 ?_)))
 exact GL.jump0 I3 () rfl ⟨(by rw [u77]; rfl),rfl,rfl,trivial⟩
 refine Za ?_
 exact Yj I3 (((!x74) && (decide ((x71:Int) > 0))) && ((x71:Int) == (Sl.len x5:Int))) h
 refine Zo (Zi (.bool ((x11:Int) == 7)) (Za (GL.nil (Yd h (fun u78 h=>?_) fun u78 h=>?_))))
 refine GC.region (Yl h fun x79 h=>?_)
 refine Zv (OV.not rfl) (Zm ?_)
 obtain ⟨J82,h,hR83⟩:=h
 refine GL.cut (α:=Bool) 4 J82 (fun b81=>[(108,.bool b81),(2,pv (some (b1,0))),(3,pv (some (b3,0))),(5,.int .i64 (Sl.len x5:Int))]) ?_ ?_
 rcases h.em with ⟨u84,h⟩ | ⟨u84,h⟩
 refine Zu u84 Yf ?_
 obtain ⟨x85,v86,h⟩:=h
 refine Zu u84 (Yo v86) (GL.call h (Yt u84) rfl Qbf (vs:=[sv x85]) rfl ?_)
 rintro _ H88 ⟨r87,rfl,h⟩
 refine Zt u84 ?_
 exact Yj I3 r87 h
 refine Zk u84 (Zk u84 (Zk u84 (Zn u84 ?_)))
 exact Yj I3 false h
 intro b81 H89 h
 replace h:=hR83 b81 H89 h
 refine Zm (GL.cut0 3 [(112,.bool (b81 && (((Sl.len x5:Int):Int) == 1))),(2,pv (some (b1,0))),(3,pv (some (b3,0)))] ?_ ?_)
 rcases Bool.eq_false_or_eq_true b81 with u90 | u90
 refine Zu u90 Ym (Zu u90 (OV.ibin (v:=.bool (((Sl.len x5:Int):Int) == 1)) rfl rfl rfl) (Zt u90 ?_))
 exact GL.jump0 I3 () rfl ⟨(by rw [u90]; rfl),rfl,rfl,trivial⟩
 refine Zk u90 (Zk u90 (Zn u90 ?_))
 exact GL.jump0 I3 () rfl ⟨(by rw [u90]; rfl),rfl,rfl,trivial⟩
 refine Za ?_
 exact Yj I3 (b81 && (((Sl.len x5:Int):Int) == 1)) h
 refine Zo (Zi (.bool ((x11:Int) == 8)) (Za (GL.nil (Yd h (fun u91 h=>?_) fun u91 h=>?_))))
 refine GC.region (Yl h fun x92 h=>?_)
 refine Zv (OV.not rfl) (Zm ?_)
 obtain ⟨J95,h,hR96⟩:=h
 refine GL.cut (α:=Bool) 4 J95 (fun b94=>[(121,.bool b94),(2,pv (some (b1,0))),(3,pv (some (b3,0))),(5,.int .i64 (Sl.len x5:Int))]) ?_ ?_
 rcases h.em with ⟨u97,h⟩ | ⟨u97,h⟩
 refine Zu u97 Yf ?_
 obtain ⟨x98,v99,h⟩:=h
 refine Zu u97 (Yo v99) (Zu u97 (OV.sbin (a:=x98) (b:=([]:Str)) (v:=.bool (x98 == ([]:Str))) rfl rfl rfl) (Zt u97 ?_))
 exact Yj I3 (x98 == ([]:Str)) h
 refine Zk u97 (Zk u97 (Zk u97 (Zn u97 ?_)))
 exact Yj I3 false h
 intro b94 H100 h
 replace h:=hR96 b94 H100 h
 refine Zm (GL.cut0 3 [(125,.bool (b94 && (((Sl.len x5:Int):Int) == 3))),(2,pv (some (b1,0))),(3,pv (some (b3,0)))] ?_ ?_)
 rcases Bool.eq_false_or_eq_true b94 with u101 | u101
 refine Zu u101 Ym (Zu u101 (OV.ibin (v:=.bool (((Sl.len x5:Int):Int) == 3)) rfl rfl rfl) (Zt u101 ?_))
 exact GL.jump0 I3 () rfl ⟨(by rw [u101]; rfl),rfl,rfl,trivial⟩
 refine Zk u101 (Zk u101 (Zn u101 ?_))
 exact GL.jump0 I3 () rfl ⟨(by rw [u101]; rfl),rfl,rfl,trivial⟩
 refine Za ?_
 exact Yj I3 (b94 && (((Sl.len x5:Int):Int) == 3)) h
 exact Yk I3 false h
 intro x8 H9 h
 replace h:=hR10 x8 H9 h
 refine Zo (Zm (Zm ?_))
 obtain ⟨J103,h,hR104⟩:=h
 refine GL.cut (α:=Bool) 4 J103 (fun b102=>[(131,.bool b102),(2,pv (some (b1,0))),(3,pv (some (b3,0)))]) ?_ ?_
 rcases h.em with ⟨u105,h⟩ | ⟨u105,h⟩
 refine Zu u105 Yf ?_
 obtain ⟨x106,v107,h⟩:=h
 refine Zu u105 (OV.loadT rfl rfl rfl v107) (GL.call h (Yt u105) rfl Qp2 (vs:=[.agg (Qh.c x106).toArray]) rfl ?_)
 rintro _ H109 ⟨r108,rfl,h⟩
 refine Zt u105 ?_
 exact Yj I3 r108 h
 refine Zk u105 (Zk u105 (Zk u105 (Zn u105 ?_)))
 exact Yj I3 false h
 intro b102 H110 h
 replace h:=hR104 b102 H110 h
 refine Zm ?_
 obtain ⟨J112,h,hR113⟩:=h
 refine GL.cut (α:=Bool) 5 J112 (fun b111=>[(137,.bool b111)]) ?_ ?_
 rcases h.em with ⟨u114,h⟩ | ⟨u114,h⟩
 refine Zu u114 Yf ?_
 obtain ⟨x115,v116,h⟩:=h
 refine Zu u114 (Yo v116) (Zu u114 (OV.makeFunc (vs:=[]) (us:=[pv (some (b3,0))]) rfl rfl) (GL.call h (Yt u114) rfl QdH (vs:=[slv x115,.func (.func 228) (List.toArray []) (List.toArray [pv (some (b3,0))])]) rfl ?_))
 rintro _ H118 ⟨r117,rfl,h⟩
 refine Zt u114 ?_
 exact Yj I3 r117 h
 refine Zk u114 (Zk u114 (Zk u114 (Zk u114 (Zn u114 ?_))))
 exact Yj I3 false h
 intro b111 H119 h
 replace h:=hR113 b111 H119 h
 refine Za (GL.nil ?_)
 exact Y1 I3 ⟨b111,rfl,h⟩
def Qbg (C:Ctx) (p_s:Sl) (p_f:Value) (K:Int→Heap→Prop) (H:Heap):Prop:=
 lp (α:=Int) 0 H (fun x1 J2 H3=>
 ift (decide ((x1:Int) < (Sl.len p_s:Int)))
 (ixa p_s x1 fun p5=>
 ldT H3 Qn.c (p5.1,p5.2+(x1:Int).toNat*4) fun x10=>
 callU Tryz.prog C p_f [.agg (Qn.c x10).toArray] H3 (fun v H13=>∃ (r12:Bool),v=.bool r12∧
 ift r12
 (K x1 H13)
 (J2 (w .i64 (x1+1)) H13)))
 (K (-1) H3))
theorem Qc7 (C p_s p_f K H) (h:Qbg C p_s p_f K H):Qbh C p_s p_f K H:=by
 refine Ye Tryz.func199 rfl Tryz.ntmps199 [(0,slv p_s),(1,p_f)] (Zo (Za (GL.nil (GC.seq (Zo (Zm (Zq (Zm (GL.nil (GC.block (Yp h (fun x1=>[(8,.int .i64 x1),(0,slv p_s),(1,p_f),(7,.int .i64 (Sl.len p_s:Int))]) ?_)))))))))))
 intro x1 H3 J2 h
 refine Zo (Zi (.bool (decide ((x1:Int) < (Sl.len p_s:Int)))) (GL.nil (GC.seq (Yd h (fun u4 h=>?_) fun u4 h=>?_))))
 refine GC.skip (GC.seq (GC.block (Zo (Zm (Za (GL.nil (Zo (Zm (Zm (Zm (Yx h fun p5 h=>?_)))))))))))
 obtain ⟨x10,v11,h⟩:=h
 refine Zv (OV.loadT rfl rfl rfl v11) (GL.callU (xv:=p_f) (vs:=[.agg (Qn.c x10).toArray]) h trivial rfl rfl rfl ?_)
 rintro _ H13 ⟨r12,rfl,h⟩
 refine GL.nil (Yd h (fun u14 h=>?_) fun u14 h=>?_)
 refine Zo (Zm (Za (GL.nil ?_)))
 exact Y1 I3 ⟨x1,rfl,h⟩
 refine GC.skip_to I3 (GC.region (Zi (.int .i64 (w .i64 (x1+1))) (Zm ?_)))
 exact Yj I3 (w .i64 (x1+1)) h
 refine GC.exit_to I3 (Zo (Za (GL.nil ?_)))
 exact Y1 I3 ⟨(-1),rfl,h⟩
def QaN (C:Ctx) (p_s:Sl) (p_f:Value) (K:Int→Heap→Prop) (H:Heap):Prop:=
 lp (α:=Int) 0 H (fun x1 J2 H3=>
 ift (decide ((x1:Int) < (Sl.len p_s:Int)))
 (ixa p_s x1 fun p5=>
 ldT H3 Qi.c (p5.1,p5.2+(x1:Int).toNat*5) fun x10=>
 callU Tryz.prog C p_f [.agg (Qi.c x10).toArray] H3 (fun v H13=>∃ (r12:Bool),v=.bool r12∧
 ift r12
 (K x1 H13)
 (J2 (w .i64 (x1+1)) H13)))
 (K (-1) H3))
theorem Qca (C p_s p_f K H) (h:QaN C p_s p_f K H):QaU C p_s p_f K H:=by
 refine Ye Tryz.func200 rfl Tryz.ntmps200 [(0,slv p_s),(1,p_f)] (Zo (Za (GL.nil (GC.seq (Zo (Zm (Zq (Zm (GL.nil (GC.block (Yp h (fun x1=>[(8,.int .i64 x1),(0,slv p_s),(1,p_f),(7,.int .i64 (Sl.len p_s:Int))]) ?_)))))))))))
 intro x1 H3 J2 h
 refine Zo (Zi (.bool (decide ((x1:Int) < (Sl.len p_s:Int)))) (GL.nil (GC.seq (Yd h (fun u4 h=>?_) fun u4 h=>?_))))
 refine GC.skip (GC.seq (GC.block (Zo (Zm (Za (GL.nil (Zo (Zm (Zm (Zm (Yx h fun p5 h=>?_)))))))))))
 obtain ⟨x10,v11,h⟩:=h
 refine Zv (OV.loadT rfl rfl rfl v11) (GL.callU (xv:=p_f) (vs:=[.agg (Qi.c x10).toArray]) h trivial rfl rfl rfl ?_)
 rintro _ H13 ⟨r12,rfl,h⟩
 refine GL.nil (Yd h (fun u14 h=>?_) fun u14 h=>?_)
 refine Zo (Zm (Za (GL.nil ?_)))
 exact Y1 I3 ⟨x1,rfl,h⟩
 refine GC.skip_to I3 (GC.region (Zi (.int .i64 (w .i64 (x1+1))) (Zm ?_)))
 exact Yj I3 (w .i64 (x1+1)) h
 refine GC.exit_to I3 (Zo (Za (GL.nil ?_)))
 exact Y1 I3 ⟨(-1),rfl,h⟩
def QX (C:Ctx) (p_s:Sl) (p_f:Value) (K:Int→Heap→Prop) (H:Heap):Prop:=
 lp (α:=Int) 0 H (fun x1 J2 H3=>
 ift (decide ((x1:Int) < (Sl.len p_s:Int)))
 (ixa p_s x1 fun p5=>
 ldT H3 Qj.c (p5.1,p5.2+(x1:Int).toNat*3) fun x10=>
 callU Tryz.prog C p_f [.agg (Qj.c x10).toArray] H3 (fun v H13=>∃ (r12:Bool),v=.bool r12∧
 ift r12
 (K x1 H13)
 (J2 (w .i64 (x1+1)) H13)))
 (K (-1) H3))
theorem Qax (C p_s p_f K H) (h:QX C p_s p_f K H):QaG C p_s p_f K H:=by
 refine Ye Tryz.func201 rfl Tryz.ntmps201 [(0,slv p_s),(1,p_f)] (Zo (Za (GL.nil (GC.seq (Zo (Zm (Zq (Zm (GL.nil (GC.block (Yp h (fun x1=>[(8,.int .i64 x1),(0,slv p_s),(1,p_f),(7,.int .i64 (Sl.len p_s:Int))]) ?_)))))))))))
 intro x1 H3 J2 h
 refine Zo (Zi (.bool (decide ((x1:Int) < (Sl.len p_s:Int)))) (GL.nil (GC.seq (Yd h (fun u4 h=>?_) fun u4 h=>?_))))
 refine GC.skip (GC.seq (GC.block (Zo (Zm (Za (GL.nil (Zo (Zm (Zm (Zm (Yx h fun p5 h=>?_)))))))))))
 obtain ⟨x10,v11,h⟩:=h
 refine Zv (OV.loadT rfl rfl rfl v11) (GL.callU (xv:=p_f) (vs:=[.agg (Qj.c x10).toArray]) h trivial rfl rfl rfl ?_)
 rintro _ H13 ⟨r12,rfl,h⟩
 refine GL.nil (Yd h (fun u14 h=>?_) fun u14 h=>?_)
 refine Zo (Zm (Za (GL.nil ?_)))
 exact Y1 I3 ⟨x1,rfl,h⟩
 refine GC.skip_to I3 (GC.region (Zi (.int .i64 (w .i64 (x1+1))) (Zm ?_)))
 exact Yj I3 (w .i64 (x1+1)) h
 refine GC.exit_to I3 (Zo (Za (GL.nil ?_)))
 exact Y1 I3 ⟨(-1),rfl,h⟩
def Qaf (C:Ctx) (p_s:Sl) (p_f:Value) (K:Bool→Heap→Prop) (H:Heap):Prop:=
 Qbs C p_s p_f (fun r1 H2=>
 K (decide ((r1:Int) ≥ 0)) H2) H
theorem Qa5 (C p_s p_f K H) (h:Qaf C p_s p_f K H):QQ C p_s p_f K H:=by
 refine Ye Tryz.func202 rfl Tryz.ntmps202 [(0,slv p_s),(1,p_f)] (Zo (Za (GL.nil (Zo (Zm (Zm (Zc h QdG ?_)))))))
 rintro _ H2 ⟨r1,rfl,h⟩
 refine Zi (.bool (decide ((r1:Int) ≥ 0))) (Za (GL.nil ?_))
 exact Y1 I3 ⟨(decide ((r1:Int) ≥ 0)),rfl,h⟩
def QiV (C:Ctx) (p_x:Qg) (v0:Nat×Nat) (K:Bool→Heap→Prop) (H:Heap):Prop:=
 nw (Qg.c p_x) (fun b1 H2=>
 ldT H2 Qg.c (b1,0) fun x3=>
 ldL H2 v0 fun x5=>
 QfX C x3 x5 (fun r7 H8=>
 K r7 H8) H2) H
theorem QmH (C p_x v0 K H) (h:QiV C p_x v0 K H):Qni C p_x v0 K H:=by
 refine Ye Tryz.func203 rfl Tryz.ntmps203 [(0,.agg (Qg.c p_x).toArray),(1,pv (some v0))] (Zo (GL.box (v:=.agg (Qg.c p_x).toArray) (cs:=Qg.c p_x) h trivial rfl rfl rfl ?_))
 intro b1 H2 h
 refine Za (GL.nil (Zo ?_))
 obtain ⟨x3,hr4,h⟩:=h
 refine Zv (OV.loadT rfl rfl rfl hr4) (Yl h fun x5 h=>?_)
 refine Zc h QkM ?_
 rintro _ H8 ⟨r7,rfl,h⟩
 refine Za (GL.nil ?_)
 exact Y1 I3 ⟨r7,rfl,h⟩
def Qdf (C:Ctx) (p_s:Str) (p_sep:Str) (K:Str→Str→Bool→Heap→Prop) (H:Heap):Prop:=
 Qbn C p_s p_sep (fun r1 H2=>
 ift (decide ((r1:Int) ≥ 0))
 (slS p_s 0 r1 fun t4=>
 slS p_s (w .i64 (r1+(List.length p_sep:Int))) (List.length p_s:Int) fun t10=>
 K t4 t10 true H2)
 (K p_s [] false H2)) H
theorem QfZ (C p_s p_sep K H) (h:Qdf C p_s p_sep K H):Qdv C p_s p_sep K H:=by
 refine Ye Tryz.func204 rfl Tryz.ntmps204 [(0,sv p_s),(1,sv p_sep)] (Zo (Za (Za (Za (GL.nil (GC.seq (Zo (Zm (Zm (Zc h QfA ?_))))))))))
 rintro _ H2 ⟨r1,rfl,h⟩
 refine Za (GL.nil (Zo (Zm (Zi (.bool (decide ((r1:Int) ≥ 0))) (GL.nil (Yd h (fun u3 h=>?_) fun u3 h=>?_))))))
 refine GC.seq (GC.draw (by kernel_rfl) (by kernel_rfl) (GQ.val trivial rfl (OV.move (v:=sv p_s) rfl) (GQ.val trivial rfl (OV.move (v:=.int .i64 r1) rfl) ?_)))
 obtain ⟨h5,h6,h7,t4,h8,h⟩:=h
 refine GQ.val trivial rfl (OV.sliceStr (s:=p_s) h5 h6 h7 h8 rfl rfl rfl rfl rfl rfl) (GQ.val trivial rfl (OV.move (v:=sv p_s) rfl) (GQ.val trivial rfl (OV.move (v:=.int .i64 r1) rfl) (GQ.val trivial rfl (OV.move (v:=sv p_sep) rfl) (GQ.val trivial rfl (OV.lenStr (s:=p_sep) rfl rfl) (GQ.val trivial rfl (OV.ibin (v:=.int .i64 (w .i64 (r1+(List.length p_sep:Int)))) rfl rfl rfl) ?_)))))
 obtain ⟨h11,h12,h13,t10,h14,h⟩:=h
 refine GQ.val trivial rfl (OV.sliceStr (s:=p_s) h11 h12 h13 h14 rfl rfl rfl rfl rfl rfl) (GQ.val trivial rfl (OV.assign (v:=sv t4) rfl) (GQ.val trivial rfl (OV.assign (v:=sv t10) rfl) (GQ.val trivial rfl (OV.assign (v:=.bool true) rfl) (GQ.nil (GL.nil ?_)))))
 exact Y3 I3 ⟨t4,t10,true,rfl,h⟩
 refine GC.skip (Zo (Zm (Za (Za (Za (GL.nil ?_))))))
 exact Y3 I3 ⟨p_s,[],false,rfl,h⟩
def Qgn (C:Ctx) (p_w:Option (Nat×Nat)) (p_l:Sl) (p_between:Str) (p_write:Value) (K:Heap→Prop) (H:Heap):Prop:=
 lp (α:=Int) 0 H (fun x1 J2 H3=>
 ift (decide ((x1:Int) < (Sl.len p_l:Int)))
 (ixa p_l x1 fun p5=>
 ldS H3 (p5.1,p5.2+(x1:Int).toNat*1) fun x10=>
 jn (α:=Unit) (fun x13 H14=>
 callU Tryz.prog C p_write [sv x10] H14 (fun v H22=>v=.tuple #[]∧
 J2 (w .i64 (x1+1)) H22))
 (fun J12=>ift (decide ((x1:Int) > 0))
 (nck p_w fun p17=>
 Qm C (some (p17.1,p17.2+0)) p_between (fun r19 r20 H21=>
 J12 () H21) H3)
 (J12 () H3)))
 (K H3))
theorem Qlb (C p_w p_l p_between p_write K H) (h:Qgn C p_w p_l p_between p_write K H):QgG C p_w p_l p_between p_write K H:=by
 refine Ye Tryz.func205 rfl Tryz.ntmps205 [(0,pv p_w),(1,slv p_l),(2,sv p_between),(3,p_write)] (Zo (Zm (Zq (Zm (GL.nil (GC.block (Yp h (fun x1=>[(12,.int .i64 x1),(0,pv p_w),(2,sv p_between),(3,p_write),(10,slv p_l),(11,.int .i64 (Sl.len p_l:Int))]) ?_)))))))
 intro x1 H3 J2 h
 refine Zo (Zi (.bool (decide ((x1:Int) < (Sl.len p_l:Int)))) (GL.nil (GC.seq (Yd h (fun u4 h=>?_) fun u4 h=>?_))))
 refine GC.skip (GC.seq (GC.block (Zo (Zm (Yx h fun p5 h=>?_)))))
 refine Yl h fun x10 h=>?_
 refine Za (Za (GL.nil ?_))
 obtain ⟨J12,h,hR15⟩:=h
 refine GC.join (α:=Unit) J12 (fun _=>[(0,pv p_w),(2,sv p_between),(3,p_write),(9,sv x10),(10,slv p_l),(11,.int .i64 (Sl.len p_l:Int)),(12,.int .i64 x1)]) ?_ ?_
 refine Zo (Zm (Zi (.bool (decide ((x1:Int) > 0))) (GL.nil (Yd h (fun u16 h=>?_) fun u16 h=>?_))))
 refine GC.region (Zm ?_)
 obtain ⟨p17,hp18,h⟩:=h
 refine Zv (OV.nilCheck (q:=p_w) rfl hp18) (Zf (Zm (Zc h Qo ?_)))
 rintro _ H21 ⟨r19,r20,rfl,h⟩
 exact Yj I3 () h
 exact Yk I3 () h
 intro x13 H14 h
 replace h:=hR15 x13 H14 h
 refine GC.region (Zm (Zm (GL.callU (xv:=p_write) (vs:=[sv x10]) h trivial rfl rfl rfl ?_)))
 rintro _ H22 ⟨rfl,h⟩
 refine GL.nil_to I3 (GC.region (Zi (.int .i64 (w .i64 (x1+1))) (Zm ?_)))
 exact Yj I3 (w .i64 (x1+1)) h
 exact GC.exit_ends (fun _ _ hf hs=>Qt rfl hf hs ⟨rfl,h⟩)
def QdX (C:Ctx) (p_w:Option (Nat×Nat)) (p_l:Sl) (p_between:Str) (p_write:Value) (K:Heap→Prop) (H:Heap):Prop:=
 lp (α:=Int) 0 H (fun x1 J2 H3=>
 ift (decide ((x1:Int) < (Sl.len p_l:Int)))
 (ixa p_l x1 fun p5=>
 ldT H3 Qj.c (p5.1,p5.2+(x1:Int).toNat*3) fun x10=>
 nw (Qj.c Qj.zero) (fun b12 H13=>
 stT (b12,0) (Qj.c x10) (fun H14=>
 jn (α:=Unit) (fun x16 H17=>
 ldT H17 Qj.c (b12,0) fun x25=>
 callU Tryz.prog C p_write [.agg (Qj.c x25).toArray] H17 (fun v H27=>v=.tuple #[]∧
 J2 (w .i64 (x1+1)) H27))
 (fun J15=>ift (decide ((x1:Int) > 0))
 (nck p_w fun p20=>
 Qm C (some (p20.1,p20.2+0)) p_between (fun r22 r23 H24=>
 J15 () H24) H14)
 (J15 () H14))) H13) H3)
 (K H3))
theorem Qg8 (C p_w p_l p_between p_write K H) (h:QdX C p_w p_l p_between p_write K H):Qb3 C p_w p_l p_between p_write K H:=by
 refine Ye Tryz.func206 rfl Tryz.ntmps206 [(0,pv p_w),(1,slv p_l),(2,sv p_between),(3,p_write)] (Zo (Zm (Zq (Zm (GL.nil (GC.block (Yp h (fun x1=>[(12,.int .i64 x1),(0,pv p_w),(2,sv p_between),(3,p_write),(10,slv p_l),(11,.int .i64 (Sl.len p_l:Int))]) ?_)))))))
 intro x1 H3 J2 h
 refine Zo (Zi (.bool (decide ((x1:Int) < (Sl.len p_l:Int)))) (GL.nil (GC.seq (Yd h (fun u4 h=>?_) fun u4 h=>?_))))
 refine GC.skip (GC.seq (GC.block (Zo (Zm (Yx h fun p5 h=>?_)))))
 obtain ⟨x10,v11,h⟩:=h
 refine Zv (OV.loadT rfl rfl rfl v11) (GL.alloc (cs:=Qj.c Qj.zero) h trivial rfl rfl rfl ?_)
 intro b12 H13 h
 refine Za (GL.storeT (p:=(b12,0)) (vs:=Qj.c x10) h trivial rfl rfl rfl rfl ?_)
 intro H14 h
 refine GL.nil ?_
 obtain ⟨J15,h,hR18⟩:=h
 refine GC.join (α:=Unit) J15 (fun _=>[(0,pv p_w),(2,sv p_between),(3,p_write),(9,pv (some (b12,0))),(10,slv p_l),(11,.int .i64 (Sl.len p_l:Int)),(12,.int .i64 x1)]) ?_ ?_
 refine Zo (Zm (Zi (.bool (decide ((x1:Int) > 0))) (GL.nil (Yd h (fun u19 h=>?_) fun u19 h=>?_))))
 refine GC.region (Zm ?_)
 obtain ⟨p20,hp21,h⟩:=h
 refine Zv (OV.nilCheck (q:=p_w) rfl hp21) (Zf (Zm (Zc h Qo ?_)))
 rintro _ H24 ⟨r22,r23,rfl,h⟩
 exact Yj I3 () h
 exact Yk I3 () h
 intro x16 H17 h
 replace h:=hR18 x16 H17 h
 refine GC.region (Zm ?_)
 obtain ⟨x25,v26,h⟩:=h
 refine Zv (OV.loadT rfl rfl rfl v26) (GL.callU (xv:=p_write) (vs:=[.agg (Qj.c x25).toArray]) h trivial rfl rfl rfl ?_)
 rintro _ H27 ⟨rfl,h⟩
 refine GL.nil_to I3 (GC.region (Zi (.int .i64 (w .i64 (x1+1))) (Zm ?_)))
 exact Yj I3 (w .i64 (x1+1)) h
 exact GC.exit_ends (fun _ _ hf hs=>Qt rfl hf hs ⟨rfl,h⟩)
def QgW (C:Ctx) (p_w:Option (Nat×Nat)) (p_t:Qg) (K:Heap→Prop) (H:Heap):Prop:=
 nw (Qg.c p_t) (fun b1 H2=>
 jn (α:=Unit) (fun x4 H5=>
 ldS H5 ((b1,0).1,(b1,0).2+0) fun x20=>
 jn (α:=Bool) (fun b22 H28=>
 ift b22
 (ldL H28 ((b1,0).1,(b1,0).2+1) fun x30=>
 Qb0 C p_w x30 (.func (.func 207) (List.toArray [pv p_w]) (List.toArray []):Value) (fun H32=>
 K H32) H28)
 (K H28))
 (fun J23=>ift (x20 == ([116,117,112,108,101]:Str))
 (J23 true H5)
 (ldL H5 ((b1,0).1,(b1,0).2+1) fun x26=>
 J23 (decide (((Sl.len x26:Int):Int) > 0)) H5)))
 (fun J3=>ldS H2 ((b1,0).1,(b1,0).2+0) fun x7=>
 ift (!(x7 == ([116,117,112,108,101]:Str)))
 (dr H2 fun Hs10=>
 nck p_w fun p12=>
 ldS Hs10 ((b1,0).1,(b1,0).2+0) fun x14=>
 Qm C (some (p12.1,p12.2+0)) x14 (fun r17 r18 H19=>
 Heap.le Hs10 H19∧
 J3 () H19) H2)
 (J3 () H2))) H
theorem Qlv (C p_w p_t K H) (h:QgW C p_w p_t K H):Qe6 C p_w p_t K H:=by
 refine Ye Tryz.func207 rfl Tryz.ntmps207 [(0,pv p_w),(1,.agg (Qg.c p_t).toArray)] (Zo (GL.box (v:=.agg (Qg.c p_t).toArray) (cs:=Qg.c p_t) h trivial rfl rfl rfl ?_))
 intro b1 H2 h
 refine GL.nil ?_
 obtain ⟨J3,h,hR6⟩:=h
 refine GC.join (α:=Unit) J3 (fun _=>[(0,pv p_w),(3,pv (some (b1,0)))]) ?_ ?_
 refine Zo (Zf (Yl h fun x7 h=>?_))
 refine Zv (OV.sbin (a:=x7) (b:=([116,117,112,108,101]:Str)) (v:=.bool (!(x7 == ([116,117,112,108,101]:Str)))) rfl rfl rfl) (GL.nil (Yd h (fun u9 h=>?_) fun u9 h=>?_))
 obtain ⟨Hs10,hle11,h⟩:=h
 refine GC.any (Hs:=Hs10) (by kernel_rfl) hle11 (Zp 0 rfl Ym ?_)
 obtain ⟨p12,hp13,h⟩:=h
 refine Zp 1 rfl (OV.nilCheck (q:=p_w) rfl hp13) (Zp 2 rfl Yf (Zp 3 rfl Yf ?_))
 obtain ⟨x14,v15,h⟩:=h
 refine Zp 4 rfl (Yo v15) (GA.eff 5 rfl (by kernel_rfl) (Zc h Qo ?_))
 rintro _ H19 ⟨r17,r18,rfl,h⟩
 obtain ⟨hle16,h⟩:=h
 refine GA.back hle16 (GA.done (by kernel_rfl) ?_)
 exact Yj I3 () h
 exact Yk I3 () h
 intro x4 H5 h
 replace h:=hR6 x4 H5 h
 refine Zo (Zf (Yl h fun x20 h=>?_))
 refine Zv (OV.sbin (a:=x20) (b:=([116,117,112,108,101]:Str)) (v:=.bool (x20 == ([116,117,112,108,101]:Str))) rfl rfl rfl) (Zm ?_)
 obtain ⟨J23,h,hR24⟩:=h
 refine GL.cut (α:=Bool) 5 J23 (fun b22=>[(21,.bool b22),(0,pv p_w),(3,pv (some (b1,0)))]) ?_ ?_
 rcases h.em with ⟨u25,h⟩ | ⟨u25,h⟩
 refine Zk u25 (Zk u25 (Zk u25 (Zk u25 (Zt u25 ?_))))
 exact Yj I3 true h
 refine Zu u25 Yf ?_
 obtain ⟨x26,v27,h⟩:=h
 refine Zu u25 (Yo v27) (Zu u25 (OV.lenSl rfl rfl) (Zu u25 (OV.ibin (v:=.bool (decide (((Sl.len x26:Int):Int) > 0))) rfl rfl rfl) (Zn u25 ?_)))
 exact Yj I3 (decide (((Sl.len x26:Int):Int) > 0)) h
 intro b22 H28 h
 replace h:=hR24 b22 H28 h
 refine GL.nil (Yd h (fun u29 h=>?_) fun u29 h=>?_)
 refine GC.region (Zm (Zf (Yl h fun x30 h=>?_)))
 refine Zm (Zv (OV.makeFunc (vs:=[pv p_w]) (us:=[]) rfl rfl) (Zc h Qhn ?_))
 rintro _ H32 ⟨rfl,h⟩
 exact GL.ends (fun _ _ hf hs=>Qt rfl hf hs ⟨rfl,h⟩)
 exact GC.ends (fun _ _ hf hs=>Qt rfl hf hs ⟨rfl,h⟩)
def Qdl (C:Ctx) (p_w:Option (Nat×Nat)) (p_l:Sl) (p_between:Str) (p_write:Value) (K:Heap→Prop) (H:Heap):Prop:=
 lp (α:=Int) 0 H (fun x1 J2 H3=>
 ift (decide ((x1:Int) < (Sl.len p_l:Int)))
 (ixa p_l x1 fun p5=>
 ldT H3 Qb.c (p5.1,p5.2+(x1:Int).toNat*9) fun x10=>
 nw (Qb.c Qb.zero) (fun b12 H13=>
 stT (b12,0) (Qb.c x10) (fun H14=>
 jn (α:=Unit) (fun x16 H17=>
 ldT H17 Qb.c (b12,0) fun x25=>
 callU Tryz.prog C p_write [.agg (Qb.c x25).toArray] H17 (fun v H27=>v=.tuple #[]∧
 J2 (w .i64 (x1+1)) H27))
 (fun J15=>ift (decide ((x1:Int) > 0))
 (nck p_w fun p20=>
 Qm C (some (p20.1,p20.2+0)) p_between (fun r22 r23 H24=>
 J15 () H24) H14)
 (J15 () H14))) H13) H3)
 (K H3))
theorem Qfe (C p_w p_l p_between p_write K H) (h:Qdl C p_w p_l p_between p_write K H):QaP C p_w p_l p_between p_write K H:=by
 refine Ye Tryz.func208 rfl Tryz.ntmps208 [(0,pv p_w),(1,slv p_l),(2,sv p_between),(3,p_write)] (Zo (Zm (Zq (Zm (GL.nil (GC.block (Yp h (fun x1=>[(12,.int .i64 x1),(0,pv p_w),(2,sv p_between),(3,p_write),(10,slv p_l),(11,.int .i64 (Sl.len p_l:Int))]) ?_)))))))
 intro x1 H3 J2 h
 refine Zo (Zi (.bool (decide ((x1:Int) < (Sl.len p_l:Int)))) (GL.nil (GC.seq (Yd h (fun u4 h=>?_) fun u4 h=>?_))))
 refine GC.skip (GC.seq (GC.block (Zo (Zm (Yx h fun p5 h=>?_)))))
 obtain ⟨x10,v11,h⟩:=h
 refine Zv (OV.loadT rfl rfl rfl v11) (GL.alloc (cs:=Qb.c Qb.zero) h trivial rfl rfl rfl ?_)
 intro b12 H13 h
 refine Za (GL.storeT (p:=(b12,0)) (vs:=Qb.c x10) h trivial rfl rfl rfl rfl ?_)
 intro H14 h
 refine GL.nil ?_
 obtain ⟨J15,h,hR18⟩:=h
 refine GC.join (α:=Unit) J15 (fun _=>[(0,pv p_w),(2,sv p_between),(3,p_write),(9,pv (some (b12,0))),(10,slv p_l),(11,.int .i64 (Sl.len p_l:Int)),(12,.int .i64 x1)]) ?_ ?_
 refine Zo (Zm (Zi (.bool (decide ((x1:Int) > 0))) (GL.nil (Yd h (fun u19 h=>?_) fun u19 h=>?_))))
 refine GC.region (Zm ?_)
 obtain ⟨p20,hp21,h⟩:=h
 refine Zv (OV.nilCheck (q:=p_w) rfl hp21) (Zf (Zm (Zc h Qo ?_)))
 rintro _ H24 ⟨r22,r23,rfl,h⟩
 exact Yj I3 () h
 exact Yk I3 () h
 intro x16 H17 h
 replace h:=hR18 x16 H17 h
 refine GC.region (Zm ?_)
 obtain ⟨x25,v26,h⟩:=h
 refine Zv (OV.loadT rfl rfl rfl v26) (GL.callU (xv:=p_write) (vs:=[.agg (Qb.c x25).toArray]) h trivial rfl rfl rfl ?_)
 rintro _ H27 ⟨rfl,h⟩
 refine GL.nil_to I3 (GC.region (Zi (.int .i64 (w .i64 (x1+1))) (Zm ?_)))
 exact Yj I3 (w .i64 (x1+1)) h
 exact GC.exit_ends (fun _ _ hf hs=>Qt rfl hf hs ⟨rfl,h⟩)
def QlZ (C:Ctx) (p_v:Qh) (K:Str→Heap→Prop) (H:Heap):Prop:=
 nw (Qh.c p_v) (fun b1 H2=>
 ldT H2 Qh.c (b1,0) fun x3=>
 QbI C x3 (fun r5 H6=>
 ift ((r5:Int) != 0)
 (K [] H6)
 (nwB 145 5 (fun b8 H9=>
 nw ([.nilFunc]) (fun b10 H11=>
 nw ([.nilFunc]) (fun b12 H13=>
 st (b12,0) (.func (.func 231) (List.toArray []) (List.toArray [pv (some (b8,0)),pv (some (b10,0))])) (fun H14=>
 st (b10,0) (.func (.func 232) (List.toArray []) (List.toArray [pv (some (b8,0)),pv (some (b12,0))])) (fun H15=>
 ldV H15 (b10,0) fun x16=>
 ldT H15 Qh.c (b1,0) fun x18=>
 callU Tryz.prog C x16 [.agg (Qh.c x18).toArray] H15 (fun v H20=>v=.tuple #[]∧
 QL C (some (b8,0)) (fun r21 H22=>
 K r21 H22) H20)) H14) H13) H11) H9) H6)) H2) H
theorem Qo3 (C p_v K H) (h:QlZ C p_v K H):QjI C p_v K H:=by
 refine Ye Tryz.func209 rfl Tryz.ntmps209 [(0,.agg (Qh.c p_v).toArray)] (Zo (GL.box (v:=.agg (Qh.c p_v).toArray) (cs:=Qh.c p_v) h trivial rfl rfl rfl ?_))
 intro b1 H2 h
 refine Za (GL.nil (GC.seq (Zo ?_)))
 obtain ⟨x3,v4,h⟩:=h
 refine Zv (OV.loadT rfl rfl rfl v4) (Zc h QkP ?_)
 rintro _ H6 ⟨r5,rfl,h⟩
 refine Zi (.bool ((r5:Int) != 0)) (GL.nil (Yd h (fun u7 h=>?_) fun u7 h=>?_))
 refine Zo (Za (GL.nil ?_))
 exact Y1 I3 ⟨[],rfl,h⟩
 refine GC.skip (Zo (GL.allocB (T:=145) (e:=5) h trivial rfl rfl rfl ?_))
 intro b8 H9 h
 refine GL.nil (Zo (GL.alloc (cs:=[.nilFunc]) h trivial rfl rfl rfl ?_))
 intro b10 H11 h
 refine GL.nil (Zo (Zv (OV.makeFunc (vs:=[]) (us:=[pv (some (b8,0)),pv (some (b10,0))]) rfl rfl) (GL.alloc (cs:=[.nilFunc]) h trivial rfl rfl rfl ?_)))
 intro b12 H13 h
 refine GL.store (p:=(b12,0)) (v:=.func (.func 231) (List.toArray []) (List.toArray [pv (some (b8,0)),pv (some (b10,0))])) h trivial rfl rfl rfl rfl ?_
 intro H14 h
 refine GL.nil (Zo (Zv (OV.makeFunc (vs:=[]) (us:=[pv (some (b8,0)),pv (some (b12,0))]) rfl rfl) (GL.store (p:=(b10,0)) (v:=.func (.func 232) (List.toArray []) (List.toArray [pv (some (b8,0)),pv (some (b12,0))])) h trivial rfl rfl rfl rfl ?_)))
 intro H15 h
 refine GL.nil (Zo (Yl h fun x16 h=>?_))
 obtain ⟨x18,v19,h⟩:=h
 refine Zv (OV.loadT rfl rfl rfl v19) (GL.callU (xv:=x16) (vs:=[.agg (Qh.c x18).toArray]) h trivial rfl rfl rfl ?_)
 rintro _ H20 ⟨rfl,h⟩
 refine GL.nil (Zo (Zc h QdP ?_))
 rintro _ H22 ⟨r21,rfl,h⟩
 refine Za (GL.nil ?_)
 exact Y1 I3 ⟨r21,rfl,h⟩
def Qgo (C:Ctx) (p_w:Option (Nat×Nat)) (p_e:Qb) (K:Heap→Prop) (H:Heap):Prop:=
 nw (Qb.c p_e) (fun b1 H2=>
 ldS H2 ((b1,0).1,(b1,0).2+3) fun x3=>
 Qew C x3 (fun r5 H6=>
 ift r5
 (dr H6 fun Hs8=>
 nck p_w fun p10=>
 ldS Hs8 ((b1,0).1,(b1,0).2+3) fun x12=>
 Qm C (some (p10.1,p10.2+0)) x12 (fun r15 r16 H17=>
 Heap.le Hs8 H17∧
 ldL H17 ((b1,0).1,(b1,0).2+8) fun x18=>
 Qy C p_w x18 (.func (.func 169) (List.toArray [pv p_w]) (List.toArray []):Value) (fun H20=>
 K H20) H17) H6)
 (ldL H6 ((b1,0).1,(b1,0).2+8) fun x21=>
 ift (((Sl.len x21:Int):Int) == 1)
 (ldS H6 ((b1,0).1,(b1,0).2+3) fun x24=>
 nw ([sv [40],sv x24,sv [32]]) (fun b26 H27=>
 QA C p_w (Sl.of (some (b26,0)) 3 3) (fun H28=>
 ldL H28 ((b1,0).1,(b1,0).2+8) fun x29=>
 ixa x29 0 fun p31=>
 ldT H28 Qb.c (p31.1,p31.2+(0:Int).toNat*9) fun x36=>
 Qae C p_w x36 (fun H38=>
 nck p_w fun p39=>
 Qq C (some (p39.1,p39.2+0)) 41 (fun r41 H42=>
 K H42) H38) H28) H27) H6)
 (nck p_w fun p43=>
 Qq C (some (p43.1,p43.2+0)) 40 (fun r45 H46=>
 ldL H46 ((b1,0).1,(b1,0).2+8) fun x47=>
 ldS H46 ((b1,0).1,(b1,0).2+3) fun x49=>
 catOk ([32]:Str) x49∧
 catOk (([32]:Str)++x49) ([32]:Str)∧
 QaP C p_w x47 ((([32]:Str)++x49)++([32]:Str)) (.func (.func 169) (List.toArray [pv p_w]) (List.toArray []):Value) (fun H53=>
 nck p_w fun p54=>
 Qq C (some (p54.1,p54.2+0)) 41 (fun r56 H57=>
 K H57) H53) H46) H6))) H2) H
theorem Qlc (C p_w p_e K H) (h:Qgo C p_w p_e K H):Qey C p_w p_e K H:=by
 refine Ye Tryz.func210 rfl Tryz.ntmps210 [(0,pv p_w),(1,.agg (Qb.c p_e).toArray)] (Zo (GL.box (v:=.agg (Qb.c p_e).toArray) (cs:=Qb.c p_e) h trivial rfl rfl rfl ?_))
 intro b1 H2 h
 refine GL.nil (GC.block (Zo (Zf (Yl h fun x3 h=>?_))))
 refine Zc h QiT ?_
 rintro _ H6 ⟨r5,rfl,h⟩
 refine Za (GL.nil (Yd h (fun u7 h=>?_) fun u7 h=>?_))
 refine GC.seq ?_
 obtain ⟨Hs8,hle9,h⟩:=h
 refine GC.any (Hs:=Hs8) (by kernel_rfl) hle9 (Zp 0 rfl Ym ?_)
 obtain ⟨p10,hp11,h⟩:=h
 refine Zp 1 rfl (OV.nilCheck (q:=p_w) rfl hp11) (Zp 2 rfl Yf (Zp 3 rfl Yf ?_))
 obtain ⟨x12,v13,h⟩:=h
 refine Zp 4 rfl (Yo v13) (GA.eff 5 rfl (by kernel_rfl) (Zc h Qo ?_))
 rintro _ H17 ⟨r15,r16,rfl,h⟩
 obtain ⟨hle14,h⟩:=h
 refine GA.back hle14 (GA.done (by kernel_rfl) (GL.nil (GC.region (Zm (Zf (Yl h fun x18 h=>?_))))))
 refine Zm (Zv (OV.makeFunc (vs:=[pv p_w]) (us:=[]) rfl rfl) (Zc h QT ?_))
 rintro _ H20 ⟨rfl,h⟩
 exact GL.ends (fun _ _ hf hs=>Qt rfl hf hs ⟨rfl,h⟩)
 refine Zo (Zf (Yl h fun x21 h=>?_))
 refine Zq (Zi (.bool (((Sl.len x21:Int):Int) == 1)) (Za (GL.nil (Yd h (fun u23 h=>?_) fun u23 h=>?_))))
 refine Zo (Zm (Zf (Yl h fun x24 h=>?_)))
 refine GL.buildSlice (cs:=[sv [40],sv x24,sv [32]]) h trivial rfl (vs:=[(0,sv [40]),(1,sv x24),(2,sv [32])]) rfl ⟨9,fun _=>by kernel_rfl⟩ ?_
 intro b26 H27 h
 refine Zc h QM ?_
 rintro _ H28 ⟨rfl,h⟩
 refine GL.nil (Zo (Zm (Zf (Yl h fun x29 h=>?_))))
 refine Yx h fun p31 h=>?_
 obtain ⟨x36,v37,h⟩:=h
 refine Zv (OV.loadT rfl rfl rfl v37) (Zc h Q4 ?_)
 rintro _ H38 ⟨rfl,h⟩
 refine GL.nil (GC.region (Zm ?_))
 obtain ⟨p39,hp40,h⟩:=h
 refine Zv (OV.nilCheck (q:=p_w) rfl hp40) (Zf (Zc h Qr ?_))
 rintro _ H42 ⟨r41,rfl,h⟩
 exact GL.ends (fun _ _ hf hs=>Qt rfl hf hs ⟨rfl,h⟩)
 refine Zo (Zm ?_)
 obtain ⟨p43,hp44,h⟩:=h
 refine Zv (OV.nilCheck (q:=p_w) rfl hp44) (Zf (Zc h Qr ?_))
 rintro _ H46 ⟨r45,rfl,h⟩
 refine GL.nil (Zo (Zm (Zf (Yl h fun x47 h=>?_))))
 refine Zf (Yl h fun x49 h=>?_)
 obtain ⟨hl51,h⟩:=h
 refine Zv (OV.cat (a:=([32]:Str)) (b:=x49) rfl rfl hl51) ?_
 obtain ⟨hl52,h⟩:=h
 refine Zv (OV.cat (a:=(([32]:Str)++x49)) (b:=([32]:Str)) rfl rfl hl52) (Zm (Zv (OV.makeFunc (vs:=[pv p_w]) (us:=[]) rfl rfl) (Zc h Qfl ?_)))
 rintro _ H53 ⟨rfl,h⟩
 refine GL.nil (GC.region (Zm ?_))
 obtain ⟨p54,hp55,h⟩:=h
 refine Zv (OV.nilCheck (q:=p_w) rfl hp55) (Zf (Zc h Qr ?_))
 rintro _ H57 ⟨r56,rfl,h⟩
 exact GL.ends (fun _ _ hf hs=>Qt rfl hf hs ⟨rfl,h⟩)
end
end Sx
end
