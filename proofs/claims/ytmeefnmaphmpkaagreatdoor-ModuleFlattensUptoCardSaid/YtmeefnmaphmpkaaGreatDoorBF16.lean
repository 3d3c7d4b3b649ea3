/-
  Texts of this family, one behind the other: Sh15.
-/
import Derived.Test.YtmeefnmaphmpkaaGreatDoorBF2
noncomputable section
set_option linter.unusedVariables false
set_option linter.unusedSimpArgs false
set_option maxRecDepth 10000
namespace Sx
section
set_option maxRecDepth 100000
set_option maxHeartbeats 4000000
open Go Go.Proofs
def Qgw (C:Ctx) (b:Sl) (a:Value) (K:Bool→HP) (H:Heap):Prop:=(Value.cells a = #[a])∧nw ([a]) (fun e c=>QQ C b (.func (.func 223) (List.toArray []) (List.toArray [pv (some (e,0))]):Value) (fun f d=>K (!f) d) c) H
theorem QkX (C b a K H) (h:Qgw C b a K H):Q4 C b a K H:=AE h Tryz.func194 rfl Tryz.ntmps194
def Qbv (C:Ctx) (a:Sl) (e:Value) (K:Int→HP) (H:Heap):Prop:=lpE (α:=Int) (fun b=>[(8,.int .i64 b),(0,slv a),(1,e),(7,.int .i64 a.len)]) 0 H (fun b j g=>ift (decide (b<a.len)) (ixa a b fun i=>ldT g Qi.c (i.1,i.2+b.toNat*6) fun h=>callU P0 C e [.agg (Qi.c h).toArray] g (fun v d=>∃ (f:Bool),v=.bool f∧ ift f (K b d) (j (w .i64 (b+1)) d))) (K (-1) g))
theorem QdN (C b a K H) (h:Qbv C b a K H):QbF C b a K H:=AE h Tryz.func195 rfl Tryz.ntmps195
def Qbi (C:Ctx) (b:Sl) (a:Value) (K:Bool→HP) (H:Heap):Prop:=QbE C b a (fun d c=>K (decide (d ≥ 0)) c) H
theorem Qc4 (C b a K H) (h:Qbi C b a K H):Qbl C b a K H:=AE h Tryz.func196 rfl Tryz.ntmps196
def QjH (C:Ctx) (b:Qe) (g:Nat×Nat) (K:Bool→HP) (H:Heap):Prop:=nw (Qe.c b) (fun f a=>ldV a g fun h=>ldT a Qe.c (f,0) fun i=>callU P0 C h [.agg (Qe.c i).toArray] a (fun v e=>∃ (d:Bool),v=.bool d∧ K (!d) e)) H
theorem Qjx (C a b K H) (h:QjH C a b K H):QjX C a b K H:=AE h Tryz.func197 rfl Tryz.ntmps197
def QnH (C:Ctx) (X:Qe) (e:Bool) (K:Bool→HP) (H:Heap):Prop:=nw (Qe.c X) (fun a H2=>nw ([.bool e]) (fun A b=>ldL b ((a,0).1,(a,0).2+8) fun i=>jn (α:=Bool) (fun x8 R=>jn (α:=Bool) (fun y f=>jn (α:=Bool) (fun z q=>K z q) (fun k=>ift y (ldL f ((a,0).1,(a,0).2+8) fun F=>QI C F (.func (.func 228) (List.toArray []) (List.toArray [pv (some (A,0))]):Value) (fun D p=>k D p) f) (k false f))) (fun j=>ift x8 (ldT R Qg.c ((a,0).1,(a,0).2+4) fun E=>Qel C E (fun B o=>j B o) R) (j false R))) (fun l=>ldI b .u8 ((a,0).1,(a,0).2+0) fun d=>ift ((d:Int)==1) (ldI b .u8 (((a,0).1,(a,0).2+4).1,((a,0).1,(a,0).2+4).2+0) fun G=>jn (α:=Bool) (fun S m=>jn (α:=Bool) (fun T L=>K T L) (fun s=>ift (S&&((i.len:Int)==0)) (ldS m ((a,0).1,(a,0).2+3) fun ae=>s (ae==([]:Str)) m) (s false m))) (fun r=>ift ((decide ((G:Int) ≥ 1))&&(decide ((G:Int)≤4))) (ldT b Qg.c ((a,0).1,(a,0).2+4) fun ad=>QbU C ad (fun Y J=>r ((Y:Int)==0) J) b) (r false b))) (ift ((d:Int)==2) (ldS b ((a,0).1,(a,0).2+3) fun af=>Qe4 C af (fun Z M=>l (Z&&((i.len:Int)==0)) M) b) (ift ((d:Int)==3) (ldB b (A,0) fun ag=>jn (α:=Bool) (fun U N=>l (U&&((i.len:Int)==0)) N) (fun t=>ift ag (ldS b ((a,0).1,(a,0).2+3) fun ah=>t (ah==([]:Str)) b) (t false b))) (ift ((d:Int)==4) (ldS b ((a,0).1,(a,0).2+3) fun ai=>l (((ai==([]:Str))&&((i.len:Int)!=1))&&(decide ((i.len:Int)≤16))) b) (ift ((d:Int)==5) (ldS b ((a,0).1,(a,0).2+3) fun aj=>QfM C aj (fun aa O=>l (aa&&(decide ((i.len:Int)≤8))) O) b) (ift ((d:Int)==6) (dr b fun h=>ldS h ((a,0).1,(a,0).2+3) fun ak=>Qj0 C (fun ab g=>Heap.le h g∧ lkM sv (fun x:Int=>(.int .i64 x:Value)) 0 ab ak (fun I aq=>Heap.le h g∧ ldB g (A,0) fun al=>l (((!al)&&(decide ((I:Int)>0)))&&((I:Int)==i.len)) g) g) b) (ift ((d:Int)==7) (ldB b (A,0) fun am=>jn (α:=Bool) (fun V Q=>l (V&&((i.len:Int)==1)) Q) (fun u=>ift (!am) (ldS b ((a,0).1,(a,0).2+3) fun an=>Qbd C an (fun ac P=>u ac P) b) (u false b))) (ift ((d:Int)==8) (ldB b (A,0) fun ao=>jn (α:=Bool) (fun W n=>l (W&&((i.len:Int)==3)) n) (fun v=>ift (!ao) (ldS b ((a,0).1,(a,0).2+3) fun ap=>v (ap==([]:Str)) b) (v false b))) (l false b)))))))))) H2) H
theorem Qrj (C p_e p_pattern K H) (h:QnH C p_e p_pattern K H):Qcz C p_e p_pattern K H:=by
 refine Ye Tryz.func198 rfl Tryz.ntmps198 [(0,.agg (Qe.c p_e).toArray),(1,.bool p_pattern)] (Zo (GL.box (v:=.agg (Qe.c p_e).toArray) (cs:=Qe.c p_e) h trivial rfl rfl rfl ?_))
 intro M H2 h
 refine GL.box (v:=.bool p_pattern) (cs:=[.bool p_pattern]) h trivial rfl rfl rfl ?_
 intro b3 H4 h
 refine Za (GL.nil (Zo (Zf (Yl h fun f h=>?_))))
 refine Zq (Za (GL.nil (Zo (Za (GL.nil ?_)))))
 obtain ⟨J7,h,b7⟩:=h
 refine Xad (α:=Bool) J7 (fun x8=>[(6,.bool x8),(2,pv (some (M,0))),(3,pv (some (b3,0)))]) ?_ ?_
 refine Zo (Zf (Yl h fun N h=>?_))
 refine GL.nil (GC.block (Zo (Zi (.bool ((N:Int) == 1)) (Za (GL.nil (Yd h (fun e2 h=>?_) fun e2 h=>?_))))))
 refine Zo (Zf (Zf (Yl h fun W h=>?_)))
 refine Za (GL.nil (Zo (Zm (Zi (.bool (decide ((W:Int) ≥ 1))) (Zm (GL.cut0 3 [(24,.bool ((decide ((W:Int) ≥ 1)) && (decide ((W:Int)≤4)))),(2,pv (some (M,0))),(5,.int .i64 (Sl.len f:Int))] ?_ ?_))))))
 rcases Zb (decide ((W:Int) ≥ 1)) with r | r
 refine Zu r Ym (Zu r (OV.ibin (v:=.bool (decide ((W:Int)≤4))) rfl rfl rfl) (Zt r ?_))
 exact Xi I3 () rfl ⟨(by rw [r]; rfl),rfl,rfl,trivial⟩
 refine Zk r (Zk r (Zn r ?_))
 exact Xi I3 () rfl ⟨(by rw [r]; rfl),rfl,rfl,trivial⟩
 refine Zm ?_
 obtain ⟨d5,h,b8⟩:=h
 refine GL.cut (α:=Bool) 5 d5 (fun U=>[(30,.bool U),(2,pv (some (M,0))),(5,.int .i64 (Sl.len f:Int))]) ?_ ?_
 rcases h.em with ⟨j,h⟩ | ⟨j,h⟩
 refine Zu j Yf ?_
 obtain ⟨f7,f0,h⟩:=h
 refine Zu j (Xm rfl rfl rfl f0) (GL.call h (Yt j) rfl QhS (vs:=[.agg (Qg.c f7).toArray]) rfl ?_)
 rintro _ g3 ⟨c6,rfl,h⟩
 refine Zu j (OV.ibin (v:=.bool ((c6:Int) == 0)) rfl rfl rfl) (Zt j ?_)
 exact Yj I3 ((c6:Int) == 0) h
 refine Zk j (Zk j (Zk j (Zk j (Zn j ?_))))
 exact Yj I3 false h
 intro U d1 h
 replace h:=b8 U d1 h
 refine Zm (GL.cut0 3 [(34,.bool (U && (((Sl.len f:Int):Int) == 0))),(2,pv (some (M,0)))] ?_ ?_)
 rcases Bool.eq_false_or_eq_true U with t | t
 refine Zu t Ym (Zu t (OV.ibin (v:=.bool (((Sl.len f:Int):Int) == 0)) rfl rfl rfl) (Zt t ?_))
 exact Xi I3 () rfl ⟨(by rw [t]; rfl),rfl,trivial⟩
 refine Zk t (Zk t (Zn t ?_))
 exact Xi I3 () rfl ⟨(by rw [t]; rfl),rfl,trivial⟩
 refine Zm ?_
 obtain ⟨d6,h,b9⟩:=h
 refine GL.cut (α:=Bool) 4 d6 (fun Y=>[(39,.bool Y)]) ?_ ?_
 rcases h.em with ⟨u,h⟩ | ⟨u,h⟩
 refine Zu u Yf ?_
 obtain ⟨a6,f1,h⟩:=h
 refine Zu u (Yo f1) (Zu u (OV.sbin (a:=a6) (b:=([]:Str)) (v:=.bool (a6 == ([]:Str))) rfl rfl rfl) (Zt u ?_))
 exact Yj I3 (a6 == ([]:Str)) h
 refine Zk u (Zk u (Zk u (Zn u ?_)))
 exact Yj I3 false h
 intro Y d2 h
 replace h:=b9 Y d2 h
 refine Za (GL.nil ?_)
 exact Y1 I3 ⟨Y,rfl,h⟩
 refine Zo (Zi (.bool ((N:Int) == 2)) (Za (GL.nil (Yd h (fun e3 h=>?_) fun e3 h=>?_))))
 refine GC.region (Zf (Yl h fun h0 h=>?_))
 refine Zc h Qjh ?_
 rintro _ g4 ⟨a4,rfl,h⟩
 refine Zm (GL.cut0 3 [(48,.bool (a4 && (((Sl.len f:Int):Int) == 0))),(2,pv (some (M,0))),(3,pv (some (b3,0)))] ?_ ?_)
 rcases Bool.eq_false_or_eq_true a4 with y | y
 refine Zu y Ym (Zu y (OV.ibin (v:=.bool (((Sl.len f:Int):Int) == 0)) rfl rfl rfl) (Zt y ?_))
 exact Xi I3 () rfl ⟨(by rw [y]; rfl),rfl,rfl,trivial⟩
 refine Zk y (Zk y (Zn y ?_))
 exact Xi I3 () rfl ⟨(by rw [y]; rfl),rfl,rfl,trivial⟩
 refine Za ?_
 exact Yj I3 (a4 && (((Sl.len f:Int):Int) == 0)) h
 refine Zo (Zi (.bool ((N:Int) == 3)) (Za (GL.nil (Yd h (fun e4 h=>?_) fun e4 h=>?_))))
 refine GC.region (Yl h fun h1 h=>?_)
 refine Zm ?_
 obtain ⟨d7,h,c0⟩:=h
 refine GL.cut (α:=Bool) 4 d7 (fun Q=>[(56,.bool Q),(2,pv (some (M,0))),(3,pv (some (b3,0))),(5,.int .i64 (Sl.len f:Int))]) ?_ ?_
 rcases h.em with ⟨A,h⟩ | ⟨A,h⟩
 refine Zu A Yf ?_
 obtain ⟨a7,f2,h⟩:=h
 refine Zu A (Yo f2) (Zu A (OV.sbin (a:=a7) (b:=([]:Str)) (v:=.bool (a7 == ([]:Str))) rfl rfl rfl) (Zt A ?_))
 exact Yj I3 (a7 == ([]:Str)) h
 refine Zk A (Zk A (Zk A (Zn A ?_)))
 exact Yj I3 false h
 intro Q d3 h
 replace h:=c0 Q d3 h
 refine Zm (GL.cut0 3 [(60,.bool (Q && (((Sl.len f:Int):Int) == 0))),(2,pv (some (M,0))),(3,pv (some (b3,0)))] ?_ ?_)
 rcases Bool.eq_false_or_eq_true Q with B | B
 refine Zu B Ym (Zu B (OV.ibin (v:=.bool (((Sl.len f:Int):Int) == 0)) rfl rfl rfl) (Zt B ?_))
 exact Xi I3 () rfl ⟨(by rw [B]; rfl),rfl,rfl,trivial⟩
 refine Zk B (Zk B (Zn B ?_))
 exact Xi I3 () rfl ⟨(by rw [B]; rfl),rfl,rfl,trivial⟩
 refine Za ?_
 exact Yj I3 (Q && (((Sl.len f:Int):Int) == 0)) h
 refine Zo (Zi (.bool ((N:Int) == 4)) (Za (GL.nil (Yd h (fun e5 h=>?_) fun e5 h=>?_))))
 refine GC.region (Zf (Yl h fun O h=>?_))
 refine Zv (OV.sbin (a:=O) (b:=([]:Str)) (v:=.bool (O == ([]:Str))) rfl rfl rfl) (Zm (GL.cut0 3 [(69,.bool ((O == ([]:Str)) && (((Sl.len f:Int):Int) != 1))),(2,pv (some (M,0))),(3,pv (some (b3,0))),(5,.int .i64 (Sl.len f:Int))] ?_ ?_))
 rcases Zb (O == ([]:Str)) with D | D
 refine Zu D Ym (Zu D (OV.ibin (v:=.bool (((Sl.len f:Int):Int) != 1)) rfl rfl rfl) (Zt D ?_))
 exact Xi I3 () rfl ⟨(by rw [D]; rfl),rfl,rfl,rfl,trivial⟩
 refine Zk D (Zk D (Zn D ?_))
 exact Xi I3 () rfl ⟨(by rw [D]; rfl),rfl,rfl,rfl,trivial⟩
 refine Zm (GL.cut0 3 [(73,.bool (((O == ([]:Str)) && (((Sl.len f:Int):Int) != 1)) && (decide (((Sl.len f:Int):Int)≤16)))),(2,pv (some (M,0))),(3,pv (some (b3,0)))] ?_ ?_)
 rcases Zb ((O == ([]:Str)) && (((Sl.len f:Int):Int) != 1)) with E | E
 refine Zu E Ym (Zu E (OV.ibin (v:=.bool (decide (((Sl.len f:Int):Int)≤16))) rfl rfl rfl) (Zt E ?_))
 exact Xi I3 () rfl ⟨(by rw [E]; rfl),rfl,rfl,trivial⟩
 refine Zk E (Zk E (Zn E ?_))
 exact Xi I3 () rfl ⟨(by rw [E]; rfl),rfl,rfl,trivial⟩
 refine Za ?_
 exact Yj I3 (((O == ([]:Str)) && (((Sl.len f:Int):Int) != 1)) && (decide (((Sl.len f:Int):Int)≤16))) h
 refine Zo (Zi (.bool ((N:Int) == 5)) (Za (GL.nil (Yd h (fun e6 h=>?_) fun e6 h=>?_))))
 refine GC.region (Zf (Yl h fun h2 h=>?_))
 refine Zc h Qnz ?_
 rintro _ g5 ⟨a5,rfl,h⟩
 refine Zm (GL.cut0 3 [(82,.bool (a5 && (decide (((Sl.len f:Int):Int)≤8)))),(2,pv (some (M,0))),(3,pv (some (b3,0)))] ?_ ?_)
 rcases Bool.eq_false_or_eq_true a5 with F | F
 refine Zu F Ym (Zu F (OV.ibin (v:=.bool (decide (((Sl.len f:Int):Int)≤8))) rfl rfl rfl) (Zt F ?_))
 exact Xi I3 () rfl ⟨(by rw [F]; rfl),rfl,rfl,trivial⟩
 refine Zk F (Zk F (Zn F ?_))
 exact Xi I3 () rfl ⟨(by rw [F]; rfl),rfl,rfl,trivial⟩
 refine Za ?_
 exact Yj I3 (a5 && (decide (((Sl.len f:Int):Int)≤8))) h
 refine Zo (Zi (.bool ((N:Int) == 6)) (Za (GL.nil (Yd h (fun e7 h=>?_) fun e7 h=>?_))))
 refine GC.seq ?_
 obtain ⟨b4,a1,h⟩:=h
 refine GC.any (Hs:=b4) (by kernel_rfl) a1 (Zp 1 rfl Yf ?_)
 obtain ⟨f8,f3,h⟩:=h
 refine Zp 2 rfl (Yo f3) (GA.eff 0 rfl (by kernel_rfl) (Zc h Qmn ?_))
 rintro _ g6 ⟨e0,rfl,h⟩
 obtain ⟨a2,h⟩:=h
 refine GA.back a2 (GA.eff 3 rfl (by kernel_rfl) ?_)
 obtain ⟨o,c3,f4,h⟩:=h
 refine Zv (XA (v:=.int .i64 o) (ke:=sv) (enc:=(fun x:Int=>(.int .i64 x:Value))) (z:=0) (q:=e0) (k:=f8) (x:=o) (b:=c3) rfl f4 rfl rfl rfl (kText rfl) rfl) ?_
 obtain ⟨a3,h⟩:=h
 refine GA.back a3 (Zp 4 rfl Ya (GA.done (by kernel_rfl) (GL.nil (GC.region (Yl h fun X h=>?_)))))
 refine Zv (OV.not rfl) (Zm (GL.cut0 3 [(94,.bool ((!X) && (decide ((o:Int) > 0)))),(2,pv (some (M,0))),(3,pv (some (b3,0))),(5,.int .i64 (Sl.len f:Int)),(8,.int .i64 o)] ?_ ?_))
 rcases Zb (!X) with G | G
 refine Zu G Ym (Zu G (OV.ibin (v:=.bool (decide ((o:Int) > 0))) rfl rfl rfl) (Zt G ?_))
 exact Xi I3 () rfl ⟨(by rw [G]; rfl),rfl,rfl,rfl,rfl,trivial⟩
 refine Zk G (Zk G (Zn G ?_))
 exact Xi I3 () rfl ⟨(by rw [G]; rfl),rfl,rfl,rfl,rfl,trivial⟩
 refine Zm (GL.cut0 4 [(99,.bool (((!X) && (decide ((o:Int) > 0))) && ((o:Int) == (Sl.len f:Int)))),(2,pv (some (M,0))),(3,pv (some (b3,0)))] ?_ ?_)
 rcases Zb ((!X) && (decide ((o:Int) > 0))) with m | m
 refine Zu m Ym (Zu m Ym (Zu m (OV.ibin (v:=.bool ((o:Int) == (Sl.len f:Int))) rfl rfl rfl) (Zt m ?_)))
 exact Xi I3 () rfl ⟨(by rw [m]; rfl),rfl,rfl,trivial⟩
 refine Zk m (Zk m (Zk m (Zn m ?_)))
 exact Xi I3 () rfl ⟨(by rw [m]; rfl),rfl,rfl,trivial⟩
 refine Za ?_
 exact Yj I3 (((!X) && (decide ((o:Int) > 0))) && ((o:Int) == (Sl.len f:Int))) h
 refine Zo (Zi (.bool ((N:Int) == 7)) (Za (GL.nil (Yd h (fun e8 h=>?_) fun e8 h=>?_))))
 refine GC.region (Yl h fun h3 h=>?_)
 refine Zv (OV.not rfl) (Zm ?_)
 obtain ⟨d8,h,c1⟩:=h
 refine GL.cut (α:=Bool) 4 d8 (fun R=>[(108,.bool R),(2,pv (some (M,0))),(3,pv (some (b3,0))),(5,.int .i64 (Sl.len f:Int))]) ?_ ?_
 rcases h.em with ⟨I,h⟩ | ⟨I,h⟩
 refine Zu I Yf ?_
 obtain ⟨g0,f5,h⟩:=h
 refine Zu I (Yo f5) (GL.call h (Yt I) rfl QnA (vs:=[sv g0]) rfl ?_)
 rintro _ g7 ⟨e1,rfl,h⟩
 refine Zt I ?_
 exact Yj I3 e1 h
 refine Zk I (Zk I (Zk I (Zn I ?_)))
 exact Yj I3 false h
 intro R d4 h
 replace h:=c1 R d4 h
 refine Zm (GL.cut0 3 [(112,.bool (R && (((Sl.len f:Int):Int) == 1))),(2,pv (some (M,0))),(3,pv (some (b3,0)))] ?_ ?_)
 rcases Bool.eq_false_or_eq_true R with J | J
 refine Zu J Ym (Zu J (OV.ibin (v:=.bool (((Sl.len f:Int):Int) == 1)) rfl rfl rfl) (Zt J ?_))
 exact Xi I3 () rfl ⟨(by rw [J]; rfl),rfl,rfl,trivial⟩
 refine Zk J (Zk J (Zn J ?_))
 exact Xi I3 () rfl ⟨(by rw [J]; rfl),rfl,rfl,trivial⟩
 refine Za ?_
 exact Yj I3 (R && (((Sl.len f:Int):Int) == 1)) h
 refine Zo (Zi (.bool ((N:Int) == 8)) (Za (GL.nil (Yd h (fun e9 h=>?_) fun e9 h=>?_))))
 refine GC.region (Yl h fun h4 h=>?_)
 refine Zv (OV.not rfl) (Zm ?_)
 obtain ⟨d9,h,c2⟩:=h
 refine GL.cut (α:=Bool) 4 d9 (fun S=>[(121,.bool S),(2,pv (some (M,0))),(3,pv (some (b3,0))),(5,.int .i64 (Sl.len f:Int))]) ?_ ?_
 rcases h.em with ⟨L,h⟩ | ⟨L,h⟩
 refine Zu L Yf ?_
 obtain ⟨a8,f6,h⟩:=h
 refine Zu L (Yo f6) (Zu L (OV.sbin (a:=a8) (b:=([]:Str)) (v:=.bool (a8 == ([]:Str))) rfl rfl rfl) (Zt L ?_))
 exact Yj I3 (a8 == ([]:Str)) h
 refine Zk L (Zk L (Zk L (Zn L ?_)))
 exact Yj I3 false h
 intro S a9 h
 replace h:=c2 S a9 h
 refine Zm (GL.cut0 3 [(125,.bool (S && (((Sl.len f:Int):Int) == 3))),(2,pv (some (M,0))),(3,pv (some (b3,0)))] ?_ ?_)
 rcases Bool.eq_false_or_eq_true S with g | g
 refine Zu g Ym (Zu g (OV.ibin (v:=.bool (((Sl.len f:Int):Int) == 3)) rfl rfl rfl) (Zt g ?_))
 exact Xi I3 () rfl ⟨(by rw [g]; rfl),rfl,rfl,trivial⟩
 refine Zk g (Zk g (Zn g ?_))
 exact Xi I3 () rfl ⟨(by rw [g]; rfl),rfl,rfl,trivial⟩
 refine Za ?_
 exact Yj I3 (S && (((Sl.len f:Int):Int) == 3)) h
 exact Yk I3 false h
 intro x8 H9 h
 replace h:=b7 x8 H9 h
 refine Zo (Zm (Zm ?_))
 obtain ⟨b5,h,Z⟩:=h
 refine GL.cut (α:=Bool) 4 b5 (fun T=>[(131,.bool T),(2,pv (some (M,0))),(3,pv (some (b3,0)))]) ?_ ?_
 rcases h.em with ⟨i,h⟩ | ⟨i,h⟩
 refine Zu i Yf ?_
 obtain ⟨c9,c7,h⟩:=h
 refine Zu i (Xm rfl rfl rfl c7) (GL.call h (Yt i) rfl QnC (vs:=[.agg (Qg.c c9).toArray]) rfl ?_)
 rintro _ g1 ⟨c4,rfl,h⟩
 refine Zt i ?_
 exact Yj I3 c4 h
 refine Zk i (Zk i (Zk i (Zn i ?_)))
 exact Yj I3 false h
 intro T b0 h
 replace h:=Z T b0 h
 refine Zm ?_
 obtain ⟨b6,h,a0⟩:=h
 refine GL.cut (α:=Bool) 5 b6 (fun P=>[(137,.bool P)]) ?_ ?_
 rcases h.em with ⟨d,h⟩ | ⟨d,h⟩
 refine Zu d Yf ?_
 obtain ⟨d0,c8,h⟩:=h
 refine Zu d (Yo c8) (Zu d (OV.makeFunc (vs:=[]) (us:=[pv (some (b3,0))]) rfl rfl) (GL.call h (Yt d) rfl Qgp (vs:=[slv d0,.func (.func 228) (List.toArray []) (List.toArray [pv (some (b3,0))])]) rfl ?_))
 rintro _ g2 ⟨c5,rfl,h⟩
 refine Zt d ?_
 exact Yj I3 c5 h
 refine Zk d (Zk d (Zk d (Zk d (Zn d ?_))))
 exact Yj I3 false h
 intro P b2 h
 replace h:=a0 P b2 h
 refine Za (GL.nil ?_)
 exact Y1 I3 ⟨P,rfl,h⟩
def Qbn (C:Ctx) (a:Sl) (e:Value) (K:Int→HP) (H:Heap):Prop:=lpE (α:=Int) (fun b=>[(8,.int .i64 b),(0,slv a),(1,e),(7,.int .i64 a.len)]) 0 H (fun b j g=>ift (decide (b<a.len)) (ixa a b fun i=>ldT g Qo.c (i.1,i.2+b.toNat*4) fun h=>callU P0 C e [.agg (Qo.c h).toArray] g (fun v d=>∃ (f:Bool),v=.bool f∧ ift f (K b d) (j (w .i64 (b+1)) d))) (K (-1) g))
theorem Qc7 (C b a K H) (h:Qbn C b a K H):Qbo C b a K H:=AE h Tryz.func199 rfl Tryz.ntmps199
def QaU (C:Ctx) (a:Sl) (e:Value) (K:Int→HP) (H:Heap):Prop:=lpE (α:=Int) (fun b=>[(8,.int .i64 b),(0,slv a),(1,e),(7,.int .i64 a.len)]) 0 H (fun b j g=>ift (decide (b<a.len)) (ixa a b fun i=>ldT g Qm.c (i.1,i.2+b.toNat*5) fun h=>callU P0 C e [.agg (Qm.c h).toArray] g (fun v d=>∃ (f:Bool),v=.bool f∧ ift f (K b d) (j (w .i64 (b+1)) d))) (K (-1) g))
theorem Qco (C b a K H) (h:QaU C b a K H):Qa2 C b a K H:=AE h Tryz.func200 rfl Tryz.ntmps200
def Q0 (C:Ctx) (a:Sl) (e:Value) (K:Int→HP) (H:Heap):Prop:=lpE (α:=Int) (fun b=>[(8,.int .i64 b),(0,slv a),(1,e),(7,.int .i64 a.len)]) 0 H (fun b j g=>ift (decide (b<a.len)) (ixa a b fun i=>ldT g Ql.c (i.1,i.2+b.toNat*3) fun h=>callU P0 C e [.agg (Ql.c h).toArray] g (fun v d=>∃ (f:Bool),v=.bool f∧ ift f (K b d) (j (w .i64 (b+1)) d))) (K (-1) g))
theorem QaC (C b a K H) (h:Q0 C b a K H):QaL C b a K H:=AE h Tryz.func201 rfl Tryz.ntmps201
def Qah (C:Ctx) (b:Sl) (a:Value) (K:Bool→HP) (H:Heap):Prop:=QbG C b a (fun d c=>K (decide (d ≥ 0)) c) H
theorem Qbe (C b a K H) (h:Qah C b a K H):QQ C b a K H:=AE h Tryz.func202 rfl Tryz.ntmps202
def Qjj (C:Ctx) (b:Qf) (g:Nat×Nat) (K:Bool→HP) (H:Heap):Prop:=nw (Qf.c b) (fun e a=>ldT a Qf.c (e,0) fun h=>ldL a g fun i=>QgG C h i (fun f d=>K f d) a) H
theorem QnP (C a b K H) (h:Qjj C a b K H):Qow C a b K H:=AE h Tryz.func203 rfl Tryz.ntmps203
end
end Sx
end
