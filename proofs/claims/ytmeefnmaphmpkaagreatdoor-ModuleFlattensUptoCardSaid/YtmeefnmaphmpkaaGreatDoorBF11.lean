/-
  Texts of this family, one behind the other: Sh10.
-/
import Derived.Test.YtmeefnmaphmpkaaGreatDoorBF2
noncomputable section
set_option linter.unusedVariables false
set_option linter.unusedSimpArgs false
set_option maxRecDepth 10000
namespace Sx
section
set_option maxRecDepth 100000
set_option maxHeartbeats 4000000
open Go Go.Proofs
def Qlv (C:Ctx) (b:Sl) (K:Bool→HP) (H:Heap):Prop:=lpE (α:=Int) (fun f=>[(3,.int .i64 f),(0,slv b)]) 0 H (fun f J2 E=>ift (decide (f<b.len)) (ixa b f fun p5=>ldT E Qd.c (p5.1,p5.2+f.toNat*6) fun O=>nw (Qd.c Qd.zero) (fun a D=>stT (a,0) (Qd.c O) (fun q=>ldS q (a,0+3) fun P=>Qat C P (fun J j=>jnE (α:=Bool) 5 (fun m=>[(26,.bool m),(0,slv b),(3,.int .i64 f),(4,pv (some (a,0)))]) (fun m k=>jnE (α:=Bool) 5 (fun n=>[(32,.bool n),(0,slv b),(3,.int .i64 f),(4,pv (some (a,0)))]) (fun n l=>jnE (α:=Bool) 5 (fun o=>[(38,.bool o),(0,slv b),(3,.int .i64 f),(4,pv (some (a,0)))]) (fun o r=>ift o (K false r) (lpE (α:=Int) (fun e=>[(5,.int .i64 e),(0,slv b),(3,.int .i64 f),(4,pv (some (a,0)))]) 0 r (fun e G g=>ldL g (a,0+4) fun T=>ift (decide (e<T.len)) (ldL g (a,0+4) fun U=>ixa U e fun z=>ldS g (z.1,z.2+e.toNat*1) fun V=>QgI C V (fun L s=>ift (!L) (K false s) (G (w .i64 (e+1)) s)) g) (lpE (α:=Int) (fun d=>[(6,.int .i64 d),(0,slv b),(3,.int .i64 f),(4,pv (some (a,0)))]) 0 g (fun d I h=>ldL h (a,0+5) fun W=>ift (decide (d<W.len)) (ldL h (a,0+5) fun X=>ixa X d fun A=>ldS h (A.1,A.2+d.toNat*2+0) fun Y=>Qat C Y (fun M i=>jnE (α:=Bool) 9 (fun p=>[(77,.bool p),(0,slv b),(3,.int .i64 f),(4,pv (some (a,0))),(6,.int .i64 d)]) (fun p t=>ift p (K false t) (I (w .i64 (d+1)) t)) (fun y=>ift (!M) (y true i) (ldL i (a,0+5) fun Z=>ixa Z d fun B=>ldL i (B.1,B.2+d.toNat*2+1) fun aa=>QbD C aa false (fun N F=>y (!N) F) i))) h) (J2 (w .i64 (f+1)) h)))))) (fun x=>ift n (x true l) (ldL l (a,0+5) fun S=>x (decide ((S.len:Int)>16)) l))) (fun v=>ift m (v true k) (ldL k (a,0+5) fun R=>v (decide ((R.len:Int)<1)) k))) (fun u=>ift (!J) (u true j) (ldL j (a,0+4) fun Q=>u (decide ((Q.len:Int)>8)) j))) q) D) E) (K true E))
theorem Qpr (C a K H) (h:Qlv C a K H):Qcv C a K H:=AE h Tryz.func89 rfl Tryz.ntmps89
def Qlu (C:Ctx) (e:Sl) (K:Bool→HP) (H:Heap):Prop:=lpE (α:=Int) (fun g=>[(3,.int .i64 g),(0,slv e)]) 0 H (fun g R y=>ift (decide (g<e.len)) (ixa e g fun Q=>ldT y Qi.c (Q.1,Q.2+g.toNat*6) fun E=>nw (Qi.c Qi.zero) (fun b x=>stT (b,0) (Qi.c E) (fun o=>ldS o (b,0+2) fun F=>Qeo C F (fun B j=>jnE (α:=Bool) 5 (fun l=>[(26,.bool l),(0,slv e),(3,.int .i64 g),(4,pv (some (b,0)))]) (fun l i=>jnE (α:=Bool) 8 (fun m=>[(35,.bool m),(0,slv e),(3,.int .i64 g),(4,pv (some (b,0)))]) (fun m k=>jnE (α:=Bool) 5 (fun n=>[(41,.bool n),(0,slv e),(3,.int .i64 g),(4,pv (some (b,0)))]) (fun n p=>ift n (K false p) (lpE (α:=Int) (fun d=>[(5,.int .i64 d),(0,slv e),(3,.int .i64 g),(4,pv (some (b,0)))]) 0 p (fun d A f=>ldL f (b,0+3) fun M=>ift (decide (d<M.len)) (ldL f (b,0+4) fun N=>ixa N d fun u=>ldS f (u.1,u.2+d.toNat*1) fun a=>ldL f (b,0+3) fun O=>ixa O d fun v=>ldT f Qe.c (v.1,v.2+d.toNat*9) fun P=>QbC C P false (fun h q=>hnt 19 [(80,.bool ((!h)||(((((!(a==([]:Str)))&&(!(a==([99,111,117,110,116]:Str))))&&(!(a==([115,117,109]:Str))))&&(!(a==([109,105,110]:Str))))&&(!(a==([109,97,120]:Str)))))),(0,slv e),(3,.int .i64 g),(4,pv (some (b,0))),(5,.int .i64 d)] (hnt 3 [(67,.bool ((!(a==([]:Str)))&&(!(a==([99,111,117,110,116]:Str))))),(0,slv e),(3,.int .i64 g),(4,pv (some (b,0))),(5,.int .i64 d),(6,sv a),(61,.bool (!h))] True (hnt 3 [(71,.bool (((!(a==([]:Str)))&&(!(a==([99,111,117,110,116]:Str))))&&(!(a==([115,117,109]:Str))))),(0,slv e),(3,.int .i64 g),(4,pv (some (b,0))),(5,.int .i64 d),(6,sv a),(61,.bool (!h))] True (hnt 3 [(75,.bool ((((!(a==([]:Str)))&&(!(a==([99,111,117,110,116]:Str))))&&(!(a==([115,117,109]:Str))))&&(!(a==([109,105,110]:Str))))),(0,slv e),(3,.int .i64 g),(4,pv (some (b,0))),(5,.int .i64 d),(6,sv a),(61,.bool (!h))] True (hnt 3 [(79,.bool (((((!(a==([]:Str)))&&(!(a==([99,111,117,110,116]:Str))))&&(!(a==([115,117,109]:Str))))&&(!(a==([109,105,110]:Str))))&&(!(a==([109,97,120]:Str))))),(0,slv e),(3,.int .i64 g),(4,pv (some (b,0))),(5,.int .i64 d),(61,.bool (!h))] True (True))))) (ift ((!h)||(((((!(a==([]:Str)))&&(!(a==([99,111,117,110,116]:Str))))&&(!(a==([115,117,109]:Str))))&&(!(a==([109,105,110]:Str))))&&(!(a==([109,97,120]:Str))))) (K false q) (A (w .i64 (d+1)) q))) f) (R (w .i64 (g+1)) f)))) (fun t=>ift m (t true k) (ldL k (b,0+5) fun L=>Qci C L (fun D z=>t (!D) z) k))) (fun s=>ift l (s true i) (ldL i (b,0+4) fun I=>ldL i (b,0+3) fun J=>s ((I.len:Int)!=J.len) i))) (fun r=>ift (!B) (r true j) (ldL j (b,0+3) fun G=>r (decide ((G.len:Int)>8)) j))) o) x) y) (K true y))
theorem Qpq (C a K H) (h:Qlu C a K H):Qcu C a K H:=AE h Tryz.func90 rfl Tryz.ntmps90
def Qkw (C:Ctx) (b:Sl) (a:Bool) (K:Bool→HP) (H:Heap):Prop:=lpE (α:=Int) (fun d=>[(5,.int .i64 d),(0,slv b),(1,.bool a)]) 0 H (fun d z r=>ift (decide (d<b.len)) (ixa b d fun y=>ldS r (y.1,y.2+d.toNat*3+0) fun u=>Qat C u (fun p e=>jnE (α:=Bool) 10 (fun g=>[(29,.bool g),(0,slv b),(1,.bool a),(5,.int .i64 d)]) (fun g f=>jnE (α:=Bool) 8 (fun i=>[(38,.bool i),(0,slv b),(1,.bool a),(5,.int .i64 d)]) (fun i j=>ift i (K false j) (z (w .i64 (d+1)) j)) (fun m=>ift g (m true f) (ixa b d fun o=>ldT f Qf.c (o.1,o.2+d.toNat*3+1) fun x=>Qcj C x (fun t s=>m (!t) s) f))) (fun k=>ift (!p) (jnE (α:=Bool) 7 (fun h=>[(28,.bool h),(0,slv b),(1,.bool a),(5,.int .i64 d),(19,.bool (!p))]) (fun h q=>k h q) (fun l=>ift a (l true e) (ixa b d fun n=>ldS e (n.1,n.2+d.toNat*3+0) fun v=>l (!(v==([]:Str))) e))) (k false e))) r) (K (decide ((b.len:Int)≤8)) r))
theorem Qog (C b a K H) (h:Qkw C b a K H):QbD C b a K H:=AE h Tryz.func91 rfl Tryz.ntmps91
def Qmy (C:Ctx) (d:Sl) (K:Bool→HP) (H:Heap):Prop:=lpE (α:=Int) (fun g=>[(3,.int .i64 g),(0,slv d)]) 0 H (fun g J2 I=>ift (decide (g<d.len)) (ixa d g fun p5=>ldT I Qm.c (p5.1,p5.2+g.toNat*5) fun T=>nw (Qm.c Qm.zero) (fun a F=>stT (a,0) (Qm.c T) (fun k=>jnC (α:=Bool) 20 (fun q=>[(5,.bool q),(0,slv d),(3,.int .i64 g),(4,pv (some (a,0)))]) (fun q G=>lpE (α:=Bool×Int) (fun b=>[(5,.bool b.1),(6,.int .i64 b.2),(0,slv d),(3,.int .i64 g),(4,pv (some (a,0)))]) (q,0) G (fun b O h=>ldL h (a,0+4) fun D=>hnt 2 [(60,.bool ((decide (b.2<D.len))&&b.1)),(0,slv d),(3,.int .i64 g),(4,pv (some (a,0))),(5,.bool b.1),(6,.int .i64 b.2)] True (ift ((decide (b.2<D.len))&&b.1) (jnM (α:=Bool) (fun s=>[(5,.bool s),(0,slv d),(3,.int .i64 g),(4,pv (some (a,0))),(6,.int .i64 b.2)]) (fun s N=>O (s,(w .i64 (b.2+1))) N) (fun A=>drE none (ot [0,1,2,3,4,5,6,7,8] (.br (ot [9,10,11,12,13,14] .nil) (ot [9,10,11,12,13,14] .nil))) h fun e=>ldL e (a,0+4) fun aa=>ixa aa b.2 fun B=>ldT e Qe.c (B.1,B.2+b.2.toNat*9) fun E=>ldI e .u8 (a,0+0) fun ab=>ift (ab==1) (QbC C E true (fun R t=>Heap.le e t∧ A R t) h) (ldI e .u8 (a,0+0) fun ac=>QbC C E (ac==2) (fun S u=>Heap.le e u∧ A S u) h))) (ift (!b.1) (K false h) (J2 (w .i64 (g+1)) h))))) (fun j=>ldI k .u8 (a,0+0) fun i=>jnC (α:=Bool) 5 (fun r=>[(19,.bool r),(0,slv d),(3,.int .i64 g),(4,pv (some (a,0))),(5,.bool false),(18,.int .u8 i)]) (fun r f=>ift r (ldS f (a,0+3) fun U=>Qeo C U (fun P l=>jnE (α:=Bool) 5 (fun n=>[(30,.bool n),(0,slv d),(3,.int .i64 g),(4,pv (some (a,0)))]) (fun n J=>j n J) (fun x=>ift P (ldL l (a,0+4) fun V=>x (decide ((V.len:Int)≤8)) l) (x false l))) f) (ift (i==3) (ldS f (a,0+3) fun W=>jnE (α:=Bool) 5 (fun o=>[(41,.bool o),(0,slv d),(3,.int .i64 g),(4,pv (some (a,0)))]) (fun o L=>j o L) (fun y=>ift (W==([]:Str)) (ldL f (a,0+4) fun X=>y ((X.len:Int)==1) f) (y false f))) (ift (i==4) (ldS f (a,0+3) fun Y=>Qef C Y (fun Q m=>jnE (α:=Bool) 5 (fun p=>[(52,.bool p),(0,slv d),(3,.int .i64 g),(4,pv (some (a,0)))]) (fun p M=>j p M) (fun z=>ift Q (ldL m (a,0+4) fun Z=>z ((Z.len:Int)==1) m) (z false m))) f) (j false f)))) (fun v=>ift (i==1) (v (i==1) k) (v (i==2) k)))) F) I) (K true I))
theorem Qqj (C a K H) (h:Qmy C a K H):Qci C a K H:=AE h Tryz.func92 rfl Tryz.ntmps92
def Qlx (C:Ctx) (a:Sl) (c:Int) (j:Int) (K:Bool→HP) (H:Heap):Prop:=mkS ([.bool false]) 1 a.len a.len (fun r I=>ixa (Sl.of (some (r,0)) (a.len:Int).toNat (a.len:Int).toNat) c fun F=>st (F.1,F.2+(c:Int).toNat*1) (.bool true) (fun J=>lp (α:=Int) 0 J (fun G u k=>ift (decide ((G:Int)<a.len)) (lp (α:=Int) 0 k (fun b v l=>ift (decide ((b:Int)<a.len)) (lp (α:=Int) 0 l (fun d x e=>ixa a b fun g=>ldL e ((g.1,g.2+(b:Int).toNat*6).1,(g.1,g.2+(b:Int).toNat*6).2+1) fun z=>jn (α:=Bool) (fun y f=>ift y (ixa a b fun h=>ldL f ((h.1,h.2+(b:Int).toNat*6).1,(h.1,h.2+(b:Int).toNat*6).2+1) fun B=>ixa B d fun i=>ldS f ((i.1,i.2+(d:Int).toNat*3).1,(i.1,i.2+(d:Int).toNat*3).2+2) fun D=>Qdd C a D (fun q s=>ixa (Sl.of (some (r,0)) (a.len:Int).toNat (a.len:Int).toNat) q fun o=>st (o.1,o.2+(q:Int).toNat*1) (.bool true) (fun t=>x (w .i64 (d+1)) t) s) f) (v (w .i64 (b+1)) f)) (fun m=>ift (decide ((d:Int)<z.len)) (ixa (Sl.of (some (r,0)) (a.len:Int).toNat (a.len:Int).toNat) b fun n=>ldB e (n.1,n.2+(b:Int).toNat*1) fun A=>m A e) (m false e)))) (u (w .i64 (G+1)) l))) (ixa (Sl.of (some (r,0)) (a.len:Int).toNat (a.len:Int).toNat) j fun p=>ldB k (p.1,p.2+(j:Int).toNat*1) fun E=>K E k))) I) H
theorem Qpt (C p_l p_from p_to K H) (h:Qlx C p_l p_from p_to K H):QiU C p_l p_from p_to K H:=by
 refine Ye Tryz.func93 rfl Tryz.ntmps93 [(0,slv p_l),(1,.int .i64 p_from),(2,.int .i64 p_to)] (Zo (Za (GL.nil (Zo (Zm (Zq (GL.makeSlice (zc:=[.bool false]) (bytes:=1) h trivial rfl rfl rfl ⟨⟨_,_,_,rfl,rfl,rfl,rfl,rfl,rfl⟩⟩ ?_)))))))
 intro t H2 h
 refine Za (GL.nil (Zo (Zm (Zm (Yx h fun J h=>?_)))))
 refine GL.store (p:=(J.1,J.2+(p_from:Int).toNat*1)) (v:=.bool true) h trivial rfl rfl rfl rfl ?_
 intro H8 h
 refine GL.nil (GC.seq (Zo (Za (GL.nil (GC.block (Yp h (fun g=>[(8,.int .i64 g),(0,slv p_l),(2,.int .i64 p_to),(7,slv (Sl.of (some (t,0)) ((Sl.len p_l:Int):Int).toNat ((Sl.len p_l:Int):Int).toNat))]) ?_))))))
 intro g L Q h
 refine GC.seq (Zo (Zm (Zm (Zq (Zi (.bool (decide ((g:Int) < (Sl.len p_l:Int)))) (GL.nil (Yd h (fun z h=>?_) fun z h=>?_)))))))
 refine GC.skip (GC.seq (GC.block (Zo (Za (GL.nil (GC.block (Yp h (fun d=>[(9,.int .i64 d),(0,slv p_l),(2,.int .i64 p_to),(7,slv (Sl.of (some (t,0)) ((Sl.len p_l:Int):Int).toNat ((Sl.len p_l:Int):Int).toNat)),(8,.int .i64 g)]) ?_)))))))
 intro d M R h
 refine GC.seq (Zo (Zm (Zm (Zq (Zi (.bool (decide ((d:Int) < (Sl.len p_l:Int)))) (GL.nil (Yd h (fun A h=>?_) fun A h=>?_)))))))
 refine GC.skip (GC.seq (GC.block (Zo (Za (GL.nil (GC.block (Yp h (fun f=>[(10,.int .i64 f),(0,slv p_l),(2,.int .i64 p_to),(7,slv (Sl.of (some (t,0)) ((Sl.len p_l:Int):Int).toNat ((Sl.len p_l:Int):Int).toNat)),(8,.int .i64 g),(9,.int .i64 d)]) ?_)))))))
 intro f N S h
 refine GC.seq (Zo (Zm (Zm (Zm (Yx h fun T h=>?_)))))
 refine Zf (Yl h fun F h=>?_)
 refine Zq (Zi (.bool (decide ((f:Int) < (Sl.len F:Int)))) (Zm ?_))
 obtain ⟨x,h,j⟩:=h
 refine GL.cut (α:=Bool) 5 x (fun i=>[(42,.bool i),(0,slv p_l),(2,.int .i64 p_to),(7,slv (Sl.of (some (t,0)) ((Sl.len p_l:Int):Int).toNat ((Sl.len p_l:Int):Int).toNat)),(8,.int .i64 g),(9,.int .i64 d),(10,.int .i64 f)]) ?_ ?_
 rcases h.em with ⟨b,h⟩ | ⟨b,h⟩
 refine Zu b Ym (Zu b Ym ?_)
 obtain ⟨U,m,o,B,q,h⟩:=h
 refine Zu b (OV.indexAddr rfl rfl rfl rfl m o B q) ?_
 obtain ⟨G,E,h⟩:=h
 refine Zu b (Yo E) (Zt b ?_)
 exact Yj I3 G h
 refine Zk b (Zk b (Zk b (Zk b (Zn b ?_))))
 exact Yj I3 false h
 intro i u h
 replace h:=j i u h
 refine GL.nil (Yd h (fun D h=>?_) fun D h=>?_)
 refine GC.skip (GC.seq (GC.block (GC.region (Zm (Zm (Zm (Zm (Yx h fun W h=>?_))))))))
 refine Zf (Yl h fun Z h=>?_)
 refine Zm (Yx h fun X h=>?_)
 refine Zf (Yl h fun a0 h=>?_)
 refine Zc h Qml ?_
 rintro _ O ⟨y,rfl,h⟩
 refine Yx h fun r h=>?_
 refine GL.store (p:=(r.1,r.2+(y:Int).toNat*1)) (v:=.bool true) h trivial rfl rfl rfl rfl ?_
 intro P h
 refine Xy I3 (GC.region (Zm (Zi (.int .i64 (w .i64 (f+1))) (Za ?_))))
 exact Yj I3 (w .i64 (f+1)) h
 refine Xr I3 (GC.region (Zm (Zi (.int .i64 (w .i64 (d+1))) (Za ?_))))
 exact Yj I3 (w .i64 (d+1)) h
 refine Xr I3 (GC.region (Zm (Zi (.int .i64 (w .i64 (g+1))) (Za ?_))))
 exact Yj I3 (w .i64 (g+1)) h
 refine Xr I3 (Zo (Zm (Zm ?_)))
 refine Yx h fun Y h=>?_
 refine Yl h fun I h=>?_
 refine Za (GL.nil ?_)
 exact Y1 I3 ⟨I,rfl,h⟩
def QmK (C:Ctx) (K:Qb→HP) (H:Heap):Prop:=nw (Qb.c Qb.zero) (fun b d=>hvl (.agg (Qb.c (⟨Qc.zero,0⟩:Qb)).toArray) (stT (b,0) (Qb.c (⟨Qc.zero,0⟩:Qb)) (fun a=>ldT a Qb.c (b,0) fun e=>K e a) d)) H
theorem Qqv (C  K H) (h:QmK C  K H):Qde C  K H:=AE h Tryz.func94 rfl Tryz.ntmps94
def Qo7 (C:Ctx) (a:Sl) (c:Str) (K:Bool→HP) (H:Heap):Prop:=lpE (α:=Int) (fun b=>[(5,.int .i64 b),(0,slv a),(1,sv c)]) 0 H (fun b g d=>ift (decide (b<a.len)) (ixa a b fun f=>ldS d (f.1,f.2+b.toNat*1) fun e=>ift (e==c) (K true d) (g (w .i64 (b+1)) d)) (K false d))
theorem Qsf (C a b K H) (h:Qo7 C a b K H):Qep C a b K H:=AE h Tryz.func95 rfl Tryz.ntmps95
def Qg0 (C:Ctx) (b:Sl) (a:Sl) (K:Bool→HP) (H:Heap):Prop:=lpE (α:=Int) (fun d=>[(5,.int .i64 d),(0,slv b),(1,slv a)]) 0 H (fun d j f=>ift (decide (d<b.len)) (ixa b d fun i=>ldT f Qf.c (i.1,i.2+d.toNat*3+1) fun h=>Qhf C h a (fun g e=>ift g (K true e) (j (w .i64 (d+1)) e)) f) (K false f))
theorem QlM (C b a K H) (h:Qg0 C b a K H):QcY C b a K H:=AE h Tryz.func96 rfl Tryz.ntmps96
def Qkx (C:Ctx) (k:Sl) (j:Int) (d:Sl) (K:Sl→Bool→HP) (H:Heap):Prop:=lpE (α:=Sl×Int) (fun b=>[(8,slv b.1),(9,.int .i64 b.2),(0,slv k),(1,.int .i64 j),(2,slv d)]) (Sl.nil,0) H (fun b x p=>ift (decide (b.2<d.len)) (ixa d b.2 fun v=>ldT p Qf.c (v.1,v.2+b.2.toNat*3+1) fun u=>QgJ C k j u (fun r s n=>nw (Qf.c Qf.zero) (fun h o=>stT (h,0) (Qf.c r) (fun e=>ift (!s) (K Sl.nil false e) (drE none (ot [0,1,2,3,4,5,6,7,8,9,10] .nil) e fun a=>ixa d b.2 fun i=>ldS a (i.1,i.2+b.2.toNat*3+0) fun l=>ldT a Qf.c (h,0) fun m=>hvl (.agg (Ql.c (⟨l,m⟩:Ql)).toArray) (nw ((Ql.c (⟨l,m⟩:Ql))++[]) (fun q f=>Heap.le a f∧ apS (Ql.c Ql.zero) 56 b.1 (Sl.of (some (q,0)) 1 1) (fun t g=>Heap.le a g∧ x (t,(w .i64 (b.2+1))) g) f) e))) o) n) p) (K b.1 true p))
theorem Qoh (C c b a K H) (h:Qkx C c b a K H):QbY C c b a K H:=AE h Tryz.func97 rfl Tryz.ntmps97
def QmM (C:Ctx) (d:Sl) (b:Int) (T:Qi) (K:Qi→Qb→HP) (H:Heap):Prop:=nw (Qi.c T) (fun j H2=>nw (Qi.c Qi.zero) (fun l H4=>nw (Qb.c Qb.zero) (fun m H6=>ldS H6 (j,0+2) fun x7=>Qck C d b 3 x7 (fun s G n=>ixa d b fun E=>ldS n (E.1,E.2+b.toNat*6+0) fun f=>catOk f ([46]:Str)∧ hnt 6 [(36,.bool ((!G)||(decide (((List.length s:Int):Int)<(List.length (f++([46]:Str)):Int))))),(0,slv d),(1,.int .i64 b),(5,pv (some (j,0))),(6,pv (some (l,0))),(7,pv (some (m,0))),(8,sv s),(10,sv (f++([46]:Str)))] True (jnE (α:=Bool) 7 (fun r=>[(44,.bool r),(0,slv d),(1,.int .i64 b),(5,pv (some (j,0))),(6,pv (some (l,0))),(7,pv (some (m,0))),(8,sv s)]) (fun r k=>ift r (drE (some 11) (ot [0,1,2,3,4,5,6,7,8,9,10] .nil) k fun e=>ldT e Qi.c (j,0) fun X=>ixa d b fun F=>ldS e (F.1,F.2+b.toNat*6+0) fun t=>ldT e Qk.c (j,0+0) fun u=>hvl (.agg (Qc.c (⟨t,u⟩:Qc)).toArray) (hvl (.agg (Qb.c (⟨(⟨t,u⟩:Qc),63⟩:Qb)).toArray) (stT (l,0) (Qi.c X) (fun v=>Heap.le e v∧ stT (m,0) (Qb.c (⟨(⟨t,u⟩:Qc),63⟩:Qb)) (fun o=>ldT o Qi.c (l,0) fun Y=>ldT o Qb.c (m,0) fun Z=>K Y Z o) v) k))) (ldL k (j,0+3) fun aa=>Qe0 C d b aa (fun I U P=>nw (Qb.c Qb.zero) (fun i Q=>stT (i,0) (Qb.c U) (fun g=>ldI g .i64 (i,0+3) fun ab=>ift (ab !=0) (drE (some 3) (ot [0,1,2] .nil) g fun h=>ldT h Qi.c (j,0) fun ac=>ldT h Qb.c (i,0) fun ad=>stT (l,0) (Qi.c ac) (fun x=>Heap.le h x∧ stT (m,0) (Qb.c ad) (fun p=>ldT p Qi.c (l,0) fun ae=>ldT p Qb.c (m,0) fun af=>K ae af p) x) g) (ldL g (j,0+5) fun ag=>QfX C d b ag (fun J V R=>stT (i,0) (Qb.c V) (fun y=>drE (some 12) (ot [0,1,2,3,5,6,8,10,4,7,9,11] .nil) y fun a=>ldT a Qk.c (j,0+0) fun O=>ldL a (j,0+4) fun ah=>ldT a Qb.c (i,0) fun ai=>nw ([]) (fun S z=>Heap.le a z∧ apS ([sv []]) 16 (Sl.of (some (S,0)) 0 0) ah (fun L A=>Heap.le a A∧ hvl (.agg (Qi.c (⟨O,s,I,L,J⟩:Qi)).toArray) (stT (l,0) (Qi.c (⟨O,s,I,L,J⟩:Qi)) (fun B=>Heap.le a B∧ stT (m,0) (Qb.c ai) (fun q=>ldT q Qi.c (l,0) fun M=>ldT q Qb.c (m,0) fun N=>K M N q) B) A)) z) y) R) g)) Q) P) k)) (fun D=>ift ((!G)||(decide (((List.length s:Int):Int)<(List.length (f++([46]:Str)):Int)))) (D true n) (slS s 0 (List.length (f++([46]:Str)):Int) fun W=>D (!(W==(f++([46]:Str)))) n)))) H6) H4) H2) H
theorem Qqx (C b a c K H) (h:QmM C b a c K H):Qhg C b a c K H:=AE h Tryz.func98 rfl Tryz.ntmps98
end
end Sx
end
