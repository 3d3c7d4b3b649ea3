/-
  Texts of this family, one behind the other: Sh17.
-/
import Derived.Test.YtmeefnmaphmpkaaGreatDoorBF2
noncomputable section
set_option linter.unusedVariables false
set_option linter.unusedSimpArgs false
set_option maxRecDepth 10000
namespace Sx
section
set_option maxRecDepth 100000
set_option maxHeartbeats 4000000
open Go Go.Proofs
def QcF (C:Ctx) (b:Str) (a:Str) (K:Int→HP) (H:Heap):Prop:=ift ((((List.length a:Int):Int)==0)||(a==b)) (K 0 H) (ift (((List.length a:Int):Int)==1) (ixs a 0 fun I=>Qa6 C b (I.toNat:Int) (fun J G=>K J G) H) (ift (decide (((List.length a:Int):Int) ≥ (List.length b:Int))) (K (-1) H) (ldI H .i64 (0,0) fun D=>ift ((decide (((List.length a:Int):Int)≤D))&&(decide (((List.length b:Int):Int)≤64))) (False) (ixs a 0 fun n=>ixs a 1 fun u=>lp (α:=Int×Int) (0,0) H (fun d r f=>ift (decide ((d.1:Int)<(w .i64 ((w .i64 ((List.length b:Int)-(List.length a:Int)))+1)))) (jn (α:=Int) (fun c h=>ixs b (w .i64 (c+1)) fun x=>jn (α:=Bool) (fun s e=>ift s (K c e) (ldI e .i64 (0,0) fun E=>jn (α:=Bool) (fun t g=>ift t (False) (ldI g .i64 (0,0) fun F=>ift (((decide (((List.length a:Int):Int)>F))&&(decide (((w .i64 (d.2+1)):Int) ≥ (w .i64 (4+(sShr .i64 (w .i64 (c+1)) 4))))))&&(decide (((w .i64 (c+1)):Int)<(w .i64 ((w .i64 ((List.length b:Int)-(List.length a:Int)))+1))))) (slS b (w .i64 (c+1)) (List.length b:Int) fun B=>Qc6 C B a (fun p j=>ift (decide ((p:Int)<0)) (K (-1) j) (K (w .i64 ((w .i64 (c+1))+p)) j)) g) (r ((w .i64 (c+1)),(w .i64 (d.2+1))) g))) (fun m=>ift (decide (((List.length a:Int):Int)≤E)) (Qg8 C (w .i64 (c+1)) (fun y q=>m (decide (((w .i64 (d.2+1)):Int)>y)) q) e) (m false e)))) (fun l=>ift (((x.toNat:Int):Int)==(u.toNat:Int)) (slS b c (w .i64 (c+(List.length a:Int))) fun A=>l (A==a) h) (l false h))) (fun k=>ixs b d.1 fun v=>ift (((v.toNat:Int):Int)!=(n.toNat:Int)) (slS b (w .i64 (d.1+1)) (w .i64 ((w .i64 ((List.length b:Int)-(List.length a:Int)))+1)) fun z=>Qa6 C z (n.toNat:Int) (fun o i=>ift (decide ((o:Int)<0)) (K (-1) i) (k (w .i64 (d.1+(w .i64 (o+1)))) i)) f) (k d.1 f))) (K (-1) f))))))
theorem Qgd (C p_s p_substr K H) (h:QcF C p_s p_substr K H):Qbw C p_s p_substr K H:=by
 refine Ye Tryz.func221 rfl Tryz.ntmps221 [(0,sv p_s),(1,sv p_substr)] (Zo (Za (GL.nil (Zo (Zm (Zr (Za (GL.nil (GC.seq (GC.block (Zo (Zm (Zi (.bool (((List.length p_substr:Int):Int) == 0)) (Zm (GL.cut0 4 [(23,.bool ((((List.length p_substr:Int):Int) == 0) || (p_substr == p_s))),(0,sv p_s),(1,sv p_substr),(5,.int .i64 (List.length p_substr:Int))] ?_ ?_)))))))))))))))
 rcases Zb (((List.length p_substr:Int):Int) == 0) with q | q
 refine Zk q (Zk q (Zk q (Zt q ?_)))
 exact Xi I3 () rfl ⟨(by rw [q]; rfl),rfl,rfl,rfl,trivial⟩
 refine Zu q Ym (Zu q Ym (Zu q (OV.sbin (a:=p_substr) (b:=p_s) (v:=.bool (p_substr == p_s)) rfl rfl rfl) (Zn q ?_)))
 exact Xi I3 () rfl ⟨(by rw [q]; rfl),rfl,rfl,rfl,trivial⟩
 refine Za (GL.nil (Yd h (fun b3 h=>?_) fun b3 h=>?_))
 refine Zo (Za (GL.nil ?_))
 exact Y1 I3 ⟨0,rfl,h⟩
 refine Zo (Zm (Zi (.bool (((List.length p_substr:Int):Int) == 1)) (Za (GL.nil (Yd h (fun b4 h=>?_) fun b4 h=>?_)))))
 refine Zo (Zm (Zm (Ys h fun c4 h=>?_)))
 refine Zc h QaT ?_
 rintro _ H8 ⟨r7,rfl,h⟩
 refine Za (GL.nil ?_)
 exact Y1 I3 ⟨r7,rfl,h⟩
 refine Zo (Zm (Zm (Zr (Zi (.bool (decide (((List.length p_substr:Int):Int) ≥ (List.length p_s:Int)))) (Za (GL.nil (Yd h (fun b5 h=>?_) fun b5 h=>?_)))))))
 refine Zo (Za (GL.nil ?_))
 exact Y1 I3 ⟨(-1),rfl,h⟩
 refine Zo (Zm (Yl h fun D h=>?_))
 refine Zi (.bool (decide (((List.length p_substr:Int):Int)≤D))) (Zm (GL.cut0 4 [(44,.bool ((decide (((List.length p_substr:Int):Int)≤D)) && (decide (((List.length p_s:Int):Int)≤64)))),(0,sv p_s),(1,sv p_substr),(5,.int .i64 (List.length p_substr:Int))] ?_ ?_))
 rcases Zb (decide (((List.length p_substr:Int):Int)≤D)) with j | j
 refine Zu j Ym (Zu j (XM rfl rfl) (Zu j (OV.ibin (v:=.bool (decide (((List.length p_s:Int):Int)≤64))) rfl rfl rfl) (Zt j ?_)))
 exact Xi I3 () rfl ⟨(by rw [j]; rfl),rfl,rfl,rfl,trivial⟩
 refine Zk j (Zk j (Zk j (Zn j ?_)))
 exact Xi I3 () rfl ⟨(by rw [j]; rfl),rfl,rfl,rfl,trivial⟩
 refine Za (GL.nil (Yd h (fun I h=>?_) fun I h=>?_))
 refine GC.seq ?_
 exact XZ h
 refine XF I3 (Zo (Zm ?_))
 refine Ys h fun r h=>?_
 refine Za (GL.nil (Zo (Zm (Ys h fun t h=>?_))))
 refine Za (GL.nil (Zo (Za (GL.nil (Zo (Zm (Zr (Zm (Zi (.int .i64 (w .i64 ((List.length p_s:Int) - (List.length p_substr:Int)))) (Zi (.int .i64 (w .i64 ((w .i64 ((List.length p_s:Int) - (List.length p_substr:Int)))+1))) (Za (GL.nil (Zo (Za (GL.nil (GC.seq (GC.block (Yp h (fun i=>[(8,.int .i64 i.1),(10,.int .i64 i.2),(0,sv p_s),(1,sv p_substr),(5,.int .i64 (List.length p_substr:Int)),(6,.int .u8 (r.toNat:Int)),(7,.int .u8 (t.toNat:Int)),(9,.int .i64 (w .i64 ((w .i64 ((List.length p_s:Int) - (List.length p_substr:Int)))+1)))]) ?_))))))))))))))))))
 intro i b7 c1 h
 refine GC.seq (Zo (Zm (Zm (Zi (.bool (decide ((i.1:Int) < (w .i64 ((w .i64 ((List.length p_s:Int) - (List.length p_substr:Int)))+1))))) (GL.nil (Yd h (fun J h=>?_) fun J h=>?_))))))
 refine GC.skip (GC.block ?_)
 obtain ⟨W,h,E⟩:=h
 refine Xad (α:=Int) W (fun g=>[(8,.int .i64 g),(0,sv p_s),(1,sv p_substr),(5,.int .i64 (List.length p_substr:Int)),(6,.int .u8 (r.toNat:Int)),(7,.int .u8 (t.toNat:Int)),(9,.int .i64 (w .i64 ((w .i64 ((List.length p_s:Int) - (List.length p_substr:Int)))+1))),(10,.int .i64 i.2)]) ?_ ?_
 refine Zo (Zm (Zm (Ys h fun Z h=>?_)))
 refine Zm (Zi (.bool (((Z.toNat:Int):Int) != (r.toNat:Int))) (GL.nil (Yd h (fun L h=>?_) fun L h=>?_)))
 refine Zo (Zm (Zm (Zi (.int .i64 (w .i64 (i.1+1))) (Zm ?_))))
 obtain ⟨a1,a2,a3,c3,a4,h⟩:=h
 refine Zv (Xt (s:=p_s) a1 a2 a3 a4 rfl rfl rfl rfl rfl rfl) (Zm (Zc h QaT ?_))
 rintro _ b8 ⟨x,rfl,h⟩
 refine Za (GL.nil (GC.seq (Zo (Zm (Zi (.bool (decide ((x:Int) < 0))) (GL.nil (Yd h (fun M h=>?_) fun M h=>?_)))))))
 refine Zo (Za (GL.nil ?_))
 exact Y1 I3 ⟨(-1),rfl,h⟩
 refine GC.skip (GC.region (Zm (Zm (Zi (.int .i64 (w .i64 (x+1))) (Zi (.int .i64 (w .i64 (i.1+(w .i64 (x+1))))) (Za ?_))))))
 exact Yj I3 (w .i64 (i.1+(w .i64 (x+1)))) h
 exact Yk I3 i.1 h
 intro g S h
 replace h:=E g S h
 refine GC.seq (Zo (Zm (Zm (Zi (.int .i64 (w .i64 (g+1))) (Ys h fun a0 h=>?_)))))
 refine Zm (Zi (.bool (((a0.toNat:Int):Int) == (t.toNat:Int))) (Zm ?_))
 obtain ⟨X,h,F⟩:=h
 refine GL.cut (α:=Bool) 9 X (fun y=>[(93,.bool y),(0,sv p_s),(1,sv p_substr),(5,.int .i64 (List.length p_substr:Int)),(6,.int .u8 (r.toNat:Int)),(7,.int .u8 (t.toNat:Int)),(8,.int .i64 g),(9,.int .i64 (w .i64 ((w .i64 ((List.length p_s:Int) - (List.length p_substr:Int)))+1))),(10,.int .i64 i.2)]) ?_ ?_
 rcases h.em with ⟨d,h⟩ | ⟨d,h⟩
 refine Zu d Ym (Zu d Ym (Zu d Ym (Zu d Ym (Zu d (OV.ibin (v:=.int .i64 (w .i64 (g+(List.length p_substr:Int)))) rfl rfl rfl) ?_))))
 obtain ⟨a5,a6,a7,B,a8,h⟩:=h
 refine Zu d (Xt (s:=p_s) a5 a6 a7 a8 rfl rfl rfl rfl rfl rfl) (Zu d Ym (Zu d (OV.sbin (a:=B) (b:=p_substr) (v:=.bool (B == p_substr)) rfl rfl rfl) (Zt d ?_)))
 exact Yj I3 (B == p_substr) h
 refine Zk d (Zk d (Zk d (Zk d (Zk d (Zk d (Zk d (Zk d (Zn d ?_))))))))
 exact Yj I3 false h
 intro y T h
 replace h:=F y T h
 refine GL.nil (Yd h (fun N h=>?_) fun N h=>?_)
 refine Zo (Zm (Za (GL.nil ?_)))
 exact Y1 I3 ⟨g,rfl,h⟩
 refine GC.skip (Zo (Zm (Zi (.int .i64 (w .i64 (g+1))) (Za (GL.nil (Zo (Zm (Zi (.int .i64 (w .i64 (i.2+1))) (Za (GL.nil (Zo (Zm (Yl h fun b6 h=>?_)))))))))))))
 refine Zi (.bool (decide (((List.length p_substr:Int):Int)≤b6))) (Zm ?_)
 obtain ⟨Y,h,G⟩:=h
 refine GL.cut (α:=Bool) 5 Y (fun z=>[(107,.bool z),(0,sv p_s),(1,sv p_substr),(5,.int .i64 (List.length p_substr:Int)),(6,.int .u8 (r.toNat:Int)),(7,.int .u8 (t.toNat:Int)),(8,.int .i64 (w .i64 (g+1))),(9,.int .i64 (w .i64 ((w .i64 ((List.length p_s:Int) - (List.length p_substr:Int)))+1))),(10,.int .i64 (w .i64 (i.2+1)))]) ?_ ?_
 rcases h.em with ⟨m,h⟩ | ⟨m,h⟩
 refine Zu m Ym (Zu m Ym (GL.call h (Yt m) rfl Qdj (vs:=[.int .i64 (w .i64 (g+1))]) rfl ?_))
 rintro _ b9 ⟨R,rfl,h⟩
 refine Zu m (OV.ibin (v:=.bool (decide (((w .i64 (i.2+1)):Int) > R))) rfl rfl rfl) (Zt m ?_)
 exact Yj I3 (decide (((w .i64 (i.2+1)):Int) > R)) h
 refine Zk m (Zk m (Zk m (Zk m (Zn m ?_))))
 exact Yj I3 false h
 intro z U h
 replace h:=G z U h
 refine GL.nil (Yd h (fun O h=>?_) fun O h=>?_)
 refine GC.seq ?_
 exact XZ h
 refine Zo (Zm (Yl h fun u h=>?_))
 refine Zi (.bool (decide (((List.length p_substr:Int):Int) > u))) (Zm (GL.cut0 6 [(127,.bool ((decide (((List.length p_substr:Int):Int) > u)) && (decide (((w .i64 (i.2+1)):Int) ≥ (w .i64 (4+(sShr .i64 (w .i64 (g+1)) 4))))))),(0,sv p_s),(1,sv p_substr),(5,.int .i64 (List.length p_substr:Int)),(6,.int .u8 (r.toNat:Int)),(7,.int .u8 (t.toNat:Int)),(8,.int .i64 (w .i64 (g+1))),(9,.int .i64 (w .i64 ((w .i64 ((List.length p_s:Int) - (List.length p_substr:Int)))+1))),(10,.int .i64 (w .i64 (i.2+1)))] ?_ ?_))
 rcases Zb (decide (((List.length p_substr:Int):Int) > u)) with f | f
 refine Zu f Ym (Zu f Ym (Zu f (OV.shr rfl rfl (by decide)) (Zu f (OV.ibin (v:=.int .i64 (w .i64 (4+(sShr .i64 (w .i64 (g+1)) 4)))) rfl rfl rfl) (Zu f (OV.ibin (v:=.bool (decide (((w .i64 (i.2+1)):Int) ≥ (w .i64 (4+(sShr .i64 (w .i64 (g+1)) 4)))))) rfl rfl rfl) (Zt f ?_)))))
 exact Xi I3 () rfl ⟨(by rw [f]; rfl),rfl,rfl,rfl,rfl,rfl,rfl,rfl,rfl,trivial⟩
 refine Zk f (Zk f (Zk f (Zk f (Zk f (Zn f ?_)))))
 exact Xi I3 () rfl ⟨(by rw [f]; rfl),rfl,rfl,rfl,rfl,rfl,rfl,rfl,rfl,trivial⟩
 refine Zm (GL.cut0 4 [(132,.bool (((decide (((List.length p_substr:Int):Int) > u)) && (decide (((w .i64 (i.2+1)):Int) ≥ (w .i64 (4+(sShr .i64 (w .i64 (g+1)) 4)))))) && (decide (((w .i64 (g+1)):Int) < (w .i64 ((w .i64 ((List.length p_s:Int) - (List.length p_substr:Int)))+1)))))),(0,sv p_s),(1,sv p_substr),(5,.int .i64 (List.length p_substr:Int)),(6,.int .u8 (r.toNat:Int)),(7,.int .u8 (t.toNat:Int)),(8,.int .i64 (w .i64 (g+1))),(9,.int .i64 (w .i64 ((w .i64 ((List.length p_s:Int) - (List.length p_substr:Int)))+1))),(10,.int .i64 (w .i64 (i.2+1)))] ?_ ?_)
 rcases Zb ((decide (((List.length p_substr:Int):Int) > u)) && (decide (((w .i64 (i.2+1)):Int) ≥ (w .i64 (4+(sShr .i64 (w .i64 (g+1)) 4)))))) with o | o
 refine Zu o Ym (Zu o Ym (Zu o (OV.ibin (v:=.bool (decide (((w .i64 (g+1)):Int) < (w .i64 ((w .i64 ((List.length p_s:Int) - (List.length p_substr:Int)))+1))))) rfl rfl rfl) (Zt o ?_)))
 exact Xi I3 () rfl ⟨(by rw [o]; rfl),rfl,rfl,rfl,rfl,rfl,rfl,rfl,rfl,trivial⟩
 refine Zk o (Zk o (Zk o (Zn o ?_)))
 exact Xi I3 () rfl ⟨(by rw [o]; rfl),rfl,rfl,rfl,rfl,rfl,rfl,rfl,rfl,trivial⟩
 refine GL.nil (Yd h (fun P h=>?_) fun P h=>?_)
 refine Zo (Zm (Zm ?_))
 obtain ⟨a9,b0,b1,c5,b2,h⟩:=h
 refine Zv (Xt (s:=p_s) a9 b0 b1 b2 rfl rfl rfl rfl rfl rfl) (Zm (Zc h Qa9 ?_))
 rintro _ c0 ⟨A,rfl,h⟩
 refine Za (GL.nil (GC.seq (Zo (Zm (Zi (.bool (decide ((A:Int) < 0))) (GL.nil (Yd h (fun Q h=>?_) fun Q h=>?_)))))))
 refine Zo (Za (GL.nil ?_))
 exact Y1 I3 ⟨(-1),rfl,h⟩
 refine GC.skip (Zo (Zm (Zm (Zi (.int .i64 (w .i64 ((w .i64 (g+1))+A))) (Za (GL.nil ?_))))))
 exact Y1 I3 ⟨(w .i64 ((w .i64 (g+1))+A)),rfl,h⟩
 exact Yk I3 ((w .i64 (g+1)),(w .i64 (i.2+1))) h
 refine Xr I3 (Zo (Za (GL.nil ?_)))
 exact Y1 I3 ⟨(-1),rfl,h⟩
def QbX (C:Ctx) (a:Sl) (d:Value) (K:Int→HP) (H:Heap):Prop:=lpE (α:=Int) (fun b=>[(8,.int .i64 b),(0,slv a),(1,d),(7,.int .i64 a.len)]) 0 H (fun b i f=>ift (decide (b<a.len)) (ixa a b fun h=>ldS f (h.1,h.2+b.toNat*1) fun g=>callU P0 C d [sv g] f (fun v c=>∃ (e:Bool),v=.bool e∧ ift e (K b c) (i (w .i64 (b+1)) c))) (K (-1) f))
theorem QeX (C b a K H) (h:QbX C b a K H):Qb3 C b a K H:=AE h Tryz.func222 rfl Tryz.ntmps222
def QjJ (C:Ctx) (b:Qf) (g:Nat×Nat) (K:Bool→HP) (H:Heap):Prop:=nw (Qf.c b) (fun f a=>ldV a g fun h=>ldT a Qf.c (f,0) fun i=>callU P0 C h [.agg (Qf.c i).toArray] a (fun v e=>∃ (d:Bool),v=.bool d∧ K (!d) e)) H
theorem QjB (C a b K H) (h:QjJ C a b K H):QjZ C a b K H:=AE h Tryz.func223 rfl Tryz.ntmps223
def Qbu (C:Ctx) (a:Sl) (e:Value) (K:Int→HP) (H:Heap):Prop:=lpE (α:=Int) (fun b=>[(8,.int .i64 b),(0,slv a),(1,e),(7,.int .i64 a.len)]) 0 H (fun b j g=>ift (decide (b<a.len)) (ixa a b fun i=>ldT g Qe.c (i.1,i.2+b.toNat*9) fun h=>callU P0 C e [.agg (Qe.c h).toArray] g (fun v d=>∃ (f:Bool),v=.bool f∧ ift f (K b d) (j (w .i64 (b+1)) d))) (K (-1) g))
theorem QdM (C b a K H) (h:Qbu C b a K H):QbE C b a K H:=AE h Tryz.func224 rfl Tryz.ntmps224
def QlH (C:Ctx) (d:Qg) (K:Int→HP) (H:Heap):Prop:=nw (Qg.c d) (fun h g=>ldT g Qg.c (h,0) fun j=>Qbz C j 65 (fun i b=>ift (decide (i>64)) (K 65 b) (ldT b Qg.c (h,0) fun k=>Qao C k (fun e f a=>ift (!e) (K 4 a) (ift (!f) (K 40 a) (K 0 a))) b)) g) H
theorem QpD (C a K H) (h:QlH C a K H):QbU C a K H:=AE h Tryz.func225 rfl Tryz.ntmps225
def QmR (C:Ctx) (K:Option Nat→HP) (H:Heap):Prop:=mkM (fun b i=>upS sv (fun x:Int=>(.int .i64 x:Value)) (some b) [110,111,116] 1 (fun j=>upS sv (fun x:Int=>(.int .i64 x:Value)) (some b) [110,101,103] 1 (fun k=>upS sv (fun x:Int=>(.int .i64 x:Value)) (some b) [108,101,110] 1 (fun l=>upS sv (fun x:Int=>(.int .i64 x:Value)) (some b) [98,105,103] 1 (fun m=>upS sv (fun x:Int=>(.int .i64 x:Value)) (some b) [105,110,116] 1 (fun n=>nw ([sv [43],sv [45],sv [42],sv [47],sv [37],sv [43,43],sv [61,61],sv [33,61],sv [60],sv [60,61],sv [62],sv [62,61],sv [97,110,100],sv [111,114]]) (fun e o=>lpE (α:=Int) (fun a=>[(8,.int .i64 a),(1,mv (some b)),(6,slv (Sl.of (some (e,0)) 14 14)),(7,.int .i64 (Sl.len (Sl.of (some (e,0)) 14 14):Int))]) 0 o (fun a g c=>ift (decide (a<(Sl.len (Sl.of (some (e,0)) 14 14):Int))) (ixa (Sl.of (some (e,0)) 14 14) a fun d=>ldS c (d.1,d.2+a.toNat*1) fun h=>upS sv (fun x:Int=>(.int .i64 x:Value)) (some b) h 2 (fun f=>g (w .i64 (a+1)) f) c) (K (some b) c))) n) m) l) k) j) i) H
theorem QqC (C  K H) (h:QmR C  K H):Qj0 C  K H:=AE h Tryz.func226 rfl Tryz.ntmps226
def QnM (C:Ctx) (l:Qg) (K:Bool→HP) (H:Heap):Prop:=nw (Qg.c l) (fun f i=>ldI i .u8 (f,0+0) fun p=>jnE (α:=Bool) 4 (fun k=>[(10,.bool k),(1,pv (some (f,0)))]) (fun k a=>jnE (α:=Bool) 4 (fun d=>[(15,.bool d),(1,pv (some (f,0)))]) (fun d b=>jnE (α:=Bool) 5 (fun e=>[(21,.bool e)]) (fun e j=>K e j) (fun h=>ift d (ldL b (f,0+3) fun n=>h ((n.len:Int)==0) b) (h false b))) (fun g=>ift k (ldS a (f,0+2) fun m=>g (m==([]:Str)) a) (g false a))) (fun o=>ift (p==0) (ldI i .i64 (f,0+1) fun q=>o (q==0) i) (o false i))) H
theorem Qro (C a K H) (h:QnM C a K H):Qel C a K H:=AE h Tryz.func227 rfl Tryz.ntmps227
def QlF (C:Ctx) (b:Qe) (g:Nat×Nat) (K:Bool→HP) (H:Heap):Prop:=nw (Qe.c b) (fun e a=>ldT a Qe.c (e,0) fun h=>ldB a g fun i=>Qcz C h i (fun f d=>K f d) a) H
theorem QpB (C a b K H) (h:QlF C a b K H):QdC C a b K H:=AE h Tryz.func228 rfl Tryz.ntmps228
def Qar (C:Ctx) (a:Sl) (e:Value) (K:Int→HP) (H:Heap):Prop:=lpE (α:=Int) (fun b=>[(8,.int .i64 b),(0,slv a),(1,e),(7,.int .i64 a.len)]) 0 H (fun b j g=>ift (decide (b<a.len)) (ixa a b fun i=>ldT g Qf.c (i.1,i.2+b.toNat*2) fun h=>callU P0 C e [.agg (Qf.c h).toArray] g (fun v d=>∃ (f:Bool),v=.bool f∧ ift f (K b d) (j (w .i64 (b+1)) d))) (K (-1) g))
theorem Qbt (C b a K H) (h:Qar C b a K H):QbG C b a K H:=AE h Tryz.func229 rfl Tryz.ntmps229
def Qeb (C:Ctx) (b:Option (Nat×Nat)) (c:Sl) (a:Value) (K:HP) (H:Heap):Prop:=nck b fun d=>Qp C (some (d.1,d.2+0)) 40 (fun i f=>QdR C b c [44,32] a (fun g=>nck b fun e=>Qp C (some (e.1,e.2+0)) 41 (fun j h=>K h) g) f) H
theorem QhH (C c b a K H) (h:Qeb C c b a K H):Qcc C c b a K H:=AE h Tryz.func230 rfl Tryz.ntmps230
def QkJ (C:Ctx) (a:Sl) (h:Nat×Nat) (n:Nat×Nat) (K:HP) (H:Heap):Prop:=Qp C (some h) 40 (fun A s=>lpE (α:=Int) (fun b=>[(9,.int .i64 b),(1,pv (some h)),(2,pv (some n)),(7,slv a),(8,.int .i64 a.len)]) 0 s (fun b t m=>ift (decide (b<a.len)) (ixa a b fun r=>ldT m Qg.c (r.1,r.2+b.toNat*4) fun o=>nw (Qg.c Qg.zero) (fun e i=>stT (e,0) (Qg.c o) (fun f=>jnC (α:=Unit) 5 (fun _=>[(1,pv (some h)),(2,pv (some n)),(5,pv (some (e,0))),(7,slv a),(8,.int .i64 a.len),(9,.int .i64 b)]) (fun z d=>ldV d n fun p=>ldT d Qg.c (e,0) fun q=>callU P0 C p [.agg (Qg.c q).toArray] d (fun v k=>v=.tuple #[]∧ t (w .i64 (b+1)) k)) (fun g=>ift (decide (b>0)) (Qn C (some h) [44,32] (fun u x j=>g () j) f) (g () f))) i) m) (Qp C (some h) 41 (fun y l=>K l) m))) H
theorem Qot (C a b c K H) (h:QkJ C a b c K H):QhO C a b c K H:=AE h Tryz.func231 rfl Tryz.ntmps231
def QkK (C:Ctx) (o:Qg) (e:Nat×Nat) (B:Nat×Nat) (K:HP) (H:Heap):Prop:=nw (Qg.c o) (fun d a=>ldI a .u8 (d,0+0) fun f=>ift (f==1) (ldI a .i64 (d,0+1) fun Q=>QdO C (Q==1) (fun P D=>Qn C (some e) P (fun E F g=>K g) D) a) (ift (f==2) (ldI a .i64 (d,0+1) fun q=>QgV C q 10 (fun p h=>Qn C (some e) p (fun G I i=>K i) h) a) (ift (f==3) (ldS a (d,0+2) fun r=>Qn C (some e) r (fun J L j=>Qp C (some e) 98 (fun M k=>K k) j) a) (ift (f==4) (ldS a (d,0+2) fun s=>QiZ C (some e) s (fun l=>K l) a) (ift (f==5) (ldV a B fun t=>ldL a (d,0+3) fun u=>callU P0 C t [slv u] a (fun v m=>v=.tuple #[]∧ K m)) (ldS a (d,0+2) fun x=>Qn C (some e) x (fun N O b=>ldL b (d,0+3) fun y=>ift (decide ((y.len:Int)>0)) (ldV b B fun z=>ldL b (d,0+3) fun A=>callU P0 C z [slv A] b (fun v n=>v=.tuple #[]∧ K n)) (K b)) a)))))) H
theorem Qou (C a b c K H) (h:QkK C a b c K H):QdX C a b c K H:=AE h Tryz.func232 rfl Tryz.ntmps232
end
end Sx
end
