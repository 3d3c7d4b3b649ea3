/-
  Texts of this family, one behind the other: Sh19.
-/
import Derived.Test.YtmeefnmaphmpkaaGreatDoorBF2
noncomputable section
set_option linter.unusedVariables false
set_option linter.unusedSimpArgs false
set_option maxRecDepth 10000
namespace Sx
section
set_option maxRecDepth 100000
set_option maxHeartbeats 4000000
open Go Go.Proofs
def Qku (C:Ctx) (b:Str) (K:Bool→HP) (H:Heap):Prop:=jnC (α:=Str) 13 (fun c=>[(0,sv c)]) (fun c o=>jnE (α:=Bool) 9 (fun f=>[(28,.bool f),(0,sv c)]) (fun f i=>ift f (K false i) (lpE (α:=Int) (fun a=>[(3,.int .i64 a),(0,sv c)]) 0 i (fun a q e=>ift (decide (a<(List.length c:Int))) (ixs c a fun u=>jnE (α:=Bool) 5 (fun h=>[(44,.bool h),(0,sv c),(3,.int .i64 a)]) (fun h j=>ift h (K false j) (q (w .i64 (a+1)) j)) (fun m=>ift (decide (((u.toNat:Int):Int)<48)) (m true e) (ixs c a fun v=>m (decide (((v.toNat:Int):Int)>57)) e))) (K true e)))) (fun k=>ift (c==([]:Str)) (k true o) (jnE (α:=Bool) 4 (fun g=>[(27,.bool g),(0,sv c),(19,.bool (c==([]:Str)))]) (fun g p=>k g p) (fun l=>ift (decide (((List.length c:Int):Int)>1)) (ixs c 0 fun t=>l (((t.toNat:Int):Int)==48) o) (l false o))))) (fun x=>jnE (α:=Bool) 4 (fun r=>[(11,.bool r),(0,sv b)]) (fun r d=>ift r (slS b 1 (List.length b:Int) fun n=>ixs n 0 fun s=>ift (((s.toNat:Int):Int)==48) (K false d) (x n d)) (x b d)) (fun y=>ift (decide (((List.length b:Int):Int)>1)) (ixs b 0 fun z=>y (((z.toNat:Int):Int)==45) H) (y false H)))
theorem Qoe (C a K H) (h:Qku C a K H):QhL C a K H:=AE h Tryz.func250 rfl Tryz.ntmps250
def Qlp (C:Ctx) (a:Str) (K:Bool→HP) (H:Heap):Prop:=hnt 3 [(9,.bool ((a==([116,114,117,101]:Str))||(a==([102,97,108,115,101]:Str)))),(0,sv a)] True (ift ((a==([116,114,117,101]:Str))||(a==([102,97,108,115,101]:Str))) (K false H) (lpE (α:=Int) (fun c=>[(3,.int .i64 c),(0,sv a)]) 0 H (fun c o i=>ift (decide (c<(List.length a:Int))) (ixs a c fun p=>ift (((p.toNat:Int):Int)==46) (slS a 0 c fun m=>Qc9 C m (fun j d=>jnE (α:=Bool) 6 (fun b=>[(30,.bool b)]) (fun b g=>K b g) (fun e=>ift j (slS a (w .i64 (c+1)) (List.length a:Int) fun n=>Qc9 C n (fun k f=>e k f) d) (e false d))) i) (o (w .i64 (c+1)) i)) (Qc9 C a (fun l h=>K l h) i))))
theorem Qpl (C a K H) (h:Qlp C a K H):QiT C a K H:=AE h Tryz.func251 rfl Tryz.ntmps251
def Qkt (C:Ctx) (a:Str) (K:Int→HP) (H:Heap):Prop:=ixs a 0 fun b=>ift (((b.toNat:Int):Int)==45) (K (w .i64 ((List.length a:Int)-1)) H) (K (List.length a:Int) H)
theorem Qod (C a K H) (h:Qkt C a K H):QhK C a K H:=AE h Tryz.func252 rfl Tryz.ntmps252
def QkL (C:Ctx) (a:Str) (K:Int→Bool→HP) (H:Heap):Prop:=QdP C a [45] (fun c h=>jnE (α:=Bool) 4 (fun g=>[(13,.bool g),(0,sv a),(4,sv c)]) (fun g i=>jnE (α:=Bool) 8 (fun b=>[(22,.bool b),(4,sv c)]) (fun b d=>ift b (K 0 false d) (K (List.length c:Int) true d)) (fun e=>ift g (e true i) (ixs c 0 fun f=>hnt 3 [(21,.bool ((((f.toNat:Int):Int)==48)&&(!(a==([48]:Str))))),(4,sv c),(14,.bool g)] True (e ((((f.toNat:Int):Int)==48)&&(!(a==([48]:Str)))) i)))) (fun j=>ift (c==([]:Str)) (j true h) (QbZ C c [48,49,50,51,52,53,54,55,56,57] (fun l k=>j (!(l==([]:Str))) k) h))) H
theorem Qov (C a K H) (h:QkL C a K H):QhP C a K H:=AE h Tryz.func255 rfl Tryz.ntmps255
def QmW (C:Ctx) (b:Str) (K:Bool→HP) (H:Heap):Prop:=hnt 4 [(11,.bool ((b==([]:Str))||(decide (((List.length b:Int):Int)>32)))),(0,sv b)] True (jnE (α:=Bool) 4 (fun i=>[(16,.bool i),(0,sv b)]) (fun i k=>jnE (α:=Bool) 4 (fun e=>[(21,.bool e),(0,sv b)]) (fun e f=>ift e (K false f) (lpE (α:=Int) (fun c=>[(24,.int .i64 c),(0,sv b),(23,.int .i64 (List.length b:Int))]) 0 f (fun c h d=>ift (decide (c<(List.length b:Int))) (ixs b c fun a=>hnt 3 [(35,.bool ((decide (((a.toNat:Int):Int) ≥ 97))&&(decide (((a.toNat:Int):Int)≤122)))),(0,sv b),(4,.int .u8 (a.toNat:Int)),(23,.int .i64 (List.length b:Int)),(24,.int .i64 c)] True (hnt 7 [(43,.bool (((decide (((a.toNat:Int):Int) ≥ 97))&&(decide (((a.toNat:Int):Int)≤122)))||((decide (((a.toNat:Int):Int) ≥ 65))&&(decide (((a.toNat:Int):Int)≤90))))),(0,sv b),(4,.int .u8 (a.toNat:Int)),(23,.int .i64 (List.length b:Int)),(24,.int .i64 c)] (hnt 3 [(42,.bool ((decide (((a.toNat:Int):Int) ≥ 65))&&(decide (((a.toNat:Int):Int)≤90)))),(0,sv b),(4,.int .u8 (a.toNat:Int)),(23,.int .i64 (List.length b:Int)),(24,.int .i64 c),(36,.bool ((decide (((a.toNat:Int):Int) ≥ 97))&&(decide (((a.toNat:Int):Int)≤122))))] True (True)) (hnt 7 [(51,.bool ((((decide (((a.toNat:Int):Int) ≥ 97))&&(decide (((a.toNat:Int):Int)≤122)))||((decide (((a.toNat:Int):Int) ≥ 65))&&(decide (((a.toNat:Int):Int)≤90))))||((decide (((a.toNat:Int):Int) ≥ 48))&&(decide (((a.toNat:Int):Int)≤57))))),(0,sv b),(4,.int .u8 (a.toNat:Int)),(23,.int .i64 (List.length b:Int)),(24,.int .i64 c)] (hnt 3 [(50,.bool ((decide (((a.toNat:Int):Int) ≥ 48))&&(decide (((a.toNat:Int):Int)≤57)))),(0,sv b),(4,.int .u8 (a.toNat:Int)),(23,.int .i64 (List.length b:Int)),(24,.int .i64 c),(44,.bool (((decide (((a.toNat:Int):Int) ≥ 97))&&(decide (((a.toNat:Int):Int)≤122)))||((decide (((a.toNat:Int):Int) ≥ 65))&&(decide (((a.toNat:Int):Int)≤90)))))] True (True)) (hnt 3 [(55,.bool (((((decide (((a.toNat:Int):Int) ≥ 97))&&(decide (((a.toNat:Int):Int)≤122)))||((decide (((a.toNat:Int):Int) ≥ 65))&&(decide (((a.toNat:Int):Int)≤90))))||((decide (((a.toNat:Int):Int) ≥ 48))&&(decide (((a.toNat:Int):Int)≤57))))||(((a.toNat:Int):Int)==95))),(0,sv b),(23,.int .i64 (List.length b:Int)),(24,.int .i64 c)] True (ift (!(((((decide (((a.toNat:Int):Int) ≥ 97))&&(decide (((a.toNat:Int):Int)≤122)))||((decide (((a.toNat:Int):Int) ≥ 65))&&(decide (((a.toNat:Int):Int)≤90))))||((decide (((a.toNat:Int):Int) ≥ 48))&&(decide (((a.toNat:Int):Int)≤57))))||(((a.toNat:Int):Int)==95))) (K false d) (h (w .i64 (c+1)) d)))))) (K true d)))) (fun g=>ift i (g true k) (ixs b 0 fun j=>g (decide (((j.toNat:Int):Int)>122)) k))) (fun l=>ift ((b==([]:Str))||(decide (((List.length b:Int):Int)>32))) (l true H) (ixs b 0 fun m=>l (decide (((m.toNat:Int):Int)<97)) H)))
theorem QqH (C a K H) (h:QmW C a K H):Qer C a K H:=AE h Tryz.func256 rfl Tryz.ntmps256
def Qf6 (C:Ctx) (b:Str) (a:Str) (K:Str→HP) (H:Heap):Prop:=QbP C b a (fun d c=>K d c) H
theorem QjN (C b a K H) (h:Qf6 C b a K H):QdP C b a K H:=AE h Tryz.func261 rfl Tryz.ntmps261
def Qky (C:Ctx) (b:Str) (a:Str) (K:Str→HP) (H:Heap):Prop:=ift ((b==([]:Str))||(a==([]:Str))) (K b H) (jn (α:=Bool) (fun A d=>ift A (dr d fun c=>ixs a 0 fun o=>ixs a 0 fun p=>QiV C b (o.toNat:Int) (fun q f=>Heap.le c f∧ QjF C q (p.toNat:Int) (fun r g=>Heap.le c g∧ K r g) f) d) (Qac C a (fun s t i=>nw ((List.replicate 256 (.bool false:Value))) (fun e j=>stC 256 (e,0) s (fun h=>ift t (Qcb C b (some (e,0)) (fun u k=>Qcx C u (some (e,0)) (fun v l=>K v l) k) h) (Qhb C b a (fun x m=>QhM C x a (fun y n=>K y n) m) h)) j) i) d)) (fun z=>ift (((List.length a:Int):Int)==1) (ixs a 0 fun B=>z (decide (((B.toNat:Int):Int)<128)) H) (z false H)))
theorem Qoi (C p_s p_cutset K H) (h:Qky C p_s p_cutset K H):QbZ C p_s p_cutset K H:=by
 refine Ye Tryz.func262 rfl Tryz.ntmps262 [(0,sv p_s),(1,sv p_cutset)] (Zo (Za (GL.nil (GC.seq (Zo (Zm (Zv (OV.sbin (a:=p_s) (b:=([]:Str)) (v:=.bool (p_s == ([]:Str))) rfl rfl rfl) (Zm (GL.cut0 3 [(12,.bool ((p_s == ([]:Str)) || (p_cutset == ([]:Str)))),(0,sv p_s),(1,sv p_cutset)] ?_ ?_)))))))))
 rcases Zb (p_s == ([]:Str)) with d | d
 refine Zk d (Zk d (Zt d ?_))
 exact Xi I3 () rfl ⟨(by rw [d]; rfl),rfl,rfl,trivial⟩
 refine Zu d Ym (Zu d (OV.sbin (a:=p_cutset) (b:=([]:Str)) (v:=.bool (p_cutset == ([]:Str))) rfl rfl rfl) (Zn d ?_))
 exact Xi I3 () rfl ⟨(by rw [d]; rfl),rfl,rfl,trivial⟩
 refine GL.nil (Yd h (fun u2 h=>?_) fun u2 h=>?_)
 refine Zo (Zm (Za (GL.nil ?_)))
 exact Y1 I3 ⟨p_s,rfl,h⟩
 refine GC.skip (GC.seq (Zo (Zm (Zr (Zi (.bool (((List.length p_cutset:Int):Int) == 1)) (Zm ?_))))))
 obtain ⟨Y,h,B⟩:=h
 refine GL.cut (α:=Bool) 4 Y (fun b3=>[(21,.bool b3),(0,sv p_s),(1,sv p_cutset)]) ?_ ?_
 rcases h.em with ⟨f,h⟩ | ⟨f,h⟩
 refine Zu f Ym ?_
 obtain ⟨N,D,E,h⟩:=h
 refine Zu f (Xq rfl rfl rfl D E) (Zu f (OV.ibin (v:=.bool (decide (((N.toNat:Int):Int) < 128))) rfl rfl rfl) (Zt f ?_))
 exact Yj I3 (decide (((N.toNat:Int):Int) < 128)) h
 refine Zk f (Zk f (Zk f (Zn f ?_)))
 exact Yj I3 false h
 intro b3 z h
 replace h:=B b3 z h
 refine GL.nil (Yd h (fun L h=>?_) fun L h=>?_)
 refine GC.seq ?_
 obtain ⟨m,g,h⟩:=h
 refine GC.any (Hs:=m) (by kernel_rfl) g (Zp 0 rfl Ym (Zp 1 rfl Ym ?_))
 obtain ⟨Z,q,t,h⟩:=h
 refine Zp 2 rfl (Xq rfl rfl rfl q t) (Zp 4 rfl Ym ?_)
 obtain ⟨a0,r,u,h⟩:=h
 refine Zp 5 rfl (Xq rfl rfl rfl r u) (GA.eff 3 rfl (by kernel_rfl) (Zc h Qex ?_))
 rintro _ O ⟨a1,rfl,h⟩
 obtain ⟨i,h⟩:=h
 refine GA.back i (GA.eff 6 rfl (by kernel_rfl) (Zc h Qfa ?_))
 rintro _ P ⟨F,rfl,h⟩
 obtain ⟨j,h⟩:=h
 refine GA.back j (Zp 7 rfl Ya (GA.done (by kernel_rfl) (GL.nil ?_)))
 exact Y1 I3 ⟨F,rfl,h⟩
 refine GC.skip (GC.seq (Zo (Zm (Zc h Qe9 ?_))))
 rintro _ Q ⟨y,G,rfl,h⟩
 refine Zm (Yv (.agg (List.toArray y)) rfl rfl (Yv (.bool G) rfl rfl (GL.alloc (cs:=(List.replicate 256 (.bool false:Value))) h trivial rfl rfl rfl ?_)))
 intro A R h
 obtain ⟨x,o,h⟩:=h
 refine Xl (p:=(A,0)) (vs:=y) h trivial rfl rfl o (by rw [x]; rfl) ?_
 intro S h
 refine Za (GL.nil (Zo (Zm (GL.nil (Yd h (fun M h=>?_) fun M h=>?_)))))
 refine Zo (Zm (Zc h Qd1 ?_))
 rintro _ T ⟨a2,rfl,h⟩
 refine Zc h Qew ?_
 rintro _ U ⟨I,rfl,h⟩
 refine Za (GL.nil ?_)
 exact Y1 I3 ⟨I,rfl,h⟩
 refine GC.skip (Zo (Zm (Zm (Zc h Qdm ?_))))
 rintro _ W ⟨a3,rfl,h⟩
 refine Zm (Zc h QdJ ?_)
 rintro _ X ⟨J,rfl,h⟩
 refine Za (GL.nil ?_)
 exact Y1 I3 ⟨J,rfl,h⟩
def QbM (C:Ctx) (b:Str) (a:Str) (K:Str→HP) (H:Heap):Prop:=Qai C b a (fun d c=>ift d (slS b (List.length a:Int) (List.length b:Int) fun e=>K e c) (K b c)) H
theorem QeU (C b a K H) (h:QbM C b a K H):QbP C b a K H:=AE h Tryz.func268 rfl Tryz.ntmps268
def Qfk (C:Ctx) (a:Str) (K:List Value→Bool→HP) (H:Heap):Prop:=nw ((List.replicate 256 (.bool false:Value))) (fun b m=>lp (α:=Int) 0 m (fun l n e=>ift (decide ((l:Int)<(List.length a:Int))) (ixs a l fun g=>ift (decide (((g.toNat:Int):Int) ≥ 128)) (ldC e 256 (b,0) fun h=>stC 256 (b,0) h (fun c=>ldC c 256 (b,0) fun i=>K i false c) e) (ixr (b,0) 256 (g.toNat:Int) <| st ((b,0).1,(b,0).2+((g.toNat:Int):Int).toNat*1) (.bool true) (fun f=>n (w .i64 (l+1)) f) e)) (ldC e 256 (b,0) fun j=>stC 256 (b,0) j (fun d=>ldC d 256 (b,0) fun k=>K k true d) e))) H
theorem QiF (C p_chars K H) (h:Qfk C p_chars K H):Qac C p_chars K H:=by
 refine Ye Tryz.func271 rfl Tryz.ntmps271 [(0,sv p_chars)] (Zo (GL.alloc (cs:=(List.replicate 256 (.bool false:Value))) h trivial rfl rfl rfl ?_))
 intro b H2 h
 refine Za (GL.nil (GC.seq (Zo (Za (GL.nil (GC.block (Yp h (fun A=>[(4,.int .i64 A),(0,sv p_chars),(2,pv (some (b,0)))]) ?_)))))))
 intro A Q R h
 refine GC.seq (Zo (Zm (Zm (Zr (Zi (.bool (decide ((A:Int) < (List.length p_chars:Int)))) (GL.nil (Yd h (fun P h=>?_) fun P h=>?_)))))))
 refine GC.skip (GC.seq (GC.block (Zo (Zm (Zm (Ys h fun L h=>?_))))))
 refine Za (GL.nil (GC.seq (Zo (Zm (Zi (.bool (decide (((L.toNat:Int):Int) ≥ 128))) (GL.nil (Yd h (fun E h=>?_) fun E h=>?_)))))))
 refine Zo ?_
 obtain ⟨u,j,F,h⟩:=h
 refine Zv (Xm (p:=(b,0)) (cs:=u) rfl rfl (by rw [j]; rfl) F) ?_
 obtain ⟨m,d,h⟩:=h
 refine Xl (p:=(b,0)) (vs:=u) h trivial rfl rfl d (by rw [m]; rfl) ?_
 intro M h
 refine Za (GL.nil ?_)
 obtain ⟨x,o,G,h⟩:=h
 exact GC.ret (fun _ _ B D=>QoZ rfl (Xn (p:=(b,0)) (cs:=x) rfl rfl (by rw [o]; rfl) G) (RV.tmp rfl) B D ⟨x,false,rfl,h⟩)
 refine GC.skip (GC.region (Zm ?_))
 obtain ⟨g,i,h⟩:=h
 refine Zv (Xx (p:=(b,0)) rfl rfl rfl rfl g i) (GL.store (p:=((b,0).1,(b,0).2+((L.toNat:Int):Int).toNat*1)) (v:=.bool true) h trivial rfl rfl rfl rfl ?_)
 intro N h
 refine Xy I3 (GC.region (Zm (Zi (.int .i64 (w .i64 (A+1))) (Za ?_))))
 exact Yj I3 (w .i64 (A+1)) h
 refine Xr I3 (Zo ?_)
 obtain ⟨y,q,I,h⟩:=h
 refine Zv (Xm (p:=(b,0)) (cs:=y) rfl rfl (by rw [q]; rfl) I) ?_
 obtain ⟨r,f,h⟩:=h
 refine Xl (p:=(b,0)) (vs:=y) h trivial rfl rfl f (by rw [r]; rfl) ?_
 intro O h
 refine Za (GL.nil ?_)
 obtain ⟨z,t,J,h⟩:=h
 exact GC.ret (fun _ _ B D=>QoZ rfl (Xn (p:=(b,0)) (cs:=z) rfl rfl (by rw [t]; rfl) J) (RV.tmp rfl) B D ⟨z,true,rfl,h⟩)
def QeI (C:Ctx) (d:Str) (a:Option (Nat×Nat)) (K:Str→HP) (H:Heap):Prop:=jnC (α:=Str) 16 (fun g=>[(0,sv g)]) (fun g j=>K g j) (fun i=>lpE (α:=Str) (fun b=>[(0,sv b),(1,pv a)]) d H (fun b k h=>ift (decide (((List.length b:Int):Int)>0)) (ixs b 0 fun l=>QaR C a (l.toNat:Int) (fun e c=>ift (!e) (i b c) (slS b 1 (List.length b:Int) fun f=>k f c)) h) (i b h)))
theorem Qh4 (C b a K H) (h:QeI C b a K H):Qcx C b a K H:=AE h Tryz.func272 rfl Tryz.ntmps272
def Qea (C:Ctx) (d:Str) (b:Option (Nat×Nat)) (K:Str→HP) (H:Heap):Prop:=jnC (α:=Str) 16 (fun g=>[(0,sv g)]) (fun g j=>K g j) (fun i=>lpE (α:=Str) (fun a=>[(0,sv a),(1,pv b)]) d H (fun a k h=>ift (decide (((List.length a:Int):Int)>0)) (ixs a (w .i64 ((List.length a:Int)-1)) fun l=>QaR C b (l.toNat:Int) (fun e c=>ift (!e) (i a c) (slS a 0 (w .i64 ((List.length a:Int)-1)) fun f=>k f c)) h) (i a h)))
theorem QhD (C b a K H) (h:Qea C b a K H):Qcb C b a K H:=AE h Tryz.func273 rfl Tryz.ntmps273
end
end Sx
end
