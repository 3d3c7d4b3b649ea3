/-
  Texts of this family, one behind the other: Sh2.
-/
import Derived.Test.YtmeefnmaphmpkaaGreatDoorBF2
noncomputable section
set_option linter.unusedVariables false
set_option linter.unusedSimpArgs false
set_option maxRecDepth 10000
namespace Sx
section
set_option maxRecDepth 100000
set_option maxHeartbeats 4000000
open Go Go.Proofs
def Qfh (C:Ctx) (a:Sl) (K:Bool→HP) (H:Heap):Prop:=QiP C a (fun r1 H2=>ift r1 (QgF C (fun r4 H5=>K r4 H5) H2) (QbN C a (fun r6 r7 r8 H9=>nw (Qa.c Qa.zero) (fun d u=>nw (Qc.c Qc.zero) (fun q v=>stT (d,0) (Qa.c r6) (fun x=>stT (q,0) (Qc.c r7) (fun y=>QeZ C a (fun P Q R z=>nw (Qa.c Qa.zero) (fun e A=>nw (Qc.c Qc.zero) (fun i B=>stT (e,0) (Qa.c P) (fun D=>stT (i,0) (Qc.c Q) (fun b=>jnE (α:=Bool) 8 (fun j=>[(38,.bool j),(0,slv a),(3,pv (some (d,0))),(6,pv (some (e,0)))]) (fun j f=>jnE (α:=Bool) 5 (fun k=>[(44,.bool k),(0,slv a),(3,pv (some (d,0))),(6,pv (some (e,0)))]) (fun k g=>ift k (K false g) (ldT g Qa.c (d,0) fun aa=>QiQ C aa (fun F=>QbN C a (fun T U ai G=>nw (Qa.c Qa.zero) (fun r I=>nw (Qc.c Qc.zero) (fun O J=>stT (r,0) (Qa.c T) (fun L=>stT (O,0) (Qc.c U) (fun h=>ldT h Qa.c (r,0) fun ab=>ldT h Qa.c (e,0) fun ac=>Qhe C ab ac (fun V m=>jnE (α:=Bool) 2 (fun l=>[(58,.bool l)]) (fun l N=>K l N) (fun p=>ift V (QgF C (fun W M=>p W M) m) (p false m))) h) L) J) I) G) F) g)) (fun o=>ift j (o true f) (ldT f Qa.c (d,0) fun Y=>ldT f Qa.c (e,0) fun Z=>Qhe C Y Z (fun S E=>o (!S) E) f))) (fun n=>ift (r8 !=R) (n true b) (ldT b Qc.c (q,0) fun X=>ldS b (i,0+0) fun s=>ldT b Qk.c (i,0+1) fun t=>hvl (.agg (Qc.c (⟨s,t⟩:Qc)).toArray) (n (!(csEq (Qc.c X) (Qc.c (⟨s,t⟩:Qc)))) b)))) D) B) A) z) y) x) v) u) H9) H2)) H
theorem QiC (C a K H) (h:Qfh C a K H):Qa7 C a K H:=AE h Tryz.func4 rfl Tryz.ntmps4
def Qio (C:Ctx) (a:Sl) (K:Qa→Qc→Int→HP) (H:Heap):Prop:=nw (Qa.c Qa.zero) (fun b H2=>nw (Qc.c Qc.zero) (fun j H4=>nw ([.int .i64 0]) (fun k I=>ift ((a.len:Int)==0) (stT (b,0) (Qa.c (⟨[],Sl.nil,Sl.nil,Sl.nil,Sl.nil,Sl.nil⟩:Qa)) (fun H8=>stT (j,0) (Qc.c (⟨[],Qk.zero⟩:Qc)) (fun H9=>st (k,0) (.int .i64 1) (fun e=>ldT e Qa.c (b,0) fun T=>ldT e Qc.c (j,0) fun U=>ldI e .i64 (k,0) fun V=>K T U V e) H9) H8) I) (ift (decide ((a.len:Int)>8)) (stT (b,0) (Qa.c (⟨[],Sl.nil,Sl.nil,Sl.nil,Sl.nil,Sl.nil⟩:Qa)) (fun y=>stT (j,0) (Qc.c (⟨[],Qk.zero⟩:Qc)) (fun z=>st (k,0) (.int .i64 3) (fun f=>ldT f Qa.c (b,0) fun W=>ldT f Qc.c (j,0) fun X=>ldI f .i64 (k,0) fun Y=>K W X Y f) z) y) I) (∃ E27:Value→HP,(∀ v29 H30,E27 v29 H30→SpecD P0 C 21 [pv (some (b,0)),pv (some (j,0)),pv (some (k,0))] (.panicking [⟨v29,false,false⟩]) H30 (fun u g=>settle u=.returning∧ ldT g Qa.c (b,0) fun Z=>ldT g Qc.c (j,0) fun aa=>ldI g .i64 (k,0) fun ab=>K Z aa ab g))∧ mkM (fun S A=>nw (Q8.c (⟨a,(some S)⟩:Q8)) (fun d B=>Qcr C E27 (some (d,0)) (fun D=>Qca C E27 (some (d,0)) (fun E=>lp (α:=Int) 0 E (fun m Q o=>ift (decide ((m:Int)<a.len)) (ixa a m fun v=>ldT o Qa.c (v.1,v.2+(m:Int).toNat*6) fun ac=>nw (Qa.c Qa.zero) (fun s F=>stT (s,0) (Qa.c ac) (fun p=>ldT p Qa.c (s,0) fun ad=>QcU C E27 (some (d,0)) ad (fun G=>Q (w .i64 (m+1)) G) p) F) o) (Qcs C E27 (some (d,0)) (fun q=>ixa a 0 fun l=>ldS q ((l.1,l.2+(0:Int).toNat*6).1,(l.1,l.2+(0:Int).toNat*6).2+0) fun ae=>st ((b,0).1,(b,0).2+0) (sv ae) (fun J=>lp (α:=Int) 0 J (fun n R h=>ift (decide ((n:Int)<a.len)) (ixa a n fun x=>ldT h Qa.c (x.1,x.2+(n:Int).toNat*6) fun af=>nw (Qa.c Qa.zero) (fun t L=>stT (t,0) (Qa.c af) (fun r=>ldT r Qa.c (t,0) fun ag=>Qc8 C E27 (some (d,0)) (some (b,0)) ag (fun M=>R (w .i64 (n+1)) M) r) L) h) (ldT h Qa.c (b,0) fun ah=>stT (b,0) (Qa.c ah) (fun N=>stT (j,0) (Qc.c (⟨[],Qk.zero⟩:Qc)) (fun O=>st (k,0) (.int .i64 0) (fun P=>SpecD P0 C 21 [pv (some (b,0)),pv (some (j,0)),pv (some (k,0))] .returning P (fun u i=>u=.returning∧ ldT i Qa.c (b,0) fun ai=>ldT i Qc.c (j,0) fun aj=>ldI i .i64 (k,0) fun ak=>K ai aj ak i)) O) N) h))) q) o))) D) B) A) I))) H4) H2) H
theorem Qm4 (C p_l K H) (h:Qio C p_l K H):QbN C p_l K H:=by
 refine Xae Tryz.func12 rfl Tryz.ntmps12 rfl (GC.sub [(0,slv p_l)] ⟨rfl,trivial⟩ (Zo (GL.alloc (cs:=Qa.c Qa.zero) h trivial rfl rfl rfl ?_)))
 intro g H2 h
 refine GL.alloc (cs:=Qc.c Qc.zero) h trivial rfl rfl rfl ?_
 intro b3 H4 h
 refine GL.alloc (cs:=[.int .i64 0]) h trivial rfl rfl rfl ?_
 intro b5 H6 h
 refine GL.nil (GC.seq (GC.block (Zo (Zm (Zq (Zi (.bool (((Sl.len p_l:Int):Int) == 0)) (Za (GL.nil (Yd h (fun u7 h=>?_) fun u7 h=>?_)))))))))
 refine Zo (Zv (OV.build (vs:=[]) (v:=.agg (Qa.c (⟨[],Sl.nil,Sl.nil,Sl.nil,Sl.nil,Sl.nil⟩:Qa)).toArray) rfl (fun _=>by kernel_rfl)) (Zv (OV.build (vs:=[]) (v:=.agg (Qc.c (⟨[],Qk.zero⟩:Qc)).toArray) rfl (fun _=>by kernel_rfl)) (Xl (p:=(g,0)) (vs:=Qa.c (⟨[],Sl.nil,Sl.nil,Sl.nil,Sl.nil,Sl.nil⟩:Qa)) h trivial rfl rfl rfl rfl ?_)))
 intro H8 h
 refine Xl (p:=(b3,0)) (vs:=Qc.c (⟨[],Qk.zero⟩:Qc)) h trivial rfl rfl rfl rfl ?_
 intro H9 h
 refine GL.store (p:=(b5,0)) (v:=.int .i64 1) h trivial rfl rfl rfl rfl ?_
 intro a1 h
 refine GL.nil ?_
 obtain ⟨r,E,h⟩:=h
 obtain ⟨t,F,h⟩:=h
 obtain ⟨R,G,h⟩:=h
 exact GC.ret (fun _ _ o q=>postD o (Qo0 rfl (Xn (p:=(g,0)) (cs:=Qa.c r) rfl rfl rfl E) (Xn (p:=(b3,0)) (cs:=Qc.c t) rfl rfl rfl F) (RV.cell (p:=(b5,0)) rfl rfl G) o q ⟨r,t,R,rfl,h⟩))
 refine Zo (Zm (Zq (Zi (.bool (decide (((Sl.len p_l:Int):Int) > 8))) (Za (GL.nil (Yd h (fun A h=>?_) fun A h=>?_))))))
 refine Zo (Zv (OV.build (vs:=[]) (v:=.agg (Qa.c (⟨[],Sl.nil,Sl.nil,Sl.nil,Sl.nil,Sl.nil⟩:Qa)).toArray) rfl (fun _=>by kernel_rfl)) (Zv (OV.build (vs:=[]) (v:=.agg (Qc.c (⟨[],Qk.zero⟩:Qc)).toArray) rfl (fun _=>by kernel_rfl)) (Xl (p:=(g,0)) (vs:=Qa.c (⟨[],Sl.nil,Sl.nil,Sl.nil,Sl.nil,Sl.nil⟩:Qa)) h trivial rfl rfl rfl rfl ?_)))
 intro a2 h
 refine Xl (p:=(b3,0)) (vs:=Qc.c (⟨[],Qk.zero⟩:Qc)) h trivial rfl rfl rfl rfl ?_
 intro a3 h
 refine GL.store (p:=(b5,0)) (v:=.int .i64 3) h trivial rfl rfl rfl rfl ?_
 intro a4 h
 refine GL.nil ?_
 obtain ⟨u,I,h⟩:=h
 obtain ⟨x,J,h⟩:=h
 obtain ⟨S,L,h⟩:=h
 exact GC.ret (fun _ _ o q=>postD o (Qo0 rfl (Xn (p:=(g,0)) (cs:=Qa.c u) rfl rfl rfl I) (Xn (p:=(b3,0)) (cs:=Qc.c x) rfl rfl rfl J) (RV.cell (p:=(b5,0)) rfl rfl L) o q ⟨u,x,S,rfl,h⟩))
 refine XF I3 (Zo (Zv (OV.makeFunc (vs:=[]) (us:=[pv (some (g,0)),pv (some (b3,0)),pv (some (b5,0))]) rfl rfl) ?_))
 obtain ⟨a0,b,h⟩:=h
 refine GL.defer (f:=21) (cs:=[pv (some (g,0)),pv (some (b3,0)),pv (some (b5,0))]) trivial rfl (GL.nil (Zo (Zm (GL.makeMap h trivial rfl ?_))))
 intro m a5 h
 refine Zv (OV.build (vs:=[(0,slv p_l),(1,mv (some m))]) (v:=.agg (Q8.c (⟨p_l,(some m)⟩:Q8)).toArray) rfl (fun _=>by kernel_rfl)) (GL.box (v:=.agg (Q8.c (⟨p_l,(some m)⟩:Q8)).toArray) (cs:=Q8.c (⟨p_l,(some m)⟩:Q8)) h trivial rfl rfl rfl ?_)
 intro d a6 h
 refine Za (GL.nil (Zo (Zm (Xz h (Qmq Qa.c Qc.c rfl rfl rfl rfl rfl (fun _=>rfl) rfl (fun _=>rfl) rfl QaB b) trivial rfl Qeu (vs:=[pv (some (d,0))]) rfl ?_))))
 rintro _ a7 ⟨rfl,h⟩
 refine GL.nil (Zo (Zm (Xz h (Qmq Qa.c Qc.c rfl rfl rfl rfl rfl (fun _=>rfl) rfl (fun _=>rfl) rfl QaB b) trivial rfl QdZ (vs:=[pv (some (d,0))]) rfl ?_)))
 rintro _ a8 ⟨rfl,h⟩
 refine GL.nil (GC.seq (Zo (Zm (Zq (Zm (GL.nil (GC.block (Yp h (fun i=>[(33,.int .i64 i),(0,slv p_l),(2,pv (some (g,0))),(3,pv (some (b3,0))),(4,pv (some (b5,0))),(5,pv (some (d,0))),(31,slv p_l),(32,.int .i64 (Sl.len p_l:Int))]) ?_))))))))
 intro i a9 c5 h
 refine Zo (Zi (.bool (decide ((i:Int) < (Sl.len p_l:Int)))) (GL.nil (GC.seq (Yd h (fun B h=>?_) fun B h=>?_))))
 refine GC.skip (GC.seq (GC.block (Zo (Yx h fun c7 h=>?_))))
 obtain ⟨T,M,h⟩:=h
 refine Zv (Xm rfl rfl rfl M) (GL.alloc (cs:=Qa.c Qa.zero) h trivial rfl rfl rfl ?_)
 intro y b0 h
 refine Xl (p:=(y,0)) (vs:=Qa.c T) h trivial rfl rfl rfl rfl ?_
 intro b2 h
 refine GL.nil (GC.region (Zm ?_))
 obtain ⟨U,N,h⟩:=h
 refine Zv (Xm rfl rfl rfl N) (Xz h (Qmq Qa.c Qc.c rfl rfl rfl rfl rfl (fun _=>rfl) rfl (fun _=>rfl) rfl QaB b) trivial rfl Qe8 (vs:=[pv (some (d,0)),.agg (Qa.c U).toArray]) rfl ?_)
 rintro _ b4 ⟨rfl,h⟩
 refine Xy I3 (GC.region (Zi (.int .i64 (w .i64 (i+1))) (Zm ?_)))
 exact Yj I3 (w .i64 (i+1)) h
 refine Xr I3 (Zo (Zm (Xz h (Qmq Qa.c Qc.c rfl rfl rfl rfl rfl (fun _=>rfl) rfl (fun _=>rfl) rfl QaB b) trivial rfl Qev (vs:=[pv (some (d,0))]) rfl ?_)))
 rintro _ b6 ⟨rfl,h⟩
 refine GL.nil (Zo (Zm (Yx h fun c8 h=>?_)))
 refine Zf (Yl h fun W h=>?_)
 refine Zf (GL.store (p:=((g,0).1,(g,0).2+0)) (v:=sv W) h trivial rfl rfl rfl rfl ?_)
 intro b7 h
 refine GL.nil (GC.seq (Zo (Zm (Zq (Zm (GL.nil (GC.block (Yp h (fun j=>[(50,.int .i64 j),(2,pv (some (g,0))),(3,pv (some (b3,0))),(4,pv (some (b5,0))),(5,pv (some (d,0))),(48,slv p_l),(49,.int .i64 (Sl.len p_l:Int))]) ?_))))))))
 intro j b8 c6 h
 refine Zo (Zi (.bool (decide ((j:Int) < (Sl.len p_l:Int)))) (GL.nil (GC.seq (Yd h (fun D h=>?_) fun D h=>?_))))
 refine GC.skip (GC.seq (GC.block (Zo (Yx h fun c9 h=>?_))))
 obtain ⟨X,O,h⟩:=h
 refine Zv (Xm rfl rfl rfl O) (GL.alloc (cs:=Qa.c Qa.zero) h trivial rfl rfl rfl ?_)
 intro z b9 h
 refine Xl (p:=(z,0)) (vs:=Qa.c X) h trivial rfl rfl rfl rfl ?_
 intro c0 h
 refine GL.nil (GC.region (Zm ?_))
 obtain ⟨Y,P,h⟩:=h
 refine Zv (Xm rfl rfl rfl P) (Xz h (Qmq Qa.c Qc.c rfl rfl rfl rfl rfl (fun _=>rfl) rfl (fun _=>rfl) rfl QaB b) trivial rfl Qfv (vs:=[pv (some (d,0)),pv (some (g,0)),.agg (Qa.c Y).toArray]) rfl ?_)
 rintro _ c1 ⟨rfl,h⟩
 refine Xy I3 (GC.region (Zi (.int .i64 (w .i64 (j+1))) (Zm ?_)))
 exact Yj I3 (w .i64 (j+1)) h
 refine Xr I3 (Zo ?_)
 obtain ⟨Z,Q,h⟩:=h
 refine Zv (Xm rfl rfl rfl Q) (Zv (OV.build (vs:=[]) (v:=.agg (Qc.c (⟨[],Qk.zero⟩:Qc)).toArray) rfl (fun _=>by kernel_rfl)) (Xl (p:=(g,0)) (vs:=Qa.c Z) h trivial rfl rfl rfl rfl ?_))
 intro c2 h
 refine Xl (p:=(b3,0)) (vs:=Qc.c (⟨[],Qk.zero⟩:Qc)) h trivial rfl rfl rfl rfl ?_
 intro c3 h
 refine GL.store (p:=(b5,0)) (v:=.int .i64 0) h trivial rfl rfl rfl rfl ?_
 intro c4 h
 refine GL.nil ?_
 exact GC.ret (fun _ _ o q=>QvU Qa.c Qc.c rfl rfl rfl rfl rfl (fun _=>rfl) rfl (fun _=>rfl) rfl QaB o q h)
def Qlj (C:Ctx) (K:Bool→HP) (H:Heap):Prop:=hvl (.agg (Qf.c (⟨[105,110,116],Sl.nil⟩:Qf)).toArray) (hvl (.agg (Ql.c (⟨[120],(⟨[105,110,116],Sl.nil⟩:Qf)⟩:Ql)).toArray) (nw ((Ql.c (⟨[120],(⟨[105,110,116],Sl.nil⟩:Qf)⟩:Ql))++[]) (fun b1 H2=>hvl (.agg (Qe.c (⟨2,Qk.zero,[88],Qg.zero,Sl.nil⟩:Qe)).toArray) (nw ((Qe.c (⟨2,Qk.zero,[88],Qg.zero,Sl.nil⟩:Qe))++[]) (fun b3 H4=>hvl (.agg (Qq.c (⟨Qk.zero,[98,97,115,101]⟩:Qq)).toArray) (nw ((Qq.c (⟨Qk.zero,[98,97,115,101]⟩:Qq))++[]) (fun b5 H6=>hvl (.agg (Qh.c (⟨Qk.zero,false,false,[112],(Sl.of (some (b1,0)) 1 1)⟩:Qh)).toArray) (nw ((Qh.c (⟨Qk.zero,false,false,[112],(Sl.of (some (b1,0)) 1 1)⟩:Qh))++[]) (fun b7 H8=>nw ([sv []]) (fun b9 aj=>hvl (.agg (Qm.c (⟨1,Qk.zero,[98,97,115,101,46,101],(Sl.of (some (b3,0)) 1 1)⟩:Qm)).toArray) (nw ((Qm.c (⟨1,Qk.zero,[98,97,115,101,46,101],(Sl.of (some (b3,0)) 1 1)⟩:Qm))++[]) (fun S ak=>hvl (.agg (Qi.c (⟨Qk.zero,[112],(Sl.of (some (b3,0)) 1 1),(Sl.of (some (b9,0)) 1 1),(Sl.of (some (S,0)) 1 1)⟩:Qi)).toArray) (nw ((Qi.c (⟨Qk.zero,[112],(Sl.of (some (b3,0)) 1 1),(Sl.of (some (b9,0)) 1 1),(Sl.of (some (S,0)) 1 1)⟩:Qi))++[]) (fun T al=>hvl (.agg (Qa.c (⟨[103,114,97,112,104],(Sl.of (some (b5,0)) 1 1),Sl.nil,(Sl.of (some (b7,0)) 1 1),(Sl.of (some (T,0)) 1 1),Sl.nil⟩:Qa)).toArray) (hvl (.agg (Qh.c (⟨Qk.zero,true,true,[101],(Sl.of (some (b1,0)) 1 1)⟩:Qh)).toArray) (nw ((Qh.c (⟨Qk.zero,true,true,[101],(Sl.of (some (b1,0)) 1 1)⟩:Qh))++[]) (fun U am=>hvl (.agg (Qa.c (⟨[98,97,115,101],Sl.nil,Sl.nil,(Sl.of (some (U,0)) 1 1),Sl.nil,Sl.nil⟩:Qa)).toArray) (nw ((Qa.c (⟨[103,114,97,112,104],(Sl.of (some (b5,0)) 1 1),Sl.nil,(Sl.of (some (b7,0)) 1 1),(Sl.of (some (T,0)) 1 1),Sl.nil⟩:Qa))++(Qa.c (⟨[98,97,115,101],Sl.nil,Sl.nil,(Sl.of (some (U,0)) 1 1),Sl.nil,Sl.nil⟩:Qa))++[]) (fun au an=>QbN C (Sl.of (some (au,0)) 2 2) (fun av aw ax ao=>nw (Qa.c Qa.zero) (fun a ap=>nw (Qc.c Qc.zero) (fun V aq=>stT (a,0) (Qa.c av) (fun ar=>stT (V,0) (Qc.c aw) (fun t=>jnE (α:=Bool) 4 (fun z=>[(40,.bool z),(3,pv (some (a,0)))]) (fun z u=>jnE (α:=Bool) 4 (fun A=>[(45,.bool A),(3,pv (some (a,0)))]) (fun A v=>jnE (α:=Bool) 5 (fun B=>[(51,.bool B),(3,pv (some (a,0)))]) (fun B x=>jnE (α:=Bool) 5 (fun D=>[(57,.bool D),(3,pv (some (a,0)))]) (fun D i=>jnE (α:=Bool) 7 (fun E=>[(65,.bool E),(3,pv (some (a,0)))]) (fun E j=>jnE (α:=Bool) 7 (fun F=>[(73,.bool F),(3,pv (some (a,0)))]) (fun F k=>jnE (α:=Bool) 6 (fun G=>[(80,.bool G),(3,pv (some (a,0)))]) (fun G y=>jnE (α:=Bool) 5 (fun I=>[(86,.bool I),(3,pv (some (a,0)))]) (fun I d=>jnE (α:=Bool) 7 (fun f=>[(94,.bool f),(3,pv (some (a,0)))]) (fun f b=>jnE (α:=Bool) 10 (fun g=>[(105,.bool g),(3,pv (some (a,0)))]) (fun g e=>jnE (α:=Bool) 8 (fun h=>[(114,.bool h)]) (fun h J=>K h J) (fun o=>ift g (ldL e (a,0+4) fun af=>ixa af 0 fun s=>ldL e (s.1,s.2+(0:Int).toNat*6+3) fun ag=>o ((ag.len:Int)==1) e) (o false e))) (fun n=>ift f (ldL b (a,0+4) fun ac=>ixa ac 0 fun q=>ldL b (q.1,q.2+(0:Int).toNat*6+5) fun ad=>ixa ad 0 fun r=>ldS b (r.1,r.2+(0:Int).toNat*5+3) fun ae=>n (ae==([98,97,115,101,46,101]:Str)) b) (n false b))) (fun m=>ift I (ldL d (a,0+4) fun aa=>ixa aa 0 fun p=>ldS d (p.1,p.2+(0:Int).toNat*6+2) fun ab=>m (ab==([103,114,97,112,104,46,112]:Str)) d) (m false d))) (fun l=>ift G (ldL y (a,0+4) fun Z=>l ((Z.len:Int)==1) y) (l false y))) (fun R=>ift F (ldL k (a,0+3) fun aG=>ixa aG 1 fun Y=>ldB k (Y.1,Y.2+(1:Int).toNat*6+3) fun aH=>R aH k) (R false k))) (fun Q=>ift E (ldL j (a,0+3) fun aE=>ixa aE 1 fun X=>ldS j (X.1,X.2+(1:Int).toNat*6+4) fun aF=>Q (aF==([98,97,115,101,46,101]:Str)) j) (Q false j))) (fun P=>ift D (ldL i (a,0+3) fun aC=>ixa aC 0 fun W=>ldS i (W.1,W.2+(0:Int).toNat*6+4) fun aD=>P (aD==([103,114,97,112,104,46,112]:Str)) i) (P false i))) (fun O=>ift B (ldL x (a,0+3) fun aB=>O ((aB.len:Int)==2) x) (O false x))) (fun N=>ift A (ldL v (a,0+1) fun aA=>N ((aA.len:Int)==0) v) (N false v))) (fun M=>ift z (ldS u (a,0+0) fun az=>M (az==([103,114,97,112,104]:Str)) u) (M false u))) (fun L=>ift (ax==0) (ldT t Qc.c (V,0) fun ay=>hvl (.agg (Qc.c (⟨[],Qk.zero⟩:Qc)).toArray) (L (csEq (Qc.c ay) (Qc.c (⟨[],Qk.zero⟩:Qc))) t)) (L false t))) ar) aq) ap) ao) an) am)) al))) ak)) aj)) H8) H6)) H4)) H2)) H))
theorem Qpf (C  K H) (h:Qlj C  K H):QgF C  K H:=AE h Tryz.func13 rfl Tryz.ntmps13
def Qll (C:Ctx) (b:Sl) (K:Bool→HP) (H:Heap):Prop:=lpE (α:=Int×Int) (fun a=>[(3,.int .i64 a.1),(4,.int .i64 a.2),(0,slv b)]) (0,0) H (fun a t j=>hnt 3 [(14,.bool ((decide (a.2<b.len))&&(decide (a.1<5000)))),(0,slv b),(3,.int .i64 a.1),(4,.int .i64 a.2)] True (ift ((decide (a.2<b.len))&&(decide (a.1<5000))) (ixa b a.2 fun s=>ldT j Qa.c (s.1,s.2+a.2.toNat*6) fun m=>QjW C m (fun k l d=>ift (l==65) (K true d) (ixa b a.2 fun e=>ldL d (e.1,e.2+a.2.toNat*6+4) fun n=>ixa b a.2 fun f=>ldL d (f.1,f.2+a.2.toNat*6+2) fun o=>ixa b a.2 fun g=>ldL d (g.1,g.2+a.2.toNat*6+3) fun p=>ixa b a.2 fun h=>ldL d (h.1,h.2+a.2.toNat*6+5) fun q=>ixa b a.2 fun i=>ldL d (i.1,i.2+a.2.toNat*6+1) fun r=>t ((w .i64 ((w .i64 ((w .i64 (a.1+20))+(List.length k:Int)))+(w .i64 (10*(w .i64 ((w .i64 ((w .i64 ((w .i64 (n.len+o.len))+p.len))+q.len))+r.len)))))),(w .i64 (a.2+1))) d)) j) (K (decide (a.1 ≥ 5000)) j)))
theorem Qph (C a K H) (h:Qll C a K H):QiP C a K H:=AE h Tryz.func14 rfl Tryz.ntmps14
end
end Sx
end
