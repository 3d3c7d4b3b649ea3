/-
  Texts of this family, one behind the other: Sh5.
-/
import Derived.Test.YtmeefnmaphmpkaaGreatDoorBF2
noncomputable section
set_option linter.unusedVariables false
set_option linter.unusedSimpArgs false
set_option maxRecDepth 10000
namespace Sx
section
set_option maxRecDepth 100000
set_option maxHeartbeats 4000000
open Go Go.Proofs
def QmQ (C:Ctx) (p:Qa) (K:Str→Int→HP) (H:Heap):Prop:=nw (Qa.c p) (fun b L=>ldT L Qa.c (b,0) fun Q=>Qcl C Q (fun N M=>ift ((N:Int)!=0) (K [] N M) (nwB 147 5 (fun P O=>nw ([pv none]) (fun a l=>st (a,0) (pv (some (P,0))) (fun g=>ldP g (a,0) fun r=>ldS g ((b,0).1,(b,0).2+0) fun s=>nw ([sv [109,111,100,117,108,101,32],sv s,sv [10]]) (fun o m=>QB C r (Sl.of (some (o,0)) 3 3) (fun h=>ldP h (a,0) fun t=>ldL h ((b,0).1,(b,0).2+1) fun u=>QcW C t u [] (.func (.func 74) (List.toArray []) (List.toArray [pv (some (a,0))]):Value) (fun d=>ldP d (a,0) fun v=>ldL d ((b,0).1,(b,0).2+2) fun x=>ldP d (a,0) fun y=>QcB C v x [] (.func (.func 76) (List.toArray [pv y]) (List.toArray []):Value) (fun e=>ldP e (a,0) fun z=>ldL e ((b,0).1,(b,0).2+3) fun A=>ldP e (a,0) fun B=>QcX C z A [] (.func (.func 78) (List.toArray [pv B]) (List.toArray []):Value) (fun f=>ldP f (a,0) fun D=>ldL f ((b,0).1,(b,0).2+4) fun E=>ldP f (a,0) fun F=>QdQ C D E [] (.func (.func 80) (List.toArray [pv F]) (List.toArray []):Value) (fun i=>ldP i (a,0) fun G=>ldL i ((b,0).1,(b,0).2+5) fun I=>Qdf C G I [] (.func (.func 82) (List.toArray []) (List.toArray [pv (some (a,0))]):Value) (fun j=>ldP j (a,0) fun J=>nck J fun k=>QL C (some (k.1,k.2+0)) (fun q n=>K q 0 n) j) i) f) e) d) h) m) g) l) O) M)) L) H
theorem QqB (C p_m K H) (h:QmQ C p_m K H):QjW C p_m K H:=by
 refine Ye Tryz.func27 rfl Tryz.ntmps27 [(0,.agg (Qa.c p_m).toArray)] (Zo (GL.box (v:=.agg (Qa.c p_m).toArray) (cs:=Qa.c p_m) h trivial rfl rfl rfl ?_))
 intro b1 H2 h
 refine Za (Za (GL.nil (GC.seq (Zo ?_))))
 obtain ⟨x3,M,h⟩:=h
 refine Zv (Xm rfl rfl rfl M) (Zc h Qmm ?_)
 rintro _ H6 ⟨r,rfl,h⟩
 refine Za (GL.nil (Zo (Zm (Zi (.bool ((r:Int) != 0)) (GL.nil (Yd h (fun L h=>?_) fun L h=>?_))))))
 refine Zo (Zm (Za (Za (GL.nil ?_))))
 exact Y2 I3 ⟨[],r,rfl,h⟩
 refine GC.skip (Zo (Zv (OV.build (vs:=[]) (v:=.agg (Qdw.c (⟨Qb9.zero⟩:Qdw)).toArray) rfl (fun _=>by kernel_rfl)) (XaA (T:=147) (e:=5) (v:=.agg (Qdw.c (⟨Qb9.zero⟩:Qdw)).toArray) h trivial rfl rfl rfl ?_)))
 intro I H9 h
 refine GL.alloc (cs:=[pv none]) h trivial rfl rfl rfl ?_
 intro b t h
 refine GL.store (p:=(b,0)) (v:=pv (some (I,0))) h trivial rfl rfl rfl rfl ?_
 intro u h
 refine GL.nil (Zo (Yl h fun N h=>?_))
 refine Zf (Yl h fun f h=>?_)
 refine GL.buildSlice (cs:=[sv [109,111,100,117,108,101,32],sv f,sv [10]]) h trivial rfl (vs:=[(0,sv [109,111,100,117,108,101,32]),(1,sv f),(2,sv [10])]) rfl ⟨9,fun _=>by kernel_rfl⟩ ?_
 intro G x h
 refine Zc h Qgs ?_
 rintro _ y ⟨rfl,h⟩
 refine GL.nil (Zo (Yl h fun O h=>?_))
 refine Zf (Yl h fun P h=>?_)
 refine Zv (OV.makeFunc (vs:=[]) (us:=[pv (some (b,0))]) rfl rfl) (Zc h Qfc ?_)
 rintro _ z ⟨rfl,h⟩
 refine GL.nil (Zo (Yl h fun Q h=>?_))
 refine Zf (Yl h fun R h=>?_)
 refine Yl h fun i h=>?_
 refine Zv (OV.makeFunc (vs:=[pv i]) (us:=[]) rfl rfl) (Zc h QeA ?_)
 rintro _ A ⟨rfl,h⟩
 refine GL.nil (Zo (Yl h fun S h=>?_))
 refine Zf (Yl h fun U h=>?_)
 refine Yl h fun j h=>?_
 refine Zv (OV.makeFunc (vs:=[pv j]) (us:=[]) rfl rfl) (Zc h Qfd ?_)
 rintro _ B ⟨rfl,h⟩
 refine GL.nil (Zo (Yl h fun W h=>?_))
 refine Zf (Yl h fun X h=>?_)
 refine Yl h fun m h=>?_
 refine Zv (OV.makeFunc (vs:=[pv m]) (us:=[]) rfl rfl) (Zc h Qf1 ?_)
 rintro _ D ⟨rfl,h⟩
 refine GL.nil (Zo (Yl h fun Y h=>?_))
 refine Zf (Yl h fun Z h=>?_)
 refine Zv (OV.makeFunc (vs:=[]) (us:=[pv (some (b,0))]) rfl rfl) (Zc h Qfz ?_)
 rintro _ E ⟨rfl,h⟩
 refine GL.nil (Zo (Yl h fun o h=>?_))
 obtain ⟨J,d,h⟩:=h
 refine Zv (OV.nilCheck (q:=o) rfl d) (Zf (Zc h Qb1 ?_))
 rintro _ F ⟨g,rfl,h⟩
 refine Za (Za (GL.nil ?_))
 exact Y2 I3 ⟨g,0,rfl,h⟩
def Qlr (C:Ctx) (aK:Qa) (K:Int→HP) (H:Heap):Prop:=nw (Qa.c aK) (fun d H2=>ldT H2 Qa.c (d,0) fun x3=>Qda C x3 (fun r5 H6=>ift (decide (r5>64)) (K 65 H6) (ldS H6 (d,0+0) fun x8=>Qat C x8 (fun aL I=>jnE (α:=Bool) 4 (fun N=>[(19,.bool N),(1,pv (some (d,0)))]) (fun N J=>jnE (α:=Bool) 4 (fun O=>[(24,.bool O),(1,pv (some (d,0)))]) (fun O aD=>lpE (α:=Bool×Int) (fun f=>[(3,.bool f.1),(4,.int .i64 f.2),(1,pv (some (d,0)))]) (O,0) aD (fun f aI o=>ldL o (d,0+1) fun az=>hnt 2 [(32,.bool ((decide (f.2<az.len))&&f.1)),(1,pv (some (d,0))),(3,.bool f.1),(4,.int .i64 f.2)] True (ift ((decide (f.2<az.len))&&f.1) (ldL o (d,0+1) fun aT=>ixa aT f.2 fun af=>ldS o (af.1,af.2+f.2.toNat*3+2) fun aU=>Qat C aU (fun aO aE=>aI (aO,(w .i64 (f.2+1))) aE) o) (lpE (α:=Bool×Int) (fun b=>[(3,.bool b.1),(5,.int .i64 b.2),(1,pv (some (d,0)))]) (f.1,0) o (fun b aJ i=>ldL i (d,0+3) fun aA=>hnt 2 [(49,.bool ((decide (b.2<aA.len))&&b.1)),(1,pv (some (d,0))),(3,.bool b.1),(5,.int .i64 b.2)] True (ift ((decide (b.2<aA.len))&&b.1) (ldL i (d,0+3) fun aV=>ixa aV b.2 fun ag=>ldS i (ag.1,ag.2+b.2.toNat*6+4) fun aW=>Qat C aW (fun aP t=>jnE (α:=Bool) 8 (fun P=>[(67,.bool P),(1,pv (some (d,0))),(5,.int .i64 b.2)]) (fun P aH=>aJ (P,(w .i64 (b.2+1))) aH) (fun ab=>ift aP (ldL t (d,0+3) fun aX=>ixa aX b.2 fun ah=>ldL t (ah.1,ah.2+b.2.toNat*6+5) fun aY=>QbD C aY true (fun aQ aG=>ab aQ aG) t) (ab false t))) i) (ldL i (d,0+1) fun aZ=>jnE (α:=Bool) 5 (fun Q=>[(77,.bool Q),(1,pv (some (d,0))),(3,.bool b.1)]) (fun Q L=>jnE (α:=Bool) 5 (fun R=>[(83,.bool R),(1,pv (some (d,0))),(3,.bool b.1)]) (fun R M=>jnE (α:=Bool) 5 (fun S=>[(89,.bool S),(1,pv (some (d,0))),(3,.bool b.1)]) (fun S n=>jnE (α:=Bool) 5 (fun p=>[(95,.bool p),(1,pv (some (d,0))),(3,.bool b.1)]) (fun p T=>lpE (α:=Bool×Bool×Int) (fun a=>[(3,.bool a.1),(6,.bool a.2.1),(7,.int .i64 a.2.2),(1,pv (some (d,0)))]) (b.1,p,0) T (fun a X h=>ldL h (d,0+5) fun G=>hnt 2 [(103,.bool ((decide (a.2.2<G.len))&&a.1)),(1,pv (some (d,0))),(3,.bool a.1),(6,.bool a.2.1),(7,.int .i64 a.2.2)] True (ift ((decide (a.2.2<G.len))&&a.1) (ldL h (d,0+5) fun am=>ixa am a.2.2 fun A=>ldS h (A.1,A.2+a.2.2.toNat*4+2) fun an=>Qat C an (fun ai j=>jnE (α:=Bool) 9 (fun q=>[(122,.bool q),(1,pv (some (d,0))),(6,.bool a.2.1),(7,.int .i64 a.2.2)]) (fun q k=>jnE (α:=Bool) 8 (fun m=>[(131,.bool m),(1,pv (some (d,0))),(6,.bool a.2.1),(7,.int .i64 a.2.2)]) (fun m l=>jnE (α:=Bool) 9 (fun r=>[(142,.bool r),(1,pv (some (d,0))),(3,.bool m),(7,.int .i64 a.2.2)]) (fun r V=>X (m,r,(w .i64 (a.2.2+1))) V) (fun y=>ift a.2.1 (y true l) (ldL l (d,0+5) fun au=>ixa au a.2.2 fun E=>ldL l (E.1,E.2+a.2.2.toNat*4+3) fun av=>y (decide ((av.len:Int)>12)) l))) (fun x=>ift q (ldL k (d,0+5) fun aq=>ixa aq a.2.2 fun D=>ldL k (D.1,D.2+a.2.2.toNat*4+3) fun ar=>Qci C ar (fun aj U=>x aj U) k) (x false k))) (fun v=>ift ai (ldL j (d,0+5) fun ao=>ixa ao a.2.2 fun B=>ldL j (B.1,B.2+a.2.2.toNat*4+3) fun ap=>v (decide ((ap.len:Int)>0)) j) (v false j))) h) (ift (!a.1) (K 4 h) (lpE (α:=Bool×Int) (fun e=>[(6,.bool e.1),(8,.int .i64 e.2),(1,pv (some (d,0)))]) (a.2.1,0) h (fun e Z g=>ldL g (d,0+4) fun aw=>ift (decide (e.2<aw.len)) (jnE (α:=Bool) 9 (fun s=>[(162,.bool s),(1,pv (some (d,0))),(8,.int .i64 e.2)]) (fun s W=>Z (s,(w .i64 (e.2+1))) W) (fun z=>ift e.1 (z true g) (ldL g (d,0+4) fun ax=>ixa ax e.2 fun F=>ldL g (F.1,F.2+e.2.toNat*6+5) fun ay=>z (decide ((ay.len:Int)>12)) g))) (ift e.1 (K 3 g) (K 0 g)))))))) (fun u=>ift S (u true n) (ldL n (d,0+5) fun al=>u (decide ((al.len:Int)>256)) n))) (fun ae=>ift R (ae true M) (ldL M (d,0+4) fun ak=>ae (decide ((ak.len:Int)>256)) M))) (fun ad=>ift Q (ad true L) (ldL L (d,0+3) fun a1=>ad (decide ((a1.len:Int)>64)) L))) (fun ac=>ift (decide ((aZ.len:Int)>8)) (ac true i) (ldL i (d,0+2) fun a0=>ac (decide ((a0.len:Int)>64)) i))))))))) (fun aa=>ift N (ldL J (d,0+4) fun aS=>Qcu C aS (fun aN aC=>aa aN aC) J) (aa false J))) (fun Y=>ift aL (ldL I (d,0+2) fun aR=>Qcv C aR (fun aM aB=>Y aM aB) I) (Y false I))) H6)) H2) H
theorem Qpn (C a K H) (h:Qlr C a K H):Qct C a K H:=AE h Tryz.func28 rfl Tryz.ntmps28
def QmI (C:Ctx) (b:Sl) (a:Str) (K:Int→HP) (H:Heap):Prop:=lpE (α:=Int) (fun c=>[(5,.int .i64 c),(0,slv b),(1,sv a)]) 0 H (fun c g d=>ift (decide (c<b.len)) (ixa b c fun f=>ldS d (f.1,f.2+c.toNat*6+0) fun e=>ift (e==a) (K c d) (g (w .i64 (c+1)) d)) (K (-1) d))
theorem Qqt (C b a K H) (h:QmI C b a K H):Qdd C b a K H:=AE h Tryz.func29 rfl Tryz.ntmps29
def Qjn (C:Ctx) (a:Sl) (K:Qb→HP) (H:Heap):Prop:=nw (Qb.c Qb.zero) (fun h H2=>lpE (α:=Int) (fun e=>[(3,.int .i64 e),(0,slv a),(2,pv (some (h,0)))]) 0 H2 (fun e J4 H5=>ift (decide (e<a.len)) (lpE (α:=Int) (fun y=>[(4,.int .i64 y),(0,slv a),(2,pv (some (h,0))),(3,.int .i64 e)]) 0 H5 (fun y J8 M=>ixa a e fun O=>ldL M (O.1,O.2+e.toNat*6+1) fun ak=>ift (decide (y<ak.len)) (ixa a e fun P=>ldL M (P.1,P.2+e.toNat*6+1) fun al=>ixa al y fun Q=>ldT M Qq.c (Q.1,Q.2+y.toNat*3) fun am=>nw (Qq.c Qq.zero) (fun i af=>stT (i,0) (Qq.c am) (fun I=>ldS I (i,0+2) fun an=>Qdd C a an (fun aj z=>ift (decide (aj<0)) (drE (some 9) (ot [0,1,2,3,4,5,6,7,8] .nil) z fun q=>ixa a e fun R=>ldS q (R.1,R.2+e.toNat*6+0) fun A=>ldT q Qk.c (i,0+0) fun B=>hvl (.agg (Qc.c (⟨A,B⟩:Qc)).toArray) (hvl (.agg (Qb.c (⟨(⟨A,B⟩:Qc),63⟩:Qb)).toArray) (stT (h,0) (Qb.c (⟨(⟨A,B⟩:Qc),63⟩:Qb)) (fun J=>ldT J Qb.c (h,0) fun ao=>K ao J) z))) (lpE (α:=Int) (fun j=>[(6,.int .i64 j),(0,slv a),(2,pv (some (h,0))),(3,.int .i64 e),(4,.int .i64 y),(5,pv (some (i,0)))]) 0 z (fun j ag f=>ift (decide (j<y)) (ixa a e fun S=>ldL f (S.1,S.2+e.toNat*6+1) fun ap=>ixa ap j fun T=>ldS f (T.1,T.2+j.toNat*3+2) fun aq=>ldS f (i,0+2) fun ar=>ift (aq==ar) (drE (some 9) (ot [0,1,2,3,4,5,6,7,8] .nil) f fun r=>ixa a e fun U=>ldS r (U.1,U.2+e.toNat*6+0) fun D=>ldT r Qk.c (i,0+0) fun E=>hvl (.agg (Qc.c (⟨D,E⟩:Qc)).toArray) (hvl (.agg (Qb.c (⟨(⟨D,E⟩:Qc),6⟩:Qb)).toArray) (stT (h,0) (Qb.c (⟨(⟨D,E⟩:Qc),6⟩:Qb)) (fun L=>ldT L Qb.c (h,0) fun au=>K au L) f))) (ag (w .i64 (j+1)) f)) (J8 (w .i64 (y+1)) f)))) I) af) M) (J4 (w .i64 (e+1)) M))) (lpE (α:=Int) (fun b=>[(7,.int .i64 b),(0,slv a),(2,pv (some (h,0)))]) 0 H5 (fun b ah N=>ift (decide (b<a.len)) (lpE (α:=Int) (fun d=>[(8,.int .i64 d),(0,slv a),(2,pv (some (h,0))),(7,.int .i64 b)]) 0 N (fun d ai l=>ixa a b fun V=>ldL l (V.1,V.2+b.toNat*6+1) fun Z=>ift (decide (d<Z.len)) (ixa a b fun s=>ldL l (s.1,s.2+b.toNat*6+1) fun aa=>ixa aa d fun t=>ldS l (t.1,t.2+d.toNat*3+2) fun ab=>Qdd C a ab (fun W F=>QiU C a W b (fun X k=>ift X (drE (some 16) (ot [0,1,2,3,4,5,6,7,8,9,10,11,12,13,14,15] .nil) k fun g=>ixa a b fun u=>ldS g (u.1,u.2+b.toNat*6+0) fun m=>ixa a b fun v=>ldL g (v.1,v.2+b.toNat*6+1) fun ac=>ixa ac d fun x=>ldT g Qk.c (x.1,x.2+d.toNat*3+0) fun n=>hvl (.agg (Qc.c (⟨m,n⟩:Qc)).toArray) (hvl (.agg (Qb.c (⟨(⟨m,n⟩:Qc),64⟩:Qb)).toArray) (stT (h,0) (Qb.c (⟨(⟨m,n⟩:Qc),64⟩:Qb)) (fun o=>ldT o Qb.c (h,0) fun ad=>K ad o) k))) (ai (w .i64 (d+1)) k)) F) l) (ah (w .i64 (b+1)) l))) (Qde C (fun Y G=>stT (h,0) (Qb.c Y) (fun p=>ldT p Qb.c (h,0) fun ae=>K ae p) G) N))))) H
theorem QnT (C a K H) (h:Qjn C a K H):Qe1 C a K H:=AE h Tryz.func30 rfl Tryz.ntmps30
end
end Sx
end
