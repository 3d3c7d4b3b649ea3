/-
  Texts of this family, one behind the other: Sh16.
-/
import Derived.Test.YtmeefnmaphmpkaaGreatDoorBF2
noncomputable section
set_option linter.unusedVariables false
set_option linter.unusedSimpArgs false
set_option maxRecDepth 10000
namespace Sx
section
set_option maxRecDepth 100000
set_option maxHeartbeats 4000000
open Go Go.Proofs
def Qdo (C:Ctx) (a:Str) (b:Str) (K:Str→Str→Bool→HP) (H:Heap):Prop:=Qbw C a b (fun c e=>ift (decide (c ≥ 0)) (slS a 0 c fun f=>slS a (w .i64 (c+(List.length b:Int))) (List.length a:Int) fun d=>K f d true e) (K a [] false e)) H
theorem QgN (C b a K H) (h:Qdo C b a K H):QdH C b a K H:=AE h Tryz.func204 rfl Tryz.ntmps204
def Qg1 (C:Ctx) (e:Option (Nat×Nat)) (c:Sl) (a:Str) (b:Value) (K:HP) (H:Heap):Prop:=lpE (α:=Int) (fun d=>[(12,.int .i64 d),(0,pv e),(2,sv a),(3,b),(10,slv c),(11,.int .i64 c.len)]) 0 H (fun d n i=>ift (decide (d<c.len)) (ixa c d fun m=>ldS i (m.1,m.2+d.toNat*1) fun h=>jnC (α:=Unit) 5 (fun _=>[(0,pv e),(2,sv a),(3,b),(9,sv h),(10,slv c),(11,.int .i64 c.len),(12,.int .i64 d)]) (fun q j=>callU P0 C b [sv h] j (fun v l=>v=.tuple #[]∧ n (w .i64 (d+1)) l)) (fun f=>ift (decide (d>0)) (nck e fun g=>Qn C (some (g.1,g.2+0)) a (fun o p k=>f () k) i) (f () i))) (K i))
theorem QlN (C d c a b K H) (h:Qg1 C d c a b K H):Qhi C d c a b K H:=AE h Tryz.func205 rfl Tryz.ntmps205
def Qed (C:Ctx) (g:Option (Nat×Nat)) (d:Sl) (a:Str) (b:Value) (K:HP) (H:Heap):Prop:=lpE (α:=Int) (fun e=>[(12,.int .i64 e),(0,pv g),(2,sv a),(3,b),(10,slv d),(11,.int .i64 d.len)]) 0 H (fun e s o=>ift (decide (e<d.len)) (ixa d e fun r=>ldT o Ql.c (r.1,r.2+e.toNat*3) fun p=>nw (Ql.c Ql.zero) (fun f l=>stT (f,0) (Ql.c p) (fun h=>jnC (α:=Unit) 5 (fun _=>[(0,pv g),(2,sv a),(3,b),(9,pv (some (f,0))),(10,slv d),(11,.int .i64 d.len),(12,.int .i64 e)]) (fun x i=>ldT i Ql.c (f,0) fun q=>callU P0 C b [.agg (Ql.c q).toArray] i (fun v n=>v=.tuple #[]∧ s (w .i64 (e+1)) n)) (fun j=>ift (decide (e>0)) (nck g fun k=>Qn C (some (k.1,k.2+0)) a (fun t u m=>j () m) h) (j () h))) l) o) (K o))
theorem QhJ (C d c a b K H) (h:Qed C d c a b K H):Qcf C d c a b K H:=AE h Tryz.func206 rfl Tryz.ntmps206
def Qhw (C:Ctx) (a:Option (Nat×Nat)) (m:Qf) (K:HP) (H:Heap):Prop:=nw (Qf.c m) (fun e j=>jnC (α:=Unit) 5 (fun _=>[(0,pv a),(3,pv (some (e,0)))]) (fun v k=>ldS k (e,0+0) fun o=>jnE (α:=Bool) 5 (fun f=>[(21,.bool f),(0,pv a),(3,pv (some (e,0)))]) (fun f d=>ift f (ldL d (e,0+1) fun q=>Qcc C a q (.func (.func 207) (List.toArray [pv a]) (List.toArray []):Value) (fun l=>K l) d) (K d)) (fun h=>ift (o==([116,117,112,108,101]:Str)) (h true k) (ldL k (e,0+1) fun p=>h (decide ((p.len:Int)>0)) k))) (fun r=>ldS j (e,0+0) fun u=>ift (!(u==([116,117,112,108,101]:Str))) (drE none (ot [0,1,2,3,4,5] .nil) j fun b=>nck a fun i=>ldS b (e,0+0) fun n=>Qn C (some (i.1,i.2+0)) n (fun s t g=>Heap.le b g∧ r () g) j) (r () j))) H
theorem Ql8 (C b a K H) (h:Qhw C b a K H):QfO C b a K H:=AE h Tryz.func207 rfl Tryz.ntmps207
def Qdu (C:Ctx) (g:Option (Nat×Nat)) (d:Sl) (a:Str) (b:Value) (K:HP) (H:Heap):Prop:=lpE (α:=Int) (fun e=>[(12,.int .i64 e),(0,pv g),(2,sv a),(3,b),(10,slv d),(11,.int .i64 d.len)]) 0 H (fun e s o=>ift (decide (e<d.len)) (ixa d e fun r=>ldT o Qe.c (r.1,r.2+e.toNat*9) fun p=>nw (Qe.c Qe.zero) (fun f l=>stT (f,0) (Qe.c p) (fun h=>jnC (α:=Unit) 5 (fun _=>[(0,pv g),(2,sv a),(3,b),(9,pv (some (f,0))),(10,slv d),(11,.int .i64 d.len),(12,.int .i64 e)]) (fun x i=>ldT i Qe.c (f,0) fun q=>callU P0 C b [.agg (Qe.c q).toArray] i (fun v n=>v=.tuple #[]∧ s (w .i64 (e+1)) n)) (fun j=>ift (decide (e>0)) (nck g fun k=>Qn C (some (k.1,k.2+0)) a (fun t u m=>j () m) h) (j () h))) l) o) (K o))
theorem QfW (C d c a b K H) (h:Qdu C d c a b K H):QaW C d c a b K H:=AE h Tryz.func208 rfl Tryz.ntmps208
def QmV (C:Ctx) (k:Qg) (K:Str→HP) (H:Heap):Prop:=nw (Qg.c k) (fun q o=>ldT o Qg.c (q,0) fun t=>QbU C t (fun s p=>ift ((s:Int)!=0) (K [] p) (nwB 145 5 (fun j r=>nw ([.nilFunc]) (fun b e=>nw ([.nilFunc]) (fun d f=>st (d,0) (.func (.func 231) (List.toArray []) (List.toArray [pv (some (j,0)),pv (some (b,0))])) (fun g=>st (b,0) (.func (.func 232) (List.toArray []) (List.toArray [pv (some (j,0)),pv (some (d,0))])) (fun a=>ldV a (b,0) fun m=>ldT a Qg.c (q,0) fun n=>callU P0 C m [.agg (Qg.c n).toArray] a (fun v h=>v=.tuple #[]∧ QL C (some (j,0)) (fun l i=>K l i) h)) g) f) e) r) p)) o) H
theorem QqG (C p_v K H) (h:QmV C p_v K H):Qj2 C p_v K H:=by
 refine Ye Tryz.func209 rfl Tryz.ntmps209 [(0,.agg (Qg.c p_v).toArray)] (Zo (GL.box (v:=.agg (Qg.c p_v).toArray) (cs:=Qg.c p_v) h trivial rfl rfl rfl ?_))
 intro D H2 h
 refine Za (GL.nil (GC.seq (Zo ?_)))
 obtain ⟨E,z,h⟩:=h
 refine Zv (Xm rfl rfl rfl z) (Zc h QhS ?_)
 rintro _ A ⟨x,rfl,h⟩
 refine Zi (.bool ((x:Int) != 0)) (GL.nil (Yd h (fun y h=>?_) fun y h=>?_))
 refine Zo (Za (GL.nil ?_))
 exact Y1 I3 ⟨[],rfl,h⟩
 refine GC.skip (Zo (Xat (T:=145) (e:=5) h trivial rfl rfl rfl ?_))
 intro d B h
 refine GL.nil (Zo (GL.alloc (cs:=[.nilFunc]) h trivial rfl rfl rfl ?_))
 intro b m h
 refine GL.nil (Zo (Zv (OV.makeFunc (vs:=[]) (us:=[pv (some (d,0)),pv (some (b,0))]) rfl rfl) (GL.alloc (cs:=[.nilFunc]) h trivial rfl rfl rfl ?_)))
 intro b12 o h
 refine GL.store (p:=(b12,0)) (v:=.func (.func 231) (List.toArray []) (List.toArray [pv (some (d,0)),pv (some (b,0))])) h trivial rfl rfl rfl rfl ?_
 intro q h
 refine GL.nil (Zo (Zv (OV.makeFunc (vs:=[]) (us:=[pv (some (d,0)),pv (some (b12,0))]) rfl rfl) (GL.store (p:=(b,0)) (v:=.func (.func 232) (List.toArray []) (List.toArray [pv (some (d,0)),pv (some (b12,0))])) h trivial rfl rfl rfl rfl ?_)))
 intro r h
 refine GL.nil (Zo (Yl h fun i h=>?_))
 obtain ⟨j,g,h⟩:=h
 refine Zv (Xm rfl rfl rfl g) (GL.callU (xv:=i) (vs:=[.agg (Qg.c j).toArray]) h trivial rfl rfl rfl ?_)
 rintro _ t ⟨rfl,h⟩
 refine GL.nil (Zo (Zc h Qb1 ?_))
 rintro _ u ⟨f,rfl,h⟩
 refine Za (GL.nil ?_)
 exact Y1 I3 ⟨f,rfl,h⟩
def Qg2 (C:Ctx) (a:Option (Nat×Nat)) (v:Qe) (K:HP) (H:Heap):Prop:=nw (Qe.c v) (fun b F=>ldS F (b,0+3) fun O=>Qe3 C O (fun M h=>ift M (drE none (ot [0,1,2,3,4,5] .nil) h fun i=>nck a fun j=>ldS i (b,0+3) fun x=>Qn C (some (j.1,j.2+0)) x (fun G I d=>Heap.le i d∧ ldL d (b,0+8) fun y=>Qx C a y (.func (.func 169) (List.toArray [pv a]) (List.toArray []):Value) (fun o=>K o) d) h) (ldL h (b,0+8) fun z=>ift ((z.len:Int)==1) (ldS h (b,0+3) fun A=>nw ([sv [40],sv A,sv [32]]) (fun u p=>QB C a (Sl.of (some (u,0)) 3 3) (fun e=>ldL e (b,0+8) fun B=>ixa B 0 fun k=>ldT e Qe.c (k.1,k.2+(0:Int).toNat*9) fun D=>Qag C a D (fun q=>nck a fun l=>Qp C (some (l.1,l.2+0)) 41 (fun J r=>K r) q) e) p) h) (nck a fun m=>Qp C (some (m.1,m.2+0)) 40 (fun L f=>ldL f (b,0+8) fun E=>ldS f (b,0+3) fun g=>catOk ([32]:Str) g∧ catOk (([32]:Str)++g) ([32]:Str)∧ QaW C a E ((([32]:Str)++g)++([32]:Str)) (.func (.func 169) (List.toArray [pv a]) (List.toArray []):Value) (fun s=>nck a fun n=>Qp C (some (n.1,n.2+0)) 41 (fun N t=>K t) s) f) h))) F) H
theorem QlO (C b a K H) (h:Qg2 C b a K H):Qe5 C b a K H:=AE h Tryz.func210 rfl Tryz.ntmps210
def Qgz (C:Ctx) (b:Option (Nat×Nat)) (z:Qe) (K:HP) (H:Heap):Prop:=nw (Qe.c z) (fun h q=>ldL q (h,0+8) fun O=>ixa O 0 fun M=>ldT q Qe.c (M.1,M.2+(0:Int).toNat*9) fun B=>nw (Qe.c Qe.zero) (fun a p=>stT (a,0) (Qe.c B) (fun e=>jnC (α:=Unit) 5 (fun _=>[(0,pv b),(3,pv (some (h,0)))]) (fun N k=>ldS k (h,0+3) fun L=>nw ([sv [46],sv L]) (fun y v=>QB C b (Sl.of (some (y,0)) 2 2) (fun x=>K x) v) k) (fun l=>ldI e .u8 (a,0+0) fun D=>jnE (α:=Bool) 4 (fun g=>[(16,.bool g),(0,pv b),(3,pv (some (h,0))),(4,pv (some (a,0)))]) (fun g d=>jnE (α:=Bool) 9 (fun i=>[(26,.bool i),(0,pv b),(3,pv (some (h,0))),(4,pv (some (a,0)))]) (fun i f=>ift i (ldL f (h,0+8) fun I=>Qx C b I (.func (.func 169) (List.toArray [pv b]) (List.toArray []):Value) (fun t=>l () t) f) (ldT f Qe.c (a,0) fun J=>Qag C b J (fun u=>l () u) f)) (fun n=>ift g (n true d) (ldI d .u8 (a,0+0) fun F=>jnE (α:=Bool) 4 (fun j=>[(25,.bool j),(0,pv b),(3,pv (some (h,0))),(4,pv (some (a,0))),(17,.bool g)]) (fun j s=>n j s) (fun o=>ift (F==6) (ldS d (a,0+3) fun G=>Qe3 C G (fun A r=>o A r) d) (o false d))))) (fun m=>ift (D==1) (m true e) (ldI e .u8 (a,0+0) fun E=>m (E==5) e)))) p) q) H
theorem Qk0 (C b a K H) (h:Qgz C b a K H):Qek C b a K H:=AE h Tryz.func211 rfl Tryz.ntmps211
def Qkv (C:Ctx) (a:Int) (K:Bool→HP) (H:Heap):Prop:=hnt 3 [(8,.bool ((decide (a ≥ 97))&&(decide (a≤122))))] True (K ((decide (a ≥ 97))&&(decide (a≤122))) H)
theorem Qof (C a K H) (h:Qkv C a K H):QfS C a K H:=AE h Tryz.func213 rfl Tryz.ntmps213
def QhU (C:Ctx) (f:Qg) (K:Int→HP) (H:Heap):Prop:=nw (Qg.c f) (fun e j=>ldT j Qg.c (e,0) fun l=>QaO C l (fun k d=>ift (decide (k>64)) (K 65 d) (ldT d Qg.c (e,0) fun m=>QbR C m (fun g a=>ift (!g) (K 4 a) (ldT a Qg.c (e,0) fun i=>QbQ C i (fun h b=>ift (!h) (K 40 b) (K 0 b)) a)) d)) j) H
theorem Qk4 (C a K H) (h:QhU C a K H):Qbx C a K H:=AE h Tryz.func214 rfl Tryz.ntmps214
def Qlq (C:Ctx) (a:Str) (K:Int→HP) (H:Heap):Prop:=nw ([sv [43],sv [45],sv [42],sv [47],sv [37],sv [43,43],sv [61,61],sv [33,61],sv [60],sv [60,61],sv [62],sv [62,61],sv [97,110,100],sv [111,114]]) (fun h l=>lpE (α:=Int) (fun c=>[(4,.int .i64 c),(0,sv a),(3,slv (Sl.of (some (h,0)) 14 14))]) 0 l (fun c m e=>ift (decide (c<(Sl.len (Sl.of (some (h,0)) 14 14):Int))) (ixa (Sl.of (some (h,0)) 14 14) c fun k=>ldS e (k.1,k.2+c.toNat*1) fun j=>ift (j==a) (K 2 e) (m (w .i64 (c+1)) e)) (jnE (α:=Bool) 3 (fun b=>[(23,.bool b)]) (fun b d=>ift b (K 1 d) (K 0 d)) (fun f=>ift (a==([110,111,116]:Str)) (f true e) (Qee C a (fun i g=>f i g) e))))) H
theorem Qpm (C a K H) (h:Qlq C a K H):QbS C a K H:=AE h Tryz.func215 rfl Tryz.ntmps215
def QmF (C:Ctx) (a:Qg) (K:Bool→HP) (H:Heap):Prop:=nw (Qg.c a) (fun e b=>ldT b Qg.c (e,0) fun g=>hvl (.agg (Qg.c (⟨0,0,[],Sl.nil⟩:Qg)).toArray) (Qbk C g (⟨0,0,[],Sl.nil⟩:Qg) (fun f d=>K f d) b)) H
theorem Qqq (C a K H) (h:QmF C a K H):Qdc C a K H:=AE h Tryz.func216 rfl Tryz.ntmps216
def QnE (C:Ctx) (R:Qa) (a:Int) (b:Str) (d:Bool) (K:Bool→HP) (H:Heap):Prop:=nw (Qa.c R) (fun g H2=>lpE (α:=Int) (fun l=>[(9,.int .i64 l),(1,.int .i64 a),(2,sv b),(3,.bool d),(4,pv (some (g,0)))]) 0 H2 (fun l J4 x=>ldL x (g,0+2) fun x6=>ift (decide (l<x6.len)) (jnC (α:=Unit) 37 (fun _=>[(1,.int .i64 a),(2,sv b),(3,.bool d),(4,pv (some (g,0))),(9,.int .i64 l)]) (fun ah M=>J4 (w .i64 (l+1)) M) (fun J9=>ldL x (g,0+2) fun S=>ixa S l fun G=>ldT x Qd.c (G.1,G.2+l.toNat*6) fun T=>nw (Qd.c Qd.zero) (fun f N=>stT (f,0) (Qd.c T) (fun p=>jnE (α:=Bool) 4 (fun q=>[(30,.bool q),(1,.int .i64 a),(2,sv b),(3,.bool d),(4,pv (some (g,0))),(9,.int .i64 l),(10,pv (some (f,0)))]) (fun q m=>ift q (J9 () m) (jnE (α:=Bool) 5 (fun r=>[(38,.bool r),(1,.int .i64 a),(2,sv b),(3,.bool d),(4,pv (some (g,0))),(9,.int .i64 l),(10,pv (some (f,0)))]) (fun r v=>ift r (K true v) (lpE (α:=Int) (fun h=>[(11,.int .i64 h),(1,.int .i64 a),(2,sv b),(3,.bool d),(4,pv (some (g,0))),(9,.int .i64 l),(10,pv (some (f,0)))]) 0 v (fun h P i=>ldL i (f,0+5) fun W=>ift (decide (h<W.len)) (jnE (α:=Bool) 9 (fun s=>[(57,.bool s),(1,.int .i64 a),(2,sv b),(3,.bool d),(4,pv (some (g,0))),(9,.int .i64 l),(10,pv (some (f,0))),(11,.int .i64 h)]) (fun s y=>ift s (K true y) (P (w .i64 (h+1)) y)) (fun B=>ift (a==2) (ldL i (f,0+5) fun X=>ixa X h fun I=>ldS i (I.1,I.2+h.toNat*2+0) fun Y=>B (Y==b) i) (B false i))) (J9 () i)))) (fun A=>ift (a==1) (ldS m (f,0+3) fun V=>A (V==b) m) (A false m)))) (fun z=>ift d (ldB p (f,0+2) fun U=>z (!U) p) (z false p))) N) x)) (lpE (α:=Int) (fun e=>[(12,.int .i64 e),(1,.int .i64 a),(2,sv b),(3,.bool d),(4,pv (some (g,0)))]) 0 x (fun e Q j=>ldL j (g,0+3) fun Z=>ift (decide (e<Z.len)) (jnE (α:=Bool) 9 (fun n=>[(76,.bool n),(1,.int .i64 a),(2,sv b),(3,.bool d),(4,pv (some (g,0))),(12,.int .i64 e)]) (fun n k=>jnE (α:=Bool) 11 (fun t=>[(88,.bool t),(1,.int .i64 a),(2,sv b),(3,.bool d),(4,pv (some (g,0))),(12,.int .i64 e)]) (fun t o=>ift t (K true o) (Q (w .i64 (e+1)) o)) (fun E=>ift n (jnE (α:=Bool) 7 (fun u=>[(87,.bool u),(1,.int .i64 a),(2,sv b),(3,.bool d),(4,pv (some (g,0))),(12,.int .i64 e),(77,.bool n)]) (fun u O=>E u O) (fun F=>ift (!d) (F true k) (ldL k (g,0+3) fun ac=>ixa ac e fun L=>ldB k (L.1,L.2+e.toNat*6+2) fun ad=>F ad k))) (E false k))) (fun D=>ift (a==3) (ldL j (g,0+3) fun aa=>ixa aa e fun J=>ldS j (J.1,J.2+e.toNat*6+4) fun ab=>D (ab==b) j) (D false j))) (K false j))))) H
theorem Qrg (C d a b c K H) (h:QnE C d a b c K H):QgU C d a b c K H:=AE h Tryz.func217 rfl Tryz.ntmps217
def QmH (C:Ctx) (f:Sl) (d:Int) (E:Qe) (K:Qe→Qb→HP) (H:Heap):Prop:=nw (Qe.c E) (fun m W=>nw (Qe.c Qe.zero) (fun s X=>nw (Qb.c Qb.zero) (fun t V=>ldT V Qe.c (m,0) fun Z=>nw (Qe.c Qe.zero) (fun j x=>stT (j,0) (Qe.c Z) (fun y=>st (j,0+8) (slv Sl.nil) (fun e=>jnC (α:=Unit) 15 (fun _=>[(0,slv f),(1,.int .i64 d),(5,pv (some (m,0))),(6,pv (some (s,0))),(7,pv (some (t,0))),(8,pv (some (j,0)))]) (fun Y n=>ldL n (m,0+8) fun Q=>Qe0 C f d Q (fun I J A=>nw (Qb.c Qb.zero) (fun u B=>stT (u,0) (Qb.c J) (fun D=>st (j,0+8) (slv I) (fun p=>drE (some 3) (ot [0,1,2] .nil) p fun b=>ldT b Qe.c (j,0) fun R=>ldT b Qb.c (u,0) fun S=>stT (s,0) (Qe.c R) (fun q=>Heap.le b q∧ stT (t,0) (Qb.c S) (fun i=>ldT i Qe.c (s,0) fun T=>ldT i Qb.c (t,0) fun U=>K T U i) q) p) D) B) A) n) (fun r=>ldI e .u8 (m,0+0) fun L=>ift (L==5) (ldS e (m,0+3) fun M=>Qck C f d 2 M (fun F G g=>ift (!G) (drE (some 11) (ot [0,1,2,3,4,5,6,7,8,9,10] .nil) g fun a=>ldT a Qe.c (j,0) fun N=>ixa f d fun v=>ldS a (v.1,v.2+d.toNat*6+0) fun k=>ldT a Qk.c (m,0+1) fun l=>hvl (.agg (Qc.c (⟨k,l⟩:Qc)).toArray) (hvl (.agg (Qb.c (⟨(⟨k,l⟩:Qc),63⟩:Qb)).toArray) (stT (s,0) (Qe.c N) (fun o=>Heap.le a o∧ stT (t,0) (Qb.c (⟨(⟨k,l⟩:Qc),63⟩:Qb)) (fun h=>ldT h Qe.c (s,0) fun O=>ldT h Qb.c (t,0) fun P=>K O P h) o) g))) (st (j,0+3) (sv F) (fun z=>r () z) g)) e) (r () e))) y) x) V) X) W) H
theorem Qqs (C c b a K H) (h:QmH C c b a K H):QjT C c b a K H:=AE h Tryz.func218 rfl Tryz.ntmps218
def Qjl (C:Ctx) (a:Sl) (f:Sl) (K:Bool→HP) (H:Heap):Prop:=ift ((a.len:Int)!=f.len) (K false H) (lpE (α:=Int) (fun b=>[(5,.int .i64 b),(0,slv a),(1,slv f)]) 0 H (fun b m h=>ift (decide (b<a.len)) (drE none (ot [0,1,2,3,4,5,6,7,8,9] .nil) h fun e=>ixa a b fun l=>ldT e Qg.c (l.1,l.2+b.toNat*4) fun j=>ixa f b fun g=>ldT e Qg.c (g.1,g.2+b.toNat*4) fun k=>Qbk C j k (fun i d=>Heap.le e d∧ ift (!i) (K false d) (m (w .i64 (b+1)) d)) h) (K true h)))
theorem QnR (C a b K H) (h:Qjl C a b K H):QgT C a b K H:=AE h Tryz.func219 rfl Tryz.ntmps219
def QeM (C:Ctx) (d:Sl) (a:Value) (K:Int→HP) (H:Heap):Prop:=lpE (α:=Int×Int) (fun b=>[(5,.int .i64 b.1),(10,.int .i64 b.2),(1,a),(8,slv d),(9,.int .i64 d.len)]) (0,0) H (fun b m i=>ift (decide (b.2<d.len)) (ixa d b.2 fun l=>ldT i Qf.c (l.1,l.2+b.2.toNat*2) fun j=>nw (Qf.c Qf.zero) (fun f g=>stT (f,0) (Qf.c j) (fun e=>ldT e Qf.c (f,0) fun k=>callU P0 C a [.agg (Qf.c k).toArray] e (fun v h=>∃ r17,v=.int .i64 r17∧ m ((if r17>b.1 then r17 else b.1:Int),(w .i64 (b.2+1))) h)) g) i) (K b.1 i))
theorem Qia (C b a K H) (h:QeM C b a K H):Q6 C b a K H:=AE h Tryz.func220 rfl Tryz.ntmps220
end
end Sx
end
