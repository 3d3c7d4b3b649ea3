/-
  Texts of this family, one behind the other: Sh13.
-/
import Derived.Test.YtmeefnmaphmpkaaGreatDoorBF2
noncomputable section
set_option linter.unusedVariables false
set_option linter.unusedSimpArgs false
set_option maxRecDepth 10000
namespace Sx
section
set_option maxRecDepth 100000
set_option maxHeartbeats 4000000
open Go Go.Proofs
def Qfo (C:Ctx) (b:Option (Nat×Nat)) (c:Sl) (a:Value) (K:HP) (H:Heap):Prop:=nck b fun d=>Qp C (some (d.1,d.2+0)) 40 (fun i f=>Qhi C b c [44,32] a (fun g=>nck b fun e=>Qp C (some (e.1,e.2+0)) 41 (fun j h=>K h) g) f) H
theorem QiK (C c b a K H) (h:Qfo C c b a K H):QcV C c b a K H:=AE h Tryz.func160 rfl Tryz.ntmps160
def QeQ (C:Ctx) (a:Str) (d:Nat×Nat) (K:HP) (H:Heap):Prop:=ldP H d fun e=>nck e fun b=>Qn C (some (b.1,b.2+0)) a (fun f g c=>K c) H
theorem Qie (C a b K H) (h:QeQ C a b K H):Qe6 C a b K H:=AE h Tryz.func161 rfl Tryz.ntmps161
def QeN (C:Ctx) (g:Option (Nat×Nat)) (d:Sl) (a:Str) (b:Value) (K:HP) (H:Heap):Prop:=lpE (α:=Int) (fun e=>[(12,.int .i64 e),(0,pv g),(2,sv a),(3,b),(10,slv d),(11,.int .i64 d.len)]) 0 H (fun e s o=>ift (decide (e<d.len)) (ixa d e fun r=>ldT o Qj.c (r.1,r.2+e.toNat*2) fun p=>nw (Qj.c Qj.zero) (fun f l=>stT (f,0) (Qj.c p) (fun h=>jnC (α:=Unit) 5 (fun _=>[(0,pv g),(2,sv a),(3,b),(9,pv (some (f,0))),(10,slv d),(11,.int .i64 d.len),(12,.int .i64 e)]) (fun x i=>ldT i Qj.c (f,0) fun q=>callU P0 C b [.agg (Qj.c q).toArray] i (fun v n=>v=.tuple #[]∧ s (w .i64 (e+1)) n)) (fun j=>ift (decide (e>0)) (nck g fun k=>Qn C (some (k.1,k.2+0)) a (fun t u m=>j () m) h) (j () h))) l) o) (K o))
theorem Qib (C d c a b K H) (h:QeN C d c a b K H):QcA C d c a b K H:=AE h Tryz.func162 rfl Tryz.ntmps162
def QeR (C:Ctx) (f:Qj) (g:Nat×Nat) (K:HP) (H:Heap):Prop:=nw (Qj.c f) (fun e l=>drE none (ot [0,1,2,3,4,5] .nil) l fun b=>ldP b g fun p=>nck p fun m=>ldS b (e,0+0) fun q=>Qn C (some (m.1,m.2+0)) q (fun n o a=>Heap.le b a∧ ldL a (e,0+1) fun h=>ift (decide ((h.len:Int)>0)) (ldP a g fun i=>ldL a (e,0+1) fun j=>ldP a g fun k=>Qaf C i j (.func (.func 165) (List.toArray [pv k]) (List.toArray []):Value) (fun d=>K d) a) (K a)) l) H
theorem Qif (C a b K H) (h:QeR C a b K H):Qe7 C a b K H:=AE h Tryz.func163 rfl Tryz.ntmps163
def QcI (C:Ctx) (b:Option (Nat×Nat)) (c:Sl) (a:Value) (K:HP) (H:Heap):Prop:=nck b fun d=>Qp C (some (d.1,d.2+0)) 40 (fun i f=>Qcf C b c [44,32] a (fun g=>nck b fun e=>Qp C (some (e.1,e.2+0)) 41 (fun j h=>K h) g) f) H
theorem Qgg (C c b a K H) (h:QcI C c b a K H):Qaf C c b a K H:=AE h Tryz.func164 rfl Tryz.ntmps164
def Qfr (C:Ctx) (a:Option (Nat×Nat)) (i:Ql) (K:HP) (H:Heap):Prop:=nw (Ql.c i) (fun d b=>jnC (α:=Unit) 5 (fun _=>[(0,pv a),(3,pv (some (d,0)))]) (fun o l=>ldT l Qf.c (d,0+1) fun k=>QfO C a k (fun g=>K g) l) (fun m=>ldS b (d,0+0) fun n=>ift (!(n==([]:Str))) (ldS b (d,0+0) fun j=>nw ([sv j,sv [58,32]]) (fun h e=>QB C a (Sl.of (some (h,0)) 2 2) (fun f=>m () f) e) b) (m () b))) H
theorem QiN (C b a K H) (h:Qfr C b a K H):Qfu C b a K H:=AE h Tryz.func165 rfl Tryz.ntmps165
def Qc0 (C:Ctx) (a:Option (Nat×Nat)) (c:Int) (K:Value→HP) (H:Heap):Prop:=QaQ C a (fun d=>nck a fun e=>ldL d (e.1,e.2+1) fun i=>apdG 5 ([.int .u8 0]) 1 i ([.int .u8 c]) 1 (fun h g=>nck a fun f=>sttG (f.1,f.2+1) (slv h) (fun b=>K .nilIface b) g) d) H
theorem QgB (C p_b p_c K H) (h:Qc0 C p_b p_c K H):Qp C p_b p_c K H:=by
 refine Ye Tryz.func166 rfl Tryz.ntmps166 [(0,pv p_b),(1,.int .u8 p_c)] (Zo (Za (GL.nil (Zo (Zm (Zc h QbB ?_))))))
 rintro _ H1 ⟨rfl,h⟩
 refine GL.nil (Zo (Zm (Zm ?_)))
 obtain ⟨p2,b,h⟩:=h
 refine Zv (OV.nilCheck (q:=p_b) rfl b) (Zf (Yl h fun j h=>?_))
 refine Zm (X5 (e:=5) (s:=j) (ys:=[.int .u8 p_c]) (zc:=[.int .u8 0]) (bytes:=1) h trivial rfl (fun _=>trivial) rfl (fun _=>rfl) (fun _=>rfl) (vs:=[(0,.int .u8 p_c)]) rfl ⟨5,fun _=>by kernel_rfl⟩ ⟨⟨_,_,rfl,rfl,rfl,rfl,rfl,rfl⟩⟩ rfl rfl ?_)
 intro _ i m h
 obtain ⟨f,d,h⟩:=h
 refine Zv (OV.nilCheck (q:=p_b) rfl d) (Zf (XO (p:=(f.1,f.2+1)) (v:=slv i) h trivial rfl rfl rfl rfl ?_))
 intro g h
 refine GL.nil (Zo (Za (GL.nil ?_)))
 exact Y1 I3 ⟨.nilIface,rfl,h⟩
def Qb2 (C:Ctx) (b:Option (Nat×Nat)) (c:Sl) (a:Value) (K:HP) (H:Heap):Prop:=nck b fun d=>Qp C (some (d.1,d.2+0)) 40 (fun i f=>QaW C b c [44,32] a (fun g=>nck b fun e=>Qp C (some (e.1,e.2+0)) 41 (fun j h=>K h) g) f) H
theorem QdW (C c b a K H) (h:Qb2 C c b a K H):Qx C c b a K H:=AE h Tryz.func167 rfl Tryz.ntmps167
def Qgb (C:Ctx) (m:Qe) (y:Nat×Nat) (n:Nat×Nat) (h:Nat×Nat) (K:HP) (H:Heap):Prop:=nw (Qe.c m) (fun v d=>ldL d (y.1,y.2+4) fun B=>ldI d .i64 n fun z=>ixa B z fun x=>ldS d (x.1,x.2+z.toNat*1) fun g=>ldI d .i64 n fun o=>st n (.int .i64 (w .i64 (o+1))) (fun a=>ift (g==([]:Str)) (ldP a h fun p=>ldT a Qe.c (v,0) fun q=>Qag C p q (fun i=>K i) a) (ldP a h fun r=>nw ([sv g,sv [40]]) (fun l j=>QB C r (Sl.of (some (l,0)) 2 2) (fun b=>ldP b h fun s=>ldT b Qe.c (v,0) fun t=>Qag C s t (fun e=>ldP e h fun u=>nck u fun f=>Qp C (some (f.1,f.2+0)) 41 (fun A k=>K k) e) b) j) a)) d) H
theorem QjS (C a b c d K H) (h:Qgb C a b c d K H):QdS C a b c d K H:=AE h Tryz.func168 rfl Tryz.ntmps168
def Qg3 (C:Ctx) (a:Option (Nat×Nat)) (J:Qe) (K:HP) (H:Heap):Prop:=nw (Qe.c J) (fun f d=>ldI d .u8 (f,0+0) fun j=>ift (j==1) (drE none (ot [0,1,2,3,4,5,6] .nil) d fun m=>nck a fun X=>ldT m Qg.c (f,0+4) fun M=>Qj2 C M (fun L n=>Heap.le m n∧ Qn C (some (X.1,X.2+0)) L (fun Y Z o=>Heap.le m o∧ K o) n) d) (ift (j==2) (drE none (ot [0,1,2,3,4,5] .nil) d fun h=>nck a fun q=>ldS h (f,0+3) fun N=>Qn C (some (q.1,q.2+0)) N (fun aa ab p=>Heap.le h p∧ K p) d) (ift (j==3) (nck a fun r=>Qp C (some (r.1,r.2+0)) 95 (fun ac y=>K y) d) (ift (j==4) (ldL d (f,0+8) fun O=>Qx C a O (.func (.func 169) (List.toArray [pv a]) (List.toArray []):Value) (fun z=>K z) d) (ift (j==5) (drE none (ot [0,1,2,3,4,5] .nil) d fun i=>nck a fun s=>ldS i (f,0+3) fun P=>Qn C (some (s.1,s.2+0)) P (fun ad ae e=>Heap.le i e∧ ldL e (f,0+8) fun Q=>ift (decide ((Q.len:Int)>0)) (ldL e (f,0+8) fun R=>Qx C a R (.func (.func 169) (List.toArray [pv a]) (List.toArray []):Value) (fun A=>K A) e) (K e)) d) (ift (j==6) (ldT d Qe.c (f,0) fun S=>Qe5 C a S (fun B=>K B) d) (ift (j==7) (ldT d Qe.c (f,0) fun T=>Qek C a T (fun D=>K D) d) (ift (j==8) (nw ([sv [40,105,102,32],sv [32,116,104,101,110,32],sv [32,101,108,115,101,32]]) (fun g E=>lpE (α:=Int) (fun b=>[(71,.int .i64 b),(0,pv a),(3,pv (some (f,0))),(69,slv (Sl.of (some (g,0)) 3 3)),(70,.int .i64 (Sl.len (Sl.of (some (g,0)) 3 3):Int))]) 0 E (fun b I k=>ift (decide (b<(Sl.len (Sl.of (some (g,0)) 3 3):Int))) (ixa (Sl.of (some (g,0)) 3 3) b fun t=>ldS k (t.1,t.2+b.toNat*1) fun U=>nck a fun u=>Qn C (some (u.1,u.2+0)) U (fun af ag l=>ldL l (f,0+8) fun V=>ixa V b fun v=>ldT l Qe.c (v.1,v.2+b.toNat*9) fun W=>Qag C a W (fun F=>I (w .i64 (b+1)) F) l) k) (nck a fun x=>Qp C (some (x.1,x.2+0)) 41 (fun ah G=>K G) k))) d) (K d))))))))) H
theorem QlP (C b a K H) (h:Qg3 C b a K H):Qag C b a K H:=AE h Tryz.func169 rfl Tryz.ntmps169
def Qc1 (C:Ctx) (a:Option (Nat×Nat)) (K:HP) (H:Heap):Prop:=nck a fun f=>ldP H (f.1,f.2+0) fun g=>ift (Option.isNone g) (∃ p7,a=some p7∧cvU p7 (cvT P0 145 2 p7 (nck a fun b=>sttG (b.1,b.2+0) (pv (some p7)) (fun d=>K d) H) H) H) (nck a fun c=>ldP H (c.1,c.2+0) fun e=>∃ p17,e=some p17∧a=some p17∧ ift false (False) (K H))
theorem QgC (C p_b K H) (h:Qc1 C p_b K H):QaQ C p_b K H:=by
 refine Ye Tryz.func170 rfl Tryz.ntmps170 [(0,pv p_b)] (Zo (Zm ?_))
 obtain ⟨G,o,h⟩:=h
 refine Zv (OV.nilCheck (q:=p_b) rfl o) (Zf (Yl h fun F h=>?_))
 refine Zv (X6 (p:=F) rfl rfl rfl) (GL.nil (Yd h (fun E h=>?_) fun E h=>?_))
 refine GC.region (Zm (Zm ?_))
 obtain ⟨j,r,u,h⟩:=h
 refine Zv (OV.cvU (q:=p_b) (p:=j) r u rfl rfl rfl ⟨_,rfl,by decide⟩) (Zv (OV.ext QhQ (vs:=[pv (some j)]) (v:=pv (some j)) rfl (fun w=>QvZ _ w)) ?_)
 obtain ⟨x,h⟩:=h
 refine Zv (OV.cvT (len:=2) (p:=j) x rfl rfl rfl ⟨_,rfl⟩) ?_
 obtain ⟨i,b,h⟩:=h
 refine Zv (OV.nilCheck (q:=p_b) rfl b) (Zf (XO (p:=(i.1,i.2+0)) (v:=pv (some j)) h trivial rfl rfl rfl rfl ?_))
 intro A h
 exact GL.ends (fun _ _ m t=>Qd5 rfl m t ⟨rfl,h⟩)
 refine Zo (Zm ?_)
 obtain ⟨B,d,h⟩:=h
 refine Zv (OV.nilCheck (q:=p_b) rfl d) (Zf (Yl h fun z h=>?_))
 refine Zm ?_
 obtain ⟨D,f,g,h⟩:=h
 refine Zv (Xal (p:=z) (q:=p_b) rfl rfl f g rfl rfl) (GL.nil (Yd h (fun y h=>?_) fun y h=>?_))
 exact XZ h
 exact GC.ends (fun _ _ m t=>Qd5 rfl m t ⟨rfl,h⟩)
def Qhr (C:Ctx) (h:Qf) (K:Int→HP) (H:Heap):Prop:=nw (Qf.c h) (fun g j=>lpE (α:=Int×Int) (fun a=>[(3,.int .i64 a.1),(4,.int .i64 a.2),(1,pv (some (g,0)))]) (0,0) j (fun a k b=>ldL b (g,0+1) fun l=>ift (decide (a.2<l.len)) (ldL b (g,0+1) fun m=>ixa m a.2 fun d=>ldT b Qf.c (d.1,d.2+a.2.toNat*2) fun i=>Qan C i (fun e f=>k ((if e>a.1 then e else a.1:Int),(w .i64 (a.2+1))) f) b) (K (w .i64 (a.1+1)) b))) H
theorem Ql4 (C a K H) (h:Qhr C a K H):Qan C a K H:=AE h Tryz.func171 rfl Tryz.ntmps171
def Qiw (C:Ctx) (b:Sl) (K:Int→HP) (H:Heap):Prop:=lpE (α:=Int×Int) (fun a=>[(3,.int .i64 a.1),(4,.int .i64 a.2),(0,slv b)]) (0,0) H (fun a o m=>ift (decide (a.2<b.len)) (lpE (α:=Int×Int) (fun d=>[(3,.int .i64 d.1),(5,.int .i64 d.2),(0,slv b),(4,.int .i64 a.2)]) (a.1,0) m (fun d p e=>ixa b a.2 fun n=>ldL e (n.1,n.2+a.2.toNat*5+4) fun j=>ift (decide (d.2<j.len)) (ixa b a.2 fun f=>ldL e (f.1,f.2+a.2.toNat*5+4) fun k=>ixa k d.2 fun g=>ldT e Qe.c (g.1,g.2+d.2.toNat*9) fun l=>Qby C l (fun h i=>p ((if h>d.1 then h else d.1:Int),(w .i64 (d.2+1))) i) e) (o (d.1,(w .i64 (a.2+1))) e))) (K a.1 m))
theorem Qnc (C a K H) (h:Qiw C a K H):Qa0 C a K H:=AE h Tryz.func172 rfl Tryz.ntmps172
def Qls (C:Ctx) (h:Qe) (K:Int→HP) (H:Heap):Prop:=nw (Qe.c h) (fun g j=>lpE (α:=Int×Int) (fun a=>[(3,.int .i64 a.1),(4,.int .i64 a.2),(1,pv (some (g,0)))]) (0,0) j (fun a k b=>ldL b (g,0+8) fun l=>ift (decide (a.2<l.len)) (ldL b (g,0+8) fun m=>ixa m a.2 fun d=>ldT b Qe.c (d.1,d.2+a.2.toNat*9) fun i=>Qby C i (fun e f=>k ((if e>a.1 then e else a.1:Int),(w .i64 (a.2+1))) f) b) (K (w .i64 (a.1+1)) b))) H
theorem Qpo (C a K H) (h:Qls C a K H):Qby C a K H:=AE h Tryz.func173 rfl Tryz.ntmps173
def Qmu (C:Ctx) (b:Str) (K:Bool→HP) (H:Heap):Prop:=hnt 4 [(11,.bool ((b==([]:Str))||(decide (((List.length b:Int):Int)>32)))),(0,sv b)] True (jnE (α:=Bool) 5 (fun j=>[(17,.bool j),(0,sv b)]) (fun j e=>ift j (K false e) (lpE (α:=Int) (fun c=>[(3,.int .i64 c),(0,sv b)]) 0 e (fun c i f=>ift (decide (c<(List.length b:Int))) (ixs b c fun a=>QfS C (a.toNat:Int) (fun d g=>hnt 8 [(38,.bool ((!d)&&(!((decide (((a.toNat:Int):Int) ≥ 65))&&(decide (((a.toNat:Int):Int)≤90)))))),(0,sv b),(3,.int .i64 c),(4,.int .u8 (a.toNat:Int))] (hnt 3 [(36,.bool ((decide (((a.toNat:Int):Int) ≥ 65))&&(decide (((a.toNat:Int):Int)≤90)))),(0,sv b),(3,.int .i64 c),(4,.int .u8 (a.toNat:Int)),(30,.bool (!d))] True (True)) (hnt 8 [(47,.bool (((!d)&&(!((decide (((a.toNat:Int):Int) ≥ 65))&&(decide (((a.toNat:Int):Int)≤90)))))&&(!((decide (((a.toNat:Int):Int) ≥ 48))&&(decide (((a.toNat:Int):Int)≤57)))))),(0,sv b),(3,.int .i64 c),(4,.int .u8 (a.toNat:Int))] (hnt 3 [(45,.bool ((decide (((a.toNat:Int):Int) ≥ 48))&&(decide (((a.toNat:Int):Int)≤57)))),(0,sv b),(3,.int .i64 c),(4,.int .u8 (a.toNat:Int)),(39,.bool ((!d)&&(!((decide (((a.toNat:Int):Int) ≥ 65))&&(decide (((a.toNat:Int):Int)≤90))))))] True (True)) (hnt 3 [(51,.bool ((((!d)&&(!((decide (((a.toNat:Int):Int) ≥ 65))&&(decide (((a.toNat:Int):Int)≤90)))))&&(!((decide (((a.toNat:Int):Int) ≥ 48))&&(decide (((a.toNat:Int):Int)≤57)))))&&(((a.toNat:Int):Int)!=95))),(0,sv b),(3,.int .i64 c)] True (ift ((((!d)&&(!((decide (((a.toNat:Int):Int) ≥ 65))&&(decide (((a.toNat:Int):Int)≤90)))))&&(!((decide (((a.toNat:Int):Int) ≥ 48))&&(decide (((a.toNat:Int):Int)≤57)))))&&(((a.toNat:Int):Int)!=95)) (K false g) (i (w .i64 (c+1)) g))))) f) (K true f)))) (fun k=>ift ((b==([]:Str))||(decide (((List.length b:Int):Int)>32))) (k true H) (ixs b 0 fun l=>QfS C (l.toNat:Int) (fun m h=>k (!m) h) H)))
theorem Qqf (C a K H) (h:Qmu C a K H):Qc9 C a K H:=AE h Tryz.func174 rfl Tryz.ntmps174
def Qiq (C:Ctx) (b:Str) (K:Bool→HP) (H:Heap):Prop:=nw ([sv [109,111,100,117,108,101],sv [105,109,112,111,114,116],sv [112,117,98],sv [116,121,112,101],sv [105,110,112,117,116],sv [114,101,108],sv [110,101,118,101,114],sv [110,111,116],sv [97,110,100],sv [111,114],sv [105,102],sv [116,104,101,110],sv [101,108,115,101],sv [116,114,117,101],sv [102,97,108,115,101],sv [99,111,117,110,116],sv [115,117,109],sv [109,105,110],sv [109,97,120],sv [110,101,103],sv [108,101,110],sv [98,105,103],sv [105,110,116],sv [98,111,111,108],sv [116,101,120,116],sv [116,117,112,108,101]]) (fun d g=>lpE (α:=Int) (fun a=>[(4,.int .i64 a),(0,sv b),(3,slv (Sl.of (some (d,0)) 26 26))]) 0 g (fun a h c=>ift (decide (a<(Sl.len (Sl.of (some (d,0)) 26 26):Int))) (ixa (Sl.of (some (d,0)) 26 26) a fun f=>ldS c (f.1,f.2+a.toNat*1) fun e=>ift (e==b) (K true c) (h (w .i64 (a+1)) c)) (K false c))) H
theorem Qm6 (C a K H) (h:Qiq C a K H):Qbp C a K H:=AE h Tryz.func175 rfl Tryz.ntmps175
def Qlt (C:Ctx) (a:Str) (K:Bool→HP) (H:Heap):Prop:=jnE (α:=Bool) 4 (fun e=>[(10,.bool e),(0,sv a)]) (fun e i=>jnE (α:=Bool) 4 (fun f=>[(15,.bool f)]) (fun f d=>K f d) (fun b=>ift e (slS a 1 (List.length a:Int) fun h=>Qat C h (fun g c=>b g c) i) (b false i))) (fun j=>ift (decide (((List.length a:Int):Int)>1)) (ixs a 0 fun k=>j (((k.toNat:Int):Int)==39) H) (j false H))
theorem Qpp (C a K H) (h:Qlt C a K H):QgI C a K H:=AE h Tryz.func176 rfl Tryz.ntmps176
def QmB (C:Ctx) (a:Str) (K:Bool→HP) (H:Heap):Prop:=lpE (α:=Int) (fun c=>[(3,.int .i64 c),(0,sv a)]) 0 H (fun c n h=>ift (decide (c<(List.length a:Int))) (ixs a c fun o=>ift (((o.toNat:Int):Int)==46) (slS a 0 c fun p=>Qat C p (fun j d=>jnE (α:=Bool) 6 (fun b=>[(24,.bool b)]) (fun b g=>K b g) (fun e=>ift j (slS a (w .i64 (c+1)) (List.length a:Int) fun m=>Qat C m (fun k f=>e k f) d) (e false d))) h) (n (w .i64 (c+1)) h)) (Qat C a (fun l i=>K l i) h))
theorem Qqm (C a K H) (h:QmB C a K H):Qeo C a K H:=AE h Tryz.func177 rfl Tryz.ntmps177
end
end Sx
end
