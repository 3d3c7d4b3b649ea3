/-
  Texts of this family, one behind the other: Sh9.
-/
import Derived.Test.YtmeefnmaphmpkaaGreatDoorBF2
noncomputable section
set_option linter.unusedVariables false
set_option linter.unusedSimpArgs false
set_option maxRecDepth 10000
namespace Sx
section
set_option maxRecDepth 100000
set_option maxHeartbeats 4000000
open Go Go.Proofs
def QeP (C:Ctx) (g:Option (Nat×Nat)) (d:Sl) (a:Str) (b:Value) (K:HP) (H:Heap):Prop:=lpE (α:=Int) (fun e=>[(12,.int .i64 e),(0,pv g),(2,sv a),(3,b),(10,slv d),(11,.int .i64 d.len)]) 0 H (fun e s o=>ift (decide (e<d.len)) (ixa d e fun r=>ldT o Qd.c (r.1,r.2+e.toNat*6) fun p=>nw (Qd.c Qd.zero) (fun f l=>stT (f,0) (Qd.c p) (fun h=>jnC (α:=Unit) 5 (fun _=>[(0,pv g),(2,sv a),(3,b),(9,pv (some (f,0))),(10,slv d),(11,.int .i64 d.len),(12,.int .i64 e)]) (fun x i=>ldT i Qd.c (f,0) fun q=>callU P0 C b [.agg (Qd.c q).toArray] i (fun v n=>v=.tuple #[]∧ s (w .i64 (e+1)) n)) (fun j=>ift (decide (e>0)) (nck g fun k=>Qn C (some (k.1,k.2+0)) a (fun t u m=>j () m) h) (j () h))) l) o) (K o))
theorem Qid (C d c a b K H) (h:QeP C d c a b K H):QcB C d c a b K H:=AE h Tryz.func75 rfl Tryz.ntmps75
def QfL (C:Ctx) (r:Option (Nat×Nat)) (q:Qd) (K:HP) (H:Heap):Prop:=nw ([pv r]) (fun b D=>nw (Qd.c q) (fun e m=>ldP m (b,0) fun J=>ldB m (e,0+2) fun L=>QdD C J L (fun o=>ldP o (b,0) fun s=>ldS o (e,0+3) fun t=>nw ([sv [116,121,112,101,32],sv t]) (fun p k=>QB C s (Sl.of (some (p,0)) 2 2) (fun a=>jnC (α:=Unit) 5 (fun _=>[(2,pv (some (b,0))),(3,pv (some (e,0)))]) (fun I f=>ldP f (b,0) fun y=>nck y fun i=>Qn C (some (i.1,i.2+0)) [32,61,32] (fun E F d=>ldP d (b,0) fun z=>ldL d (e,0+5) fun A=>QcA C z A [32,124,32] (.func (.func 163) (List.toArray []) (List.toArray [pv (some (b,0))]):Value) (fun g=>ldP g (b,0) fun B=>nck B fun j=>Qp C (some (j.1,j.2+0)) 10 (fun G n=>K n) g) d) f) (fun h=>ldL a (e,0+4) fun u=>ift (decide ((u.len:Int)>0)) (ldP a (b,0) fun v=>ldL a (e,0+4) fun x=>QcV C v x (.func (.func 161) (List.toArray []) (List.toArray [pv (some (b,0))]):Value) (fun l=>h () l) a) (h () a))) k) o) m) D) H
theorem QjE (C b a K H) (h:QfL C b a K H):QfZ C b a K H:=AE h Tryz.func76 rfl Tryz.ntmps76
def Qfq (C:Ctx) (g:Option (Nat×Nat)) (d:Sl) (a:Str) (b:Value) (K:HP) (H:Heap):Prop:=lpE (α:=Int) (fun e=>[(12,.int .i64 e),(0,pv g),(2,sv a),(3,b),(10,slv d),(11,.int .i64 d.len)]) 0 H (fun e s o=>ift (decide (e<d.len)) (ixa d e fun r=>ldT o Qh.c (r.1,r.2+e.toNat*6) fun p=>nw (Qh.c Qh.zero) (fun f l=>stT (f,0) (Qh.c p) (fun h=>jnC (α:=Unit) 5 (fun _=>[(0,pv g),(2,sv a),(3,b),(9,pv (some (f,0))),(10,slv d),(11,.int .i64 d.len),(12,.int .i64 e)]) (fun x i=>ldT i Qh.c (f,0) fun q=>callU P0 C b [.agg (Qh.c q).toArray] i (fun v n=>v=.tuple #[]∧ s (w .i64 (e+1)) n)) (fun j=>ift (decide (e>0)) (nck g fun k=>Qn C (some (k.1,k.2+0)) a (fun t u m=>j () m) h) (j () h))) l) o) (K o))
theorem QiM (C d c a b K H) (h:Qfq C d c a b K H):QcX C d c a b K H:=AE h Tryz.func77 rfl Tryz.ntmps77
def Qga (C:Ctx) (a:Option (Nat×Nat)) (k:Qh) (K:HP) (H:Heap):Prop:=nw (Qh.c k) (fun d p=>ldB p (d,0+2) fun t=>QdD C a t (fun i=>jnC (α:=Str) 5 (fun o=>[(4,sv o),(0,pv a),(3,pv (some (d,0)))]) (fun o q=>ldS q (d,0+4) fun m=>nw ([sv o,sv m]) (fun j f=>QB C a (Sl.of (some (j,0)) 2 2) (fun b=>ldL b (d,0+5) fun n=>Qaf C a n (.func (.func 165) (List.toArray [pv a]) (List.toArray []):Value) (fun g=>nck a fun e=>Qp C (some (e.1,e.2+0)) 10 (fun s h=>K h) g) b) f) q) (fun r=>ldB i (d,0+3) fun l=>ift l (r [105,110,112,117,116,32] i) (r [114,101,108,32] i))) p) H
theorem QjR (C a b K H) (h:Qga C a b K H):Qgo C a b K H:=AE h Tryz.func78 rfl Tryz.ntmps78
def Qf8 (C:Ctx) (g:Option (Nat×Nat)) (d:Sl) (a:Str) (b:Value) (K:HP) (H:Heap):Prop:=lpE (α:=Int) (fun e=>[(12,.int .i64 e),(0,pv g),(2,sv a),(3,b),(10,slv d),(11,.int .i64 d.len)]) 0 H (fun e s o=>ift (decide (e<d.len)) (ixa d e fun r=>ldT o Qi.c (r.1,r.2+e.toNat*6) fun p=>nw (Qi.c Qi.zero) (fun f l=>stT (f,0) (Qi.c p) (fun h=>jnC (α:=Unit) 5 (fun _=>[(0,pv g),(2,sv a),(3,b),(9,pv (some (f,0))),(10,slv d),(11,.int .i64 d.len),(12,.int .i64 e)]) (fun x i=>ldT i Qi.c (f,0) fun q=>callU P0 C b [.agg (Qi.c q).toArray] i (fun v n=>v=.tuple #[]∧ s (w .i64 (e+1)) n)) (fun j=>ift (decide (e>0)) (nck g fun k=>Qn C (some (k.1,k.2+0)) a (fun t u m=>j () m) h) (j () h))) l) o) (K o))
theorem QjP (C d c a b K H) (h:Qf8 C d c a b K H):QdQ C d c a b K H:=AE h Tryz.func79 rfl Tryz.ntmps79
def Qg4 (C:Ctx) (r:Option (Nat×Nat)) (q:Qi) (K:HP) (H:Heap):Prop:=nw ([pv r]) (fun d F=>nw (Qi.c q) (fun k D=>drE none (ot [0,1,2,3,4,5] .nil) D fun f=>ldP f (d,0) fun P=>nck P fun E=>ldS f (k,0+2) fun s=>Qn C (some (E.1,E.2+0)) s (fun G I g=>Heap.le f g∧ nw ([.int .i64 0]) (fun j n=>st (j,0) (.int .i64 0) (fun e=>ldP e (d,0) fun t=>ldL e (k,0+3) fun u=>Qx C t u (.func (.func 168) (List.toArray []) (List.toArray [pv (some (k,0)),pv (some (j,0)),pv (some (d,0))]):Value) (fun a=>jnC (α:=Unit) 7 (fun _=>[(2,pv (some (d,0)))]) (fun O h=>ldP h (d,0) fun B=>nck B fun m=>Qn C (some (m.1,m.2+0)) [46,10] (fun M N p=>K p) h) (fun i=>ldL a (k,0+5) fun v=>ift (decide ((v.len:Int)>0)) (ldP a (d,0) fun x=>nck x fun l=>Qn C (some (l.1,l.2+0)) [32,58,45,32] (fun J L b=>ldP b (d,0) fun y=>ldL b (k,0+5) fun z=>ldP b (d,0) fun A=>QaS C y z [44,32] (.func (.func 84) (List.toArray [pv A]) (List.toArray []):Value) (fun o=>i () o) b) a) (i () a))) e) n) g) D) F) H
theorem QlQ (C b a K H) (h:Qg4 C b a K H):Qhj C b a K H:=AE h Tryz.func80 rfl Tryz.ntmps80
def QfJ (C:Ctx) (g:Option (Nat×Nat)) (d:Sl) (a:Str) (b:Value) (K:HP) (H:Heap):Prop:=lpE (α:=Int) (fun e=>[(12,.int .i64 e),(0,pv g),(2,sv a),(3,b),(10,slv d),(11,.int .i64 d.len)]) 0 H (fun e s o=>ift (decide (e<d.len)) (ixa d e fun r=>ldT o Qo.c (r.1,r.2+e.toNat*4) fun p=>nw (Qo.c Qo.zero) (fun f l=>stT (f,0) (Qo.c p) (fun h=>jnC (α:=Unit) 5 (fun _=>[(0,pv g),(2,sv a),(3,b),(9,pv (some (f,0))),(10,slv d),(11,.int .i64 d.len),(12,.int .i64 e)]) (fun x i=>ldT i Qo.c (f,0) fun q=>callU P0 C b [.agg (Qo.c q).toArray] i (fun v n=>v=.tuple #[]∧ s (w .i64 (e+1)) n)) (fun j=>ift (decide (e>0)) (nck g fun k=>Qn C (some (k.1,k.2+0)) a (fun t u m=>j () m) h) (j () h))) l) o) (K o))
theorem QjC (C d c a b K H) (h:QfJ C d c a b K H):Qdf C d c a b K H:=AE h Tryz.func81 rfl Tryz.ntmps81
def QkF (C:Ctx) (h:Qo) (e:Nat×Nat) (K:HP) (H:Heap):Prop:=nw (Qo.c h) (fun m f=>ldP f e fun r=>ldS f (m,0+2) fun s=>nw ([sv [110,101,118,101,114,32],sv s,sv [32,58,45,32]]) (fun o n=>QB C r (Sl.of (some (o,0)) 3 3) (fun d=>ldP d e fun i=>ldL d (m,0+3) fun j=>ldP d e fun k=>QaS C i j [44,32] (.func (.func 84) (List.toArray [pv k]) (List.toArray []):Value) (fun a=>ldP a e fun l=>nck l fun b=>Qn C (some (b.1,b.2+0)) [46,10] (fun p q g=>K g) a) d) n) f) H
theorem Qop (C a b K H) (h:QkF C a b K H):Qk7 C a b K H:=AE h Tryz.func82 rfl Tryz.ntmps82
def QeO (C:Ctx) (g:Option (Nat×Nat)) (d:Sl) (a:Str) (b:Value) (K:HP) (H:Heap):Prop:=lpE (α:=Int) (fun e=>[(12,.int .i64 e),(0,pv g),(2,sv a),(3,b),(10,slv d),(11,.int .i64 d.len)]) 0 H (fun e s o=>ift (decide (e<d.len)) (ixa d e fun r=>ldT o Qm.c (r.1,r.2+e.toNat*5) fun p=>nw (Qm.c Qm.zero) (fun f l=>stT (f,0) (Qm.c p) (fun h=>jnC (α:=Unit) 5 (fun _=>[(0,pv g),(2,sv a),(3,b),(9,pv (some (f,0))),(10,slv d),(11,.int .i64 d.len),(12,.int .i64 e)]) (fun x i=>ldT i Qm.c (f,0) fun q=>callU P0 C b [.agg (Qm.c q).toArray] i (fun v n=>v=.tuple #[]∧ s (w .i64 (e+1)) n)) (fun j=>ift (decide (e>0)) (nck g fun k=>Qn C (some (k.1,k.2+0)) a (fun t u m=>j () m) h) (j () h))) l) o) (K o))
theorem Qic (C d c a b K H) (h:QeO C d c a b K H):QaS C d c a b K H:=AE h Tryz.func83 rfl Tryz.ntmps83
def QfK (C:Ctx) (a:Option (Nat×Nat)) (v:Qm) (K:HP) (H:Heap):Prop:=nw (Qm.c v) (fun d b=>ldI b .u8 (d,0+0) fun A=>jnC (α:=Unit) 23 (fun _=>[(0,pv a),(3,pv (some (d,0)))]) (fun S L=>drE none (ot [0,1,2,3,4,5] .nil) L fun e=>nck a fun m=>ldS e (d,0+3) fun I=>Qn C (some (m.1,m.2+0)) I (fun P Q g=>Heap.le e g∧ ldL g (d,0+4) fun J=>Qx C a J (.func (.func 169) (List.toArray [pv a]) (List.toArray []):Value) (fun t=>K t) g) L) (fun M=>ift (A==2) (nck a fun i=>Qn C (some (i.1,i.2+0)) [110,111,116,32] (fun N O n=>M () n) b) (ift (A==1) (M () b) (ift (A==4) (ldS b (d,0+3) fun x=>nw ([sv x,sv [32,61,32]]) (fun u o=>QB C a (Sl.of (some (u,0)) 2 2) (fun f=>ldL f (d,0+4) fun y=>ixa y 0 fun j=>ldT f Qe.c (j.1,j.2+(0:Int).toNat*9) fun z=>Qag C a z (fun p=>K p) f) o) b) (jnC (α:=Unit) 5 (fun _=>[]) (fun R q=>K q) (fun h=>ldL b (d,0+4) fun B=>ixa B 0 fun k=>ldI b .u8 (k.1,k.2+(0:Int).toNat*9+0) fun D=>ift (D==5) (ldL b (d,0+4) fun E=>Qx C a E (.func (.func 169) (List.toArray [pv a]) (List.toArray []):Value) (fun r=>h () r) b) (ldL b (d,0+4) fun F=>ixa F 0 fun l=>ldT b Qe.c (l.1,l.2+(0:Int).toNat*9) fun G=>Qag C a G (fun s=>h () s) b))))))) H
theorem QjD (C a b K H) (h:QfK C a b K H):QfY C a b K H:=AE h Tryz.func84 rfl Tryz.ntmps84
def Qcn (C:Ctx) (a:Option (Nat×Nat)) (b:Str) (K:Int→Value→HP) (H:Heap):Prop:=QaQ C a (fun d=>nck a fun e=>ldL d (e.1,e.2+1) fun i=>apdG 5 [.int .u8 0] 1 i (bytesV b) (List.length b) (fun h g=>nck a fun f=>sttG (f.1,f.2+1) (slv h) (fun c=>K (List.length b:Int) .nilIface c) g) d) H
theorem QfV (C p_b p_s K H) (h:Qcn C p_b p_s K H):Qn C p_b p_s K H:=by
 refine Ye Tryz.func85 rfl Tryz.ntmps85 [(0,pv p_b),(1,sv p_s)] (Zo (Za (Za (GL.nil (Zo (Zm (Zc h QbB ?_)))))))
 rintro _ H1 ⟨rfl,h⟩
 refine GL.nil (Zo (Zm (Zm ?_)))
 obtain ⟨p2,b,h⟩:=h
 refine Zv (OV.nilCheck (q:=p_b) rfl b) (Zf (Yl h fun j h=>?_))
 refine Zm (XY (e:=5) (s:=j) (u:=p_s) (bytes:=1) h trivial rfl rfl rfl ⟨⟨_,_,rfl,rfl,rfl,rfl,rfl,rfl⟩⟩ rfl ?_)
 intro i m h
 obtain ⟨f,d,h⟩:=h
 refine Zv (OV.nilCheck (q:=p_b) rfl d) (Zf (XO (p:=(f.1,f.2+1)) (v:=slv i) h trivial rfl rfl rfl rfl ?_))
 intro g h
 refine GL.nil (Zo (Zm (Zr (Za (Za (GL.nil ?_))))))
 exact Y2 I3 ⟨(List.length p_s:Int),.nilIface,rfl,h⟩
def Qd9 (C:Ctx) (c:Option (Nat×Nat)) (K:Str→HP) (H:Heap):Prop:=dr H fun a=>nck c fun g=>ldL a (g.1,g.2+1) fun d=>((Sl.p d=none∨Sl.cap d≠0)∧Sl.x d=none)∧ nck c fun h=>ldL a (h.1,h.2+1) fun f=>ust 5 (Sl.p d) f.len (fun e b=>Heap.le a b∧ K e b) H
theorem QhC (C p_b K H) (h:Qd9 C p_b K H):QL C p_b K H:=by
 refine Ye Tryz.func86 rfl Tryz.ntmps86 [(0,pv p_b)] (Zo (Za (GL.nil (GC.seq ?_))))
 obtain ⟨g,d,h⟩:=h
 refine GC.any (Hs:=g) (by kernel_rfl) d (Zp 0 rfl Ym ?_)
 obtain ⟨z,i,h⟩:=h
 refine Zp 1 rfl (OV.nilCheck (q:=p_b) rfl i) (Zp 2 rfl Yf ?_)
 obtain ⟨t,y,h⟩:=h
 refine Zp 3 rfl (Yo y) ?_
 obtain ⟨⟨x,h8⟩,h⟩:=h
 refine Zp 4 rfl (XaH (s:=t) x h8 rfl) (Zp 5 rfl Ym ?_)
 obtain ⟨A,f,h⟩:=h
 refine Zp 6 rfl (OV.nilCheck (q:=p_b) rfl f) (Zp 7 rfl Yf ?_)
 obtain ⟨r,o,h⟩:=h
 refine Zp 8 rfl (Yo o) (Zp 9 rfl (XX rfl rfl) (GA.eff 10 rfl (by kernel_rfl) (GL.ust (e:=5) (p:=(Sl.p t)) (m:=(Sl.len r:Int)) h trivial rfl rfl rfl rfl (by kernel_rfl) ?_)))
 intro j u h
 obtain ⟨b,h⟩:=h
 refine GA.back b (Zp 11 rfl Ya (GA.done (by kernel_rfl) (GL.nil ?_)))
 exact Y1 I3 ⟨j,rfl,h⟩
def Qmz (C:Ctx) (aj:Qa) (K:Int→HP) (H:Heap):Prop:=nw (Qa.c aj) (fun i H2=>lpE (α:=Int×Int) (fun m=>[(3,.int .i64 m.1),(4,.int .i64 m.2),(1,pv (some (i,0)))]) (0,0) H2 (fun m J4 H5=>ldL H5 (i,0+2) fun x6=>ift (decide (m.2<x6.len)) (lpE (α:=Int×Int) (fun o=>[(3,.int .i64 o.1),(5,.int .i64 o.2),(1,pv (some (i,0))),(4,.int .i64 m.2)]) (m.1,0) H5 (fun o ae k=>ldL k (i,0+2) fun ak=>ixa ak m.2 fun G=>ldL k (G.1,G.2+m.2.toNat*6+5) fun al=>ift (decide (o.2<al.len)) (ldL k (i,0+2) fun am=>ixa am m.2 fun I=>ldL k (I.1,I.2+m.2.toNat*6+5) fun an=>ixa an o.2 fun J=>ldL k (J.1,J.2+o.2.toNat*2+1) fun z=>lpE (α:=Int×Int) (fun g=>[(3,.int .i64 g.1),(7,.int .i64 g.2),(1,pv (some (i,0))),(4,.int .i64 m.2),(5,.int .i64 o.2),(6,slv z)]) (o.1,0) k (fun g af x=>ift (decide (g.2<z.len)) (ixa z g.2 fun L=>ldT x Qf.c (L.1,L.2+g.2.toNat*3+1) fun ao=>Qan C ao (fun Q ac=>af ((if Q>g.1 then Q else g.1:Int),(w .i64 (g.2+1))) ac) x) (ae (g.1,(w .i64 (o.2+1))) x))) (J4 (o.1,(w .i64 (m.2+1))) k))) (lpE (α:=Int×Int) (fun e=>[(3,.int .i64 e.1),(8,.int .i64 e.2),(1,pv (some (i,0)))]) (m.1,0) H5 (fun e ag y=>ldL y (i,0+3) fun ap=>ift (decide (e.2<ap.len)) (lpE (α:=Int×Int) (fun h=>[(3,.int .i64 h.1),(9,.int .i64 h.2),(1,pv (some (i,0))),(8,.int .i64 e.2)]) (e.1,0) y (fun h ah l=>ldL l (i,0+3) fun aq=>ixa aq e.2 fun M=>ldL l (M.1,M.2+e.2.toNat*6+5) fun ar=>ift (decide (h.2<ar.len)) (ldL l (i,0+3) fun au=>ixa au e.2 fun N=>ldL l (N.1,N.2+e.2.toNat*6+5) fun av=>ixa av h.2 fun O=>ldT l Qf.c (O.1,O.2+h.2.toNat*3+1) fun aw=>Qan C aw (fun R ad=>ah ((if R>h.1 then R else h.1:Int),(w .i64 (h.2+1))) ad) l) (ag (h.1,(w .i64 (e.2+1))) l))) (lpE (α:=Int×Int) (fun d=>[(3,.int .i64 d.1),(10,.int .i64 d.2),(1,pv (some (i,0)))]) (e.1,0) y (fun d ai n=>ldL n (i,0+4) fun ax=>ift (decide (d.2<ax.len)) (ldL n (i,0+4) fun ay=>ixa ay d.2 fun P=>ldL n (P.1,P.2+d.2.toNat*6+5) fun S=>Qa0 C S (fun t A=>lpE (α:=Int×Int) (fun a=>[(3,.int .i64 a.1),(11,.int .i64 a.2),(1,pv (some (i,0))),(10,.int .i64 d.2)]) ((if t>d.1 then t else d.1:Int),0) A (fun a E f=>ldL f (i,0+4) fun T=>ixa T d.2 fun p=>ldL f (p.1,p.2+d.2.toNat*6+3) fun U=>ift (decide (a.2<U.len)) (ldL f (i,0+4) fun V=>ixa V d.2 fun q=>ldL f (q.1,q.2+d.2.toNat*6+3) fun W=>ixa W a.2 fun r=>ldT f Qe.c (r.1,r.2+a.2.toNat*9) fun X=>Qby C X (fun u B=>E ((if u>a.1 then u else a.1:Int),(w .i64 (a.2+1))) B) f) (ai (a.1,(w .i64 (d.2+1))) f))) n) (lpE (α:=Int×Int) (fun b=>[(3,.int .i64 b.1),(12,.int .i64 b.2),(1,pv (some (i,0)))]) (d.1,0) n (fun b F j=>ldL j (i,0+5) fun Y=>ift (decide (b.2<Y.len)) (ldL j (i,0+5) fun Z=>ixa Z b.2 fun s=>ldL j (s.1,s.2+b.2.toNat*4+3) fun aa=>Qa0 C aa (fun v D=>F ((if v>b.1 then v else b.1:Int),(w .i64 (b.2+1))) D) j) (K b.1 j))))))))) H
theorem Qqk (C a K H) (h:Qmz C a K H):Qda C a K H:=AE h Tryz.func87 rfl Tryz.ntmps87
def QmC (C:Ctx) (a:Str) (K:Bool→HP) (H:Heap):Prop:=Qc9 C a (fun g c=>jnE (α:=Bool) 4 (fun b=>[(9,.bool b)]) (fun b f=>K b f) (fun d=>ift g (Qbp C a (fun h e=>d (!h) e) c) (d false c))) H
theorem Qqn (C a K H) (h:QmC C a K H):Qat C a K H:=AE h Tryz.func88 rfl Tryz.ntmps88
end
end Sx
end
