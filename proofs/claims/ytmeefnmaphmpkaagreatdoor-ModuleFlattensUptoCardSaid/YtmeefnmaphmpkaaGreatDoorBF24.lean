/-
  Texts of this family, one behind the other: ModR, MoRFlattens, U, RowIFlattens.
-/
import Derived.Test.YtmeefnmaphmpkaaGreatDoorBF23
import Derived.Test.YtmeefnmaphmpkaaGreatDoorRows
import Derived.JoinedCond
noncomputable section
set_option linter.unusedVariables false
set_option linter.unusedSimpArgs false
set_option maxRecDepth 10000
namespace Sx
section
set_option maxRecDepth 100000
open Go Go.Proofs
theorem Qli {α β : Type} (f : β → Nat) (g : α → β) : ∀ l : List α, sL f (l.map g) = sL (fun v => f (g v)) l
 | []=>rfl
 | v::l=>by simp only [List.map_cons,sL,Qli f g l]
section
variable {P:Program} {W:World}
theorem Tr.pos {B n:Nat} {t:TypeId} {cs:List Value} (h:Tr P W B n t cs):1≤B:=by
 obtain ⟨H,enc,x,h,b⟩:=h
 have:=QmX x.1
 omega
theorem Qnp {H : Type} : ∀ (ys : List (DataW H × List MemPlace)), (ys.map fun y => sizeD y.1).sum = sizeDs (ys.map (·.1))
 | []=>rfl
 | y::ys=>by simp only [List.map_cons,List.sum_cons,sizeDs,Qnp ys]
theorem Tr.sliceS {B n:Nat} {t e:TypeId} {cs:List Value} {z:Nat} (h:Tr P W B n t cs) (o:P.underlying t=some (.slice e)) (F:P.cellsOf e=z) (q:0 < z) :
 ∃ (s:Sl) (d:List (List Value)) (bs:List Nat) (m:Nat),m < n∧cs=[slv s]∧s.len≤s.cap∧d.length=s.len∧bs.length=s.len∧rdsl (heapOf W) s d.flatten∧bs.sum+1≤B∧s.len≤B∧∀ (i:Nat) (c:List Value) (b:Nat),d[i]? = some c→bs[i]? = some b→Tr P W b m e c:=by
 obtain ⟨H,enc,x,h,E⟩:=h
 obtain ⟨s,d,ys,m,hm,r,u,p2,A,C,G,D⟩:=Qp8 o (by omega) h
 have j:=Qnn (ys.map (·.1))
 rw [List.length_map] at j
 refine ⟨s,d,ys.map fun y=>sizeD y.1,m,hm,r,u,p2,by rw [List.length_map]; exact A,C,by rw [Qnp]; omega,by omega,fun i c b g f=>?_⟩
 rw [List.getElem?_map] at f
 cases hy:ys[i]? with
 | none=>rw [hy] at f; cases f
 | some y=>
  rw [hy] at f
  injection f with f
  exact ⟨H,enc,y,(D i c y g hy).2,by rw [← f]; exact Nat.le_refl _⟩
theorem Tr.structS {B n:Nat} {t:TypeId} {fs:Array Field} {cs:List Value} (h:Tr P W B n t cs) (u:P.underlying t=some (.struct fs)) :
 cs.length=P.cellsOf t∧∃ (m:Nat) (bs:List Nat),n=m+1∧bs.length=fs.size∧bs.sum+1≤B∧∀ (i:Nat) (f:Field) (b:Nat),fs[i]? = some f→bs[i]? = some b→Tr P W b m f.type ((cs.drop f.offset).take (P.cellsOf f.type)):=by
 obtain ⟨H,enc,x,h,o⟩:=h
 obtain ⟨xs,m,rfl,hx,r,g,q⟩:=DataW.trod_struct u h
 refine ⟨r,m,xs.map fun y=>sizeD y.1,rfl,by rw [List.length_map]; exact g,by rw [Qnp]; rw [hx] at o; simp only [sizeD] at o; omega,fun i f b hi d=>?_⟩
 have j:=q i f hi
 have z:i < fs.size:=(Array.getElem?_eq_some_iff.1 hi).1
 rw [List.getElem?_map,Vf (by omega)] at d
 injection d with d
 rw [Vf (by omega)] at j
 exact ⟨H,enc,_,j,by rw [← d]; exact Nat.le_refl _⟩
theorem Qgc {α β:Type} {R:α→β→Prop} {c:β→List Value} {f:α→Nat} {t e:TypeId} {z n B:Nat} {cs:List Value} (h:Tr P W B n t cs) (L:P.underlying t=some (.slice e)) (M:P.cellsOf e=z) (q:0 < z) (hB:B≤1000000000)
 (N:∀ m,m < n→∀ cs b,b≤1000000000→Tr P W b m e cs→∃ (v:α) (x:β),cs=c x∧R v x∧f v≤b):∃ (s:Sl) (l:List α),cs=[slv s]∧SlIs R c (heapOf W) s l∧s.len≤s.cap∧sL f l+1≤B∧l.length≤B:=by
 obtain ⟨s,d,bs,m,hm,H,I,U,X,J,Y,Z,h8⟩:=h.sliceS L M q
 have C:∀ (d:List (List Value)) (bs:List Nat),d.length=bs.length→bs.sum≤1000000000→(∀ (i:Nat) (g:List Value) (b:Nat),d[i]? = some g→bs[i]? = some b→Tr P W b m e g)→∃ (l:List α) (xs:List β),d.flatten=xs.flatMap c∧d.length=xs.length∧l.length=xs.length∧sL f l≤bs.sum∧∀ (i:Nat) (v:α) (x:β),l[i]? = some v→xs[i]? = some x→R v x:=by
  intro d
  induction d with
  | nil=>intro bs _ _ _; exact ⟨[],[],rfl,rfl,rfl,Nat.zero_le _,fun i v x j=>by simp at j⟩
  | cons g d r=>
   intro bs E o D
   cases bs with
   | nil=>simp at E
   | cons b bs=>
    rw [List.sum_cons] at o
    obtain ⟨v,x,F,G,T⟩:=N m hm g b (by omega) (D 0 g b rfl rfl)
    obtain ⟨l,xs,u,k2,y,O,A⟩:=r bs (by simpa using E) (by omega) fun i g b K o=>D (i+1) g b (by simpa using K) (by simpa using o)
    refine ⟨v::l,x::xs,by rw [List.flatten_cons,List.flatMap_cons,u,F],by simp [k2],by simp [y],by simp only [sL,List.sum_cons]; omega,fun i Q S j hx=>?_⟩
    cases i with
    | zero=>simp at j hx; subst j; subst hx; exact G
    | succ i=>exact A i Q S (by simpa using j) (by simpa using hx)
 obtain ⟨l,xs,u,k2,y,O,A⟩:=C d bs (by omega) (by omega) h8
 exact ⟨s,l,H,⟨xs,by rw [← u]; exact J,by omega,y,by omega,A⟩,I,by omega,by omega⟩
theorem Qxz {t tl:TypeId} (g:ValT P t tl) {n B:Nat} {cs:List Value} (h:Tr P W B n t cs) (i:B≤1000000000):∃ (v:V) (y:Qg),cs=Qg.c y∧VIs (heapOf W) v y∧VB v:=by
 obtain ⟨H,enc,x,h,hx⟩:=h
 obtain ⟨v,y,b,d,f,_⟩:=Qx9 g n h (by omega)
 exact ⟨v,y,b,d,f⟩
end
section
variable {W:World}
theorem valT6:ValT P0 38 36:=⟨⟨_,Tryz.underlying38,rfl,⟨_,_,rfl,rfl,rfl,Tryz.underlying5,by kernel_rfl⟩,⟨_,_,rfl,rfl,rfl,Tryz.underlying2,by kernel_rfl⟩,⟨_,_,rfl,rfl,rfl,Tryz.underlying9,by kernel_rfl⟩,⟨_,rfl,rfl,rfl,by kernel_rfl⟩⟩,by kernel_rfl,Tryz.underlying36⟩
theorem QoY {n B:Nat} {cs:List Value} (h:Tr P0 W B n 26 cs):∃ p:Pl,cs=[.int .i64 (psP p).Line,.int .i64 (psP p).Col]:=by
 obtain ⟨i,m,rfl,g⟩:=h.struct Tryz.underlying26
 rw [show P0.cellsOf 26=2 by kernel_rfl] at i
 match cs,i with
 | [q0,q1],_=>
 have d:Tr P0 W B m 3 (([q0,q1].drop 0).take (P0.cellsOf 3)):=g 0 _ rfl
 have f:Tr P0 W B m 3 (([q0,q1].drop 1).take (P0.cellsOf 3)):=g 1 _ rfl
 rw [show P0.cellsOf 3=1 by kernel_rfl] at d f
 obtain ⟨j,e0,_⟩:=d.int Tryz.underlying3
 obtain ⟨o,b,_⟩:=f.int Tryz.underlying3
 refine ⟨(j,o),?_⟩
 injection e0 with e0; injection b with b
 rw [e0,b]; rfl
theorem QwG:∀ (n:Nat) {cs:List Value} {B:Nat},B≤1000000000→Tr P0 W B n 24 cs→∃ (v:TyV) (x:Qf),cs=Qf.c x∧TyIs (heapOf W) v x∧tySz v≤B:=by
 intro n
 induction n using Nat.strongRecOn with
 | _ n ih=>
 intro cs B G h
 have t:=h.pos
 obtain ⟨r,m,bs,rfl,o,d,j⟩:=h.structS Tryz.underlying24
 rw [show P0.cellsOf 24=2 by kernel_rfl] at r
 match cs,r,bs,o,d,j with
 | [q0,q1],_,[y0,y1],_,d,j=>
 simp only [List.sum_cons,List.sum_nil] at d
 have g:Tr P0 W y0 m 9 (([q0,q1].drop 0).take (P0.cellsOf 9)):=j 0 _ y0 rfl rfl
 rw [show P0.cellsOf 9=1 by kernel_rfl] at g
 replace g:Tr P0 W y0 m 9 [q0]:=g
 obtain ⟨q,e0,_,y⟩:=g.str Tryz.underlying9
 have y:q.length≤140737488355328:=by omega
 have i:Tr P0 W y1 m 22 (([q0,q1].drop 1).take (P0.cellsOf 22)):=j 1 _ y1 rfl rfl
 rw [show P0.cellsOf 22=1 by kernel_rfl] at i
 replace i:Tr P0 W y1 m 22 [q1]:=i
 obtain ⟨E,u,z,D,F,H,_⟩:=Qgc (R:=(TyIs (heapOf W))) (c:=Qf.c) (f:=tySz) i Tryz.underlying22 (show P0.cellsOf 24=2 by kernel_rfl) (by omega) (by omega) (fun m hm cs b A C=>ih m (by omega) A C)
 exact ⟨.mk q u,⟨q,E⟩,(show [q0,q1]=[q0]++([q1]) from rfl).trans (by rw [e0,z]; rfl),Qb7.2 ⟨⟨rfl,y⟩,D⟩,by rw [Qre]; show sL tySz u+1≤B; omega⟩
theorem Qn9:∀ (n:Nat) {cs:List Value} {B:Nat},B≤1000000000→Tr P0 W B n 31 cs→∃ (v:FdV) (x:Ql),cs=Ql.c x∧FdIs (heapOf W) v x∧(fun f:FdV=>tySz f.t) v≤B:=by
 intro n
 intro cs B D h
 have r:=h.pos
 obtain ⟨q,m,bs,rfl,j,b,i⟩:=h.structS Tryz.underlying31
 rw [show P0.cellsOf 31=3 by kernel_rfl] at q
 match cs,q,bs,j,b,i with
 | [q0,q1,q2],_,[y0,y1],_,b,i=>
 simp only [List.sum_cons,List.sum_nil] at b
 have d:Tr P0 W y0 m 9 (([q0,q1,q2].drop 0).take (P0.cellsOf 9)):=i 0 _ y0 rfl rfl
 rw [show P0.cellsOf 9=1 by kernel_rfl] at d
 replace d:Tr P0 W y0 m 9 [q0]:=d
 obtain ⟨o,e0,_,y⟩:=d.str Tryz.underlying9
 have y:o.length≤140737488355328:=by omega
 have g:Tr P0 W y1 m 24 (([q0,q1,q2].drop 1).take (P0.cellsOf 24)):=i 1 _ y1 rfl rfl
 rw [show P0.cellsOf 24=2 by kernel_rfl] at g
 replace g:Tr P0 W y1 m 24 [q1,q2]:=g
 obtain ⟨u,C,z,A,E⟩:=QwG _ (by omega) g
 exact ⟨⟨o,u⟩,⟨o,C⟩,(show [q0,q1,q2]=[q0]++([q1,q2]) from rfl).trans (by rw [e0,z]; rfl),⟨⟨rfl,y⟩,A⟩,by show tySz u≤B; omega⟩
theorem QtU:∀ (n:Nat) {cs:List Value} {B:Nat},B≤1000000000→Tr P0 W B n 40 cs→∃ (v:ExP) (x:Qe),cs=Qe.c x∧EpIs (heapOf W) v x∧(fun v:ExP=>exSz v.e) v≤B:=by
 intro n
 induction n using Nat.strongRecOn with
 | _ n ih=>
 intro cs B S h
 have D:=h.pos
 obtain ⟨C,m,bs,rfl,u,d,g⟩:=h.structS Tryz.underlying40
 rw [show P0.cellsOf 40=9 by kernel_rfl] at C
 match cs,C,bs,u,d,g with
 | [q0,q1,q2,q3,q4,q5,q6,q7,q8],_,[y0,y1,y2,y3,y4],_,d,g=>
 simp only [List.sum_cons,List.sum_nil] at d
 have i:Tr P0 W y0 m 5 (([q0,q1,q2,q3,q4,q5,q6,q7,q8].drop 0).take (P0.cellsOf 5)):=g 0 _ y0 rfl rfl
 rw [show P0.cellsOf 5=1 by kernel_rfl] at i
 replace i:Tr P0 W y0 m 5 [q0]:=i
 obtain ⟨A,e0,_⟩:=i.int Tryz.underlying5
 have j:Tr P0 W y1 m 26 (([q0,q1,q2,q3,q4,q5,q6,q7,q8].drop 1).take (P0.cellsOf 26)):=g 1 _ y1 rfl rfl
 rw [show P0.cellsOf 26=2 by kernel_rfl] at j
 replace j:Tr P0 W y1 m 26 [q1,q2]:=j
 obtain ⟨z,G⟩:=QoY j
 have o:Tr P0 W y2 m 9 (([q0,q1,q2,q3,q4,q5,q6,q7,q8].drop 3).take (P0.cellsOf 9)):=g 2 _ y2 rfl rfl
 rw [show P0.cellsOf 9=1 by kernel_rfl] at o
 replace o:Tr P0 W y2 m 9 [q3]:=o
 obtain ⟨t,H,_,F⟩:=o.str Tryz.underlying9
 have F:t.length≤140737488355328:=by omega
 have q:Tr P0 W y3 m 38 (([q0,q1,q2,q3,q4,q5,q6,q7,q8].drop 4).take (P0.cellsOf 38)):=g 3 _ y3 rfl rfl
 rw [show P0.cellsOf 38=4 by kernel_rfl] at q
 replace q:Tr P0 W y3 m 38 [q4,q5,q6,q7]:=q
 obtain ⟨E,O,I,M,b3⟩:=Qxz valT6 q (by omega)
 have r:Tr P0 W y4 m 33 (([q0,q1,q2,q3,q4,q5,q6,q7,q8].drop 8).take (P0.cellsOf 33)):=g 4 _ y4 rfl rfl
 rw [show P0.cellsOf 33=1 by kernel_rfl] at r
 replace r:Tr P0 W y4 m 33 [q8]:=r
 obtain ⟨P,y,J,N,Q,T,_⟩:=Qgc (R:=(EpIs (heapOf W))) (c:=Qe.c) (f:=(fun v:ExP=>exSz v.e)) r Tryz.underlying33 (show P0.cellsOf 40=9 by kernel_rfl) (by omega) (by omega) (fun m hm cs b K L=>ih m (by omega) K L)
 exact ⟨.mk z A t E y,⟨A,psP z,t,O,P⟩,(show [q0,q1,q2,q3,q4,q5,q6,q7,q8]=[q0]++([q1,q2]++([q3]++([q4,q5,q6,q7]++([q8])))) from rfl).trans (by rw [e0,G,H,I,J]; rfl),QfQ.2 ⟨rfl,rfl,⟨rfl,F⟩,M,b3,N⟩,by show exSz (ExP.e (.mk z A t E y))≤B; rw [XK,QqO]; show sL exSz (y.map ExP.e)+1≤B; rw [Qli]; omega⟩
theorem QpM:∀ (n:Nat) {cs:List Value} {B:Nat},B≤1000000000→Tr P0 W B n 35 cs→∃ (v:LiP) (x:Qm),cs=Qm.c x∧LpIs (heapOf W) v x∧(fun v:LiP=>liSz v.e) v≤B:=by
 intro n
 intro cs B M h
 have y:=h.pos
 obtain ⟨u,m,bs,rfl,r,d,g⟩:=h.structS Tryz.underlying35
 rw [show P0.cellsOf 35=5 by kernel_rfl] at u
 match cs,u,bs,r,d,g with
 | [q0,q1,q2,q3,q4],_,[y0,y1,y2,y3],_,d,g=>
 simp only [List.sum_cons,List.sum_nil] at d
 have i:Tr P0 W y0 m 5 (([q0,q1,q2,q3,q4].drop 0).take (P0.cellsOf 5)):=g 0 _ y0 rfl rfl
 rw [show P0.cellsOf 5=1 by kernel_rfl] at i
 replace i:Tr P0 W y0 m 5 [q0]:=i
 obtain ⟨D,e0,_⟩:=i.int Tryz.underlying5
 have j:Tr P0 W y1 m 26 (([q0,q1,q2,q3,q4].drop 1).take (P0.cellsOf 26)):=g 1 _ y1 rfl rfl
 rw [show P0.cellsOf 26=2 by kernel_rfl] at j
 replace j:Tr P0 W y1 m 26 [q1,q2]:=j
 obtain ⟨A,E⟩:=QoY j
 have o:Tr P0 W y2 m 9 (([q0,q1,q2,q3,q4].drop 3).take (P0.cellsOf 9)):=g 2 _ y2 rfl rfl
 rw [show P0.cellsOf 9=1 by kernel_rfl] at o
 replace o:Tr P0 W y2 m 9 [q3]:=o
 obtain ⟨t,F,_,C⟩:=o.str Tryz.underlying9
 have C:t.length≤140737488355328:=by omega
 have q:Tr P0 W y3 m 33 (([q0,q1,q2,q3,q4].drop 4).take (P0.cellsOf 33)):=g 3 _ y3 rfl rfl
 rw [show P0.cellsOf 33=1 by kernel_rfl] at q
 replace q:Tr P0 W y3 m 33 [q4]:=q
 obtain ⟨K,z,G,J,L,N,_⟩:=Qgc (R:=(EpIs (heapOf W))) (c:=Qe.c) (f:=(fun v:ExP=>exSz v.e)) q Tryz.underlying33 (show P0.cellsOf 40=9 by kernel_rfl) (by omega) (by omega) (fun m hm cs b H I=>QtU m H I)
 exact ⟨⟨A,D,t,z⟩,⟨D,psP A,t,K⟩,(show [q0,q1,q2,q3,q4]=[q0]++([q1,q2]++([q3]++([q4]))) from rfl).trans (by rw [e0,E,F,G]; rfl),⟨rfl,rfl,⟨rfl,C⟩,J⟩,by show sL exSz (z.map ExP.e)+1≤B; rw [Qli]; omega⟩
theorem Qtr:∀ (n:Nat) {cs:List Value} {B:Nat},B≤1000000000→Tr P0 W B n 63 cs→∃ (v:CnV) (x:Qj),cs=Qj.c x∧CnIs (heapOf W) v x∧cnSz v≤B:=by
 intro n
 intro cs B H h
 have u:=h.pos
 obtain ⟨r,m,bs,rfl,o,d,j⟩:=h.structS Tryz.underlying63
 rw [show P0.cellsOf 63=2 by kernel_rfl] at r
 match cs,r,bs,o,d,j with
 | [q0,q1],_,[y0,y1],_,d,j=>
 simp only [List.sum_cons,List.sum_nil] at d
 have g:Tr P0 W y0 m 9 (([q0,q1].drop 0).take (P0.cellsOf 9)):=j 0 _ y0 rfl rfl
 rw [show P0.cellsOf 9=1 by kernel_rfl] at g
 replace g:Tr P0 W y0 m 9 [q0]:=g
 obtain ⟨q,e0,_,z⟩:=g.str Tryz.underlying9
 have z:q.length≤140737488355328:=by omega
 have i:Tr P0 W y1 m 27 (([q0,q1].drop 1).take (P0.cellsOf 27)):=j 1 _ y1 rfl rfl
 rw [show P0.cellsOf 27=1 by kernel_rfl] at i
 replace i:Tr P0 W y1 m 27 [q1]:=i
 obtain ⟨F,y,A,E,G,I,_⟩:=Qgc (R:=(FdIs (heapOf W))) (c:=Ql.c) (f:=(fun f:FdV=>tySz f.t)) i Tryz.underlying27 (show P0.cellsOf 31=3 by kernel_rfl) (by omega) (by omega) (fun m hm cs b C D=>Qn9 m C D)
 exact ⟨⟨q,y⟩,⟨q,F⟩,(show [q0,q1]=[q0]++([q1]) from rfl).trans (by rw [e0,A]; rfl),⟨⟨rfl,z⟩,E⟩,by show sL (fun f:FdV=>tySz f.t) y+1≤B; omega⟩
theorem Qts:∀ (n:Nat) {cs:List Value} {B:Nat},B≤1000000000→Tr P0 W B n 66 cs→∃ (v:TdP) (x:Qd),cs=Qd.c x∧TpIs (heapOf W) v x∧(fun v:TdP=>tdSz v.e) v≤B:=by
 intro n
 intro cs B Y h
 have C:=h.pos
 obtain ⟨A,m,bs,rfl,u,d,g⟩:=h.structS Tryz.underlying66
 rw [show P0.cellsOf 66=6 by kernel_rfl] at A
 match cs,A,bs,u,d,g with
 | [q0,q1,q2,q3,q4,q5],_,[y0,y1,y2,y3,y4],_,d,g=>
 simp only [List.sum_cons,List.sum_nil] at d
 have i:Tr P0 W y0 m 26 (([q0,q1,q2,q3,q4,q5].drop 0).take (P0.cellsOf 26)):=g 0 _ y0 rfl rfl
 rw [show P0.cellsOf 26=2 by kernel_rfl] at i
 replace i:Tr P0 W y0 m 26 [q0,q1]:=i
 obtain ⟨F,e0⟩:=QoY i
 have j:Tr P0 W y1 m 4 (([q0,q1,q2,q3,q4,q5].drop 2).take (P0.cellsOf 4)):=g 1 _ y1 rfl rfl
 rw [show P0.cellsOf 4=1 by kernel_rfl] at j
 replace j:Tr P0 W y1 m 4 [q2]:=j
 obtain ⟨H,J⟩:=j.bool Tryz.underlying4
 have o:Tr P0 W y2 m 9 (([q0,q1,q2,q3,q4,q5].drop 3).take (P0.cellsOf 9)):=g 2 _ y2 rfl rfl
 rw [show P0.cellsOf 9=1 by kernel_rfl] at o
 replace o:Tr P0 W y2 m 9 [q3]:=o
 obtain ⟨y,K,_,G⟩:=o.str Tryz.underlying9
 have G:y.length≤140737488355328:=by omega
 have q:Tr P0 W y3 m 43 (([q0,q1,q2,q3,q4,q5].drop 4).take (P0.cellsOf 43)):=g 3 _ y3 rfl rfl
 rw [show P0.cellsOf 43=1 by kernel_rfl] at q
 replace q:Tr P0 W y3 m 43 [q4]:=q
 obtain ⟨T,D,L,P,I,S,_⟩:=Qgc (R:=(fun (v:Str) (x:Str)=>Nm x v)) (c:=(fun x=>[sv x])) (f:=(fun _:Str=>1)) q Tryz.underlying43 (show P0.cellsOf 9=1 by kernel_rfl) (by omega) (by omega) (fun m hm cs b z t=>by have N:=t.pos; obtain ⟨s,O,_,Z⟩:=t.str Tryz.underlying9; exact ⟨s,s,O,⟨rfl,by omega⟩,N⟩)
 have r:Tr P0 W y4 m 64 (([q0,q1,q2,q3,q4,q5].drop 5).take (P0.cellsOf 64)):=g 4 _ y4 rfl rfl
 rw [show P0.cellsOf 64=1 by kernel_rfl] at r
 replace r:Tr P0 W y4 m 64 [q5]:=r
 obtain ⟨U,E,M,Q,X,s4,_⟩:=Qgc (R:=(CnIs (heapOf W))) (c:=Qj.c) (f:=cnSz) r Tryz.underlying64 (show P0.cellsOf 63=2 by kernel_rfl) (by omega) (by omega) (fun m hm cs b z t=>Qtr m z t)
 exact ⟨⟨F,H,y,D,E⟩,⟨psP F,H,y,T,U⟩,(show [q0,q1,q2,q3,q4,q5]=[q0,q1]++([q2]++([q3]++([q4]++([q5])))) from rfl).trans (by rw [e0,J,K,L,M]; rfl),⟨rfl,rfl,⟨rfl,G⟩,⟨P,I⟩,Q⟩,by show sL cnSz E+D.length+1≤B; rw [Qo5] at S; omega⟩
theorem QtX:∀ (n:Nat) {cs:List Value} {B:Nat},B≤1000000000→Tr P0 W B n 29 cs→∃ (v:RdP) (x:Qh),cs=Qh.c x∧RpIs (heapOf W) v x∧(fun v:RdP=>rdSz v.e) v≤B:=by
 intro n
 intro cs B Q h
 have A:=h.pos
 obtain ⟨z,m,bs,rfl,u,d,g⟩:=h.structS Tryz.underlying29
 rw [show P0.cellsOf 29=6 by kernel_rfl] at z
 match cs,z,bs,u,d,g with
 | [q0,q1,q2,q3,q4,q5],_,[y0,y1,y2,y3,y4],_,d,g=>
 simp only [List.sum_cons,List.sum_nil] at d
 have i:Tr P0 W y0 m 26 (([q0,q1,q2,q3,q4,q5].drop 0).take (P0.cellsOf 26)):=g 0 _ y0 rfl rfl
 rw [show P0.cellsOf 26=2 by kernel_rfl] at i
 replace i:Tr P0 W y0 m 26 [q0,q1]:=i
 obtain ⟨D,e0⟩:=QoY i
 have j:Tr P0 W y1 m 4 (([q0,q1,q2,q3,q4,q5].drop 2).take (P0.cellsOf 4)):=g 1 _ y1 rfl rfl
 rw [show P0.cellsOf 4=1 by kernel_rfl] at j
 replace j:Tr P0 W y1 m 4 [q2]:=j
 obtain ⟨F,H⟩:=j.bool Tryz.underlying4
 have o:Tr P0 W y2 m 4 (([q0,q1,q2,q3,q4,q5].drop 3).take (P0.cellsOf 4)):=g 2 _ y2 rfl rfl
 rw [show P0.cellsOf 4=1 by kernel_rfl] at o
 replace o:Tr P0 W y2 m 4 [q3]:=o
 obtain ⟨G,I⟩:=o.bool Tryz.underlying4
 have q:Tr P0 W y3 m 9 (([q0,q1,q2,q3,q4,q5].drop 4).take (P0.cellsOf 9)):=g 3 _ y3 rfl rfl
 rw [show P0.cellsOf 9=1 by kernel_rfl] at q
 replace q:Tr P0 W y3 m 9 [q4]:=q
 obtain ⟨y,J,_,E⟩:=q.str Tryz.underlying9
 have E:y.length≤140737488355328:=by omega
 have r:Tr P0 W y4 m 27 (([q0,q1,q2,q3,q4,q5].drop 5).take (P0.cellsOf 27)):=g 4 _ y4 rfl rfl
 rw [show P0.cellsOf 27=1 by kernel_rfl] at r
 replace r:Tr P0 W y4 m 27 [q5]:=r
 obtain ⟨O,C,K,N,P,S,_⟩:=Qgc (R:=(FdIs (heapOf W))) (c:=Ql.c) (f:=(fun f:FdV=>tySz f.t)) r Tryz.underlying27 (show P0.cellsOf 31=3 by kernel_rfl) (by omega) (by omega) (fun m hm cs b L M=>Qn9 m L M)
 exact ⟨⟨D,F,G,y,C⟩,⟨psP D,F,G,y,O⟩,(show [q0,q1,q2,q3,q4,q5]=[q0,q1]++([q2]++([q3]++([q4]++([q5])))) from rfl).trans (by rw [e0,H,I,J,K]; rfl),⟨rfl,rfl,rfl,⟨rfl,E⟩,N⟩,by show sL (fun f:FdV=>tySz f.t) C+1≤B; omega⟩
theorem QwE:∀ (n:Nat) {cs:List Value} {B:Nat},B≤1000000000→Tr P0 W B n 45 cs→∃ (v:RuP) (x:Qi),cs=Qi.c x∧UpIs (heapOf W) v x∧(fun v:RuP=>ruSz v.e) v≤B:=by
 intro n
 intro cs B Z h
 have C:=h.pos
 obtain ⟨A,m,bs,rfl,y,d,g⟩:=h.structS Tryz.underlying45
 rw [show P0.cellsOf 45=6 by kernel_rfl] at A
 match cs,A,bs,y,d,g with
 | [q0,q1,q2,q3,q4,q5],_,[y0,y1,y2,y3,y4],_,d,g=>
 simp only [List.sum_cons,List.sum_nil] at d
 have j:Tr P0 W y0 m 26 (([q0,q1,q2,q3,q4,q5].drop 0).take (P0.cellsOf 26)):=g 0 _ y0 rfl rfl
 rw [show P0.cellsOf 26=2 by kernel_rfl] at j
 replace j:Tr P0 W y0 m 26 [q0,q1]:=j
 obtain ⟨E,e0⟩:=QoY j
 have o:Tr P0 W y1 m 9 (([q0,q1,q2,q3,q4,q5].drop 2).take (P0.cellsOf 9)):=g 1 _ y1 rfl rfl
 rw [show P0.cellsOf 9=1 by kernel_rfl] at o
 replace o:Tr P0 W y1 m 9 [q2]:=o
 obtain ⟨z,G,_,F⟩:=o.str Tryz.underlying9
 have F:z.length≤140737488355328:=by omega
 have q:Tr P0 W y2 m 33 (([q0,q1,q2,q3,q4,q5].drop 3).take (P0.cellsOf 33)):=g 2 _ y2 rfl rfl
 rw [show P0.cellsOf 33=1 by kernel_rfl] at q
 replace q:Tr P0 W y2 m 33 [q3]:=q
 obtain ⟨Q,l2,H,N,U,s2,_⟩:=Qgc (R:=(EpIs (heapOf W))) (c:=Qe.c) (f:=(fun v:ExP=>exSz v.e)) q Tryz.underlying33 (show P0.cellsOf 40=9 by kernel_rfl) (by omega) (by omega) (fun m hm cs b u i=>QtU m u i)
 have r:Tr P0 W y3 m 43 (([q0,q1,q2,q3,q4,q5].drop 4).take (P0.cellsOf 43)):=g 3 _ y3 rfl rfl
 rw [show P0.cellsOf 43=1 by kernel_rfl] at r
 replace r:Tr P0 W y3 m 43 [q4]:=r
 obtain ⟨S,M,I,O,X,s3,_⟩:=Qgc (R:=(fun (v:Str) (x:Str)=>Nm x v)) (c:=(fun x=>[sv x])) (f:=(fun _:Str=>1)) r Tryz.underlying43 (show P0.cellsOf 9=1 by kernel_rfl) (by omega) (by omega) (fun m hm cs b u i=>by have K:=i.pos; obtain ⟨s,L,_,hw⟩:=i.str Tryz.underlying9; exact ⟨s,s,L,⟨rfl,by omega⟩,K⟩)
 have t:Tr P0 W y4 m 42 (([q0,q1,q2,q3,q4,q5].drop 5).take (P0.cellsOf 42)):=g 4 _ y4 rfl rfl
 rw [show P0.cellsOf 42=1 by kernel_rfl] at t
 replace t:Tr P0 W y4 m 42 [q5]:=t
 obtain ⟨T,D,J,P,Y,s4,_⟩:=Qgc (R:=(LpIs (heapOf W))) (c:=Qm.c) (f:=(fun v:LiP=>liSz v.e)) t Tryz.underlying42 (show P0.cellsOf 35=5 by kernel_rfl) (by omega) (by omega) (fun m hm cs b u i=>QpM m u i)
 exact ⟨⟨E,z,l2,M,D⟩,⟨psP E,z,Q,S,T⟩,(show [q0,q1,q2,q3,q4,q5]=[q0,q1]++([q2]++([q3]++([q4]++([q5])))) from rfl).trans (by rw [e0,G,H,I,J]; rfl),⟨rfl,⟨rfl,F⟩,N,O,P⟩,by show sL exSz (l2.map ExP.e)+sL liSz (D.map LiP.e)+1≤B; rw [Qli,Qli]; omega⟩
theorem Qvj:∀ (n:Nat) {cs:List Value} {B:Nat},B≤1000000000→Tr P0 W B n 68 cs→∃ (v:NeP) (x:Qo),cs=Qo.c x∧NpIs (heapOf W) v x∧(fun v:NeP=>neSz v.e) v≤B:=by
 intro n
 intro cs B I h
 have u:=h.pos
 obtain ⟨t,m,bs,rfl,q,d,g⟩:=h.structS Tryz.underlying68
 rw [show P0.cellsOf 68=4 by kernel_rfl] at t
 match cs,t,bs,q,d,g with
 | [q0,q1,q2,q3],_,[y0,y1,y2],_,d,g=>
 simp only [List.sum_cons,List.sum_nil] at d
 have i:Tr P0 W y0 m 26 (([q0,q1,q2,q3].drop 0).take (P0.cellsOf 26)):=g 0 _ y0 rfl rfl
 rw [show P0.cellsOf 26=2 by kernel_rfl] at i
 replace i:Tr P0 W y0 m 26 [q0,q1]:=i
 obtain ⟨y,e0⟩:=QoY i
 have j:Tr P0 W y1 m 9 (([q0,q1,q2,q3].drop 2).take (P0.cellsOf 9)):=g 1 _ y1 rfl rfl
 rw [show P0.cellsOf 9=1 by kernel_rfl] at j
 replace j:Tr P0 W y1 m 9 [q2]:=j
 obtain ⟨r,A,_,z⟩:=j.str Tryz.underlying9
 have z:r.length≤140737488355328:=by omega
 have o:Tr P0 W y2 m 42 (([q0,q1,q2,q3].drop 3).take (P0.cellsOf 42)):=g 2 _ y2 rfl rfl
 rw [show P0.cellsOf 42=1 by kernel_rfl] at o
 replace o:Tr P0 W y2 m 42 [q3]:=o
 obtain ⟨G,l2,C,F,H,s2,_⟩:=Qgc (R:=(LpIs (heapOf W))) (c:=Qm.c) (f:=(fun v:LiP=>liSz v.e)) o Tryz.underlying42 (show P0.cellsOf 35=5 by kernel_rfl) (by omega) (by omega) (fun m hm cs b D E=>QpM m D E)
 exact ⟨⟨y,r,l2⟩,⟨psP y,r,G⟩,(show [q0,q1,q2,q3]=[q0,q1]++([q2]++([q3])) from rfl).trans (by rw [e0,A,C]; rfl),⟨rfl,⟨rfl,z⟩,F⟩,by show sL liSz (l2.map LiP.e)+1≤B; rw [Qli]; omega⟩
theorem QtV:∀ (n:Nat) {cs:List Value} {B:Nat},B≤1000000000→Tr P0 W B n 48 cs→∃ (v:ImP) (x:Qq),cs=Qq.c x∧IpIs v x∧(fun _:ImP=>1) v≤B:=by
 intro n
 intro cs B y h
 have q:=h.pos
 obtain ⟨o,m,bs,rfl,i,b,g⟩:=h.structS Tryz.underlying48
 rw [show P0.cellsOf 48=3 by kernel_rfl] at o
 match cs,o,bs,i,b,g with
 | [q0,q1,q2],_,[y0,y1],_,b,g=>
 simp only [List.sum_cons,List.sum_nil] at b
 have d:Tr P0 W y0 m 26 (([q0,q1,q2].drop 0).take (P0.cellsOf 26)):=g 0 _ y0 rfl rfl
 rw [show P0.cellsOf 26=2 by kernel_rfl] at d
 replace d:Tr P0 W y0 m 26 [q0,q1]:=d
 obtain ⟨r,e0⟩:=QoY d
 have f:Tr P0 W y1 m 9 (([q0,q1,q2].drop 2).take (P0.cellsOf 9)):=g 1 _ y1 rfl rfl
 rw [show P0.cellsOf 9=1 by kernel_rfl] at f
 replace f:Tr P0 W y1 m 9 [q2]:=f
 obtain ⟨j,u,_,t⟩:=f.str Tryz.underlying9
 have t:j.length≤140737488355328:=by omega
 exact ⟨⟨r,j⟩,⟨psP r,j⟩,(show [q0,q1,q2]=[q0,q1]++([q2]) from rfl).trans (by rw [e0,u]; rfl),⟨rfl,rfl,t⟩,by omega⟩
theorem QtW:∀ (n:Nat) {cs:List Value} {B:Nat},B≤1000000000→Tr P0 W B n 55 cs→∃ (v:MoP) (x:Qa),cs=Qa.c x∧MpIs (heapOf W) v x∧(fun v:MoP=>moSz v.e) v≤B:=by
 intro n
 intro cs B hB h
 have D:=h.pos
 obtain ⟨C,m,bs,rfl,z,j,i⟩:=h.structS Tryz.underlying55
 rw [show P0.cellsOf 55=6 by kernel_rfl] at C
 match cs,C,bs,z,j,i with
 | [q0,q1,q2,q3,q4,q5],_,[y0,y1,y2,y3,y4,y5],_,j,i=>
 simp only [List.sum_cons,List.sum_nil] at j
 have o:Tr P0 W y0 m 9 (([q0,q1,q2,q3,q4,q5].drop 0).take (P0.cellsOf 9)):=i 0 _ y0 rfl rfl
 rw [show P0.cellsOf 9=1 by kernel_rfl] at o
 replace o:Tr P0 W y0 m 9 [q0]:=o
 obtain ⟨A,e0,_,I⟩:=o.str Tryz.underlying9
 have I:A.length≤140737488355328:=by omega
 have q:Tr P0 W y1 m 49 (([q0,q1,q2,q3,q4,q5].drop 1).take (P0.cellsOf 49)):=i 1 _ y1 rfl rfl
 rw [show P0.cellsOf 49=1 by kernel_rfl] at q
 replace q:Tr P0 W y1 m 49 [q1]:=q
 obtain ⟨Y,E,K,P,J,X,_⟩:=Qgc (R:=(IpIs)) (c:=Qq.c) (f:=(fun _:ImP=>1)) q Tryz.underlying49 (show P0.cellsOf 48=3 by kernel_rfl) (by omega) (by omega) (fun m hm cs b d g=>QtV m d g)
 have r:Tr P0 W y2 m 51 (([q0,q1,q2,q3,q4,q5].drop 2).take (P0.cellsOf 51)):=i 2 _ y2 rfl rfl
 rw [show P0.cellsOf 51=1 by kernel_rfl] at r
 replace r:Tr P0 W y2 m 51 [q2]:=r
 obtain ⟨Z,l2,L,Q,c2,s2,_⟩:=Qgc (R:=(TpIs (heapOf W))) (c:=Qd.c) (f:=(fun v:TdP=>tdSz v.e)) r Tryz.underlying51 (show P0.cellsOf 66=6 by kernel_rfl) (by omega) (by omega) (fun m hm cs b d g=>Qts m d g)
 have t:Tr P0 W y3 m 50 (([q0,q1,q2,q3,q4,q5].drop 3).take (P0.cellsOf 50)):=i 3 _ y3 rfl rfl
 rw [show P0.cellsOf 50=1 by kernel_rfl] at t
 replace t:Tr P0 W y3 m 50 [q3]:=t
 obtain ⟨x3,F,M,S,c3,s3,_⟩:=Qgc (R:=(RpIs (heapOf W))) (c:=Qh.c) (f:=(fun v:RdP=>rdSz v.e)) t Tryz.underlying50 (show P0.cellsOf 29=6 by kernel_rfl) (by omega) (by omega) (fun m hm cs b d g=>QtX m d g)
 have u:Tr P0 W y4 m 52 (([q0,q1,q2,q3,q4,q5].drop 4).take (P0.cellsOf 52)):=i 4 _ y4 rfl rfl
 rw [show P0.cellsOf 52=1 by kernel_rfl] at u
 replace u:Tr P0 W y4 m 52 [q4]:=u
 obtain ⟨x4,G,N,T,c4,s4,_⟩:=Qgc (R:=(UpIs (heapOf W))) (c:=Qi.c) (f:=(fun v:RuP=>ruSz v.e)) u Tryz.underlying52 (show P0.cellsOf 45=6 by kernel_rfl) (by omega) (by omega) (fun m hm cs b d g=>QwE m d g)
 have y:Tr P0 W y5 m 53 (([q0,q1,q2,q3,q4,q5].drop 5).take (P0.cellsOf 53)):=i 5 _ y5 rfl rfl
 rw [show P0.cellsOf 53=1 by kernel_rfl] at y
 replace y:Tr P0 W y5 m 53 [q5]:=y
 obtain ⟨x5,H,O,U,c5,s5,_⟩:=Qgc (R:=(NpIs (heapOf W))) (c:=Qo.c) (f:=(fun v:NeP=>neSz v.e)) y Tryz.underlying53 (show P0.cellsOf 68=4 by kernel_rfl) (by omega) (by omega) (fun m hm cs b d g=>Qvj m d g)
 exact ⟨⟨A,E,l2,F,G,H⟩,⟨A,Y,Z,x3,x4,x5⟩,(show [q0,q1,q2,q3,q4,q5]=[q0]++([q1]++([q2]++([q3]++([q4]++([q5]))))) from rfl).trans (by rw [e0,K,L,M,N,O]; rfl),⟨⟨rfl,I⟩,⟨P,J⟩,Q,S,T,U⟩,by show (E.map ImP.n).length+sL tdSz (l2.map TdP.e)+sL rdSz (F.map RdP.e)+sL ruSz (G.map RuP.e)+sL neSz (H.map NeP.e)≤B; rw [Qli,Qli,Qli,Qli,List.length_map]; rw [Qo5] at X; omega⟩
theorem Qt3 {H : Type} {enc : TypeId × Value → H} {base : Nat} {v : Value} {d : DataW H} {p : List MemPlace} (t : Value.okWide P0 W .any base 59 v) (h : DataW.Trod enc P0 W 0 (fun _ => true) true 59 v d p) (B : sizeD d ≤ 1048576) :
 ∃ (s:Sl) (a:List MoP),v=slv s∧MpL (heapOf W) s a∧(∀ m ∈ a,moSz m.e≤1048576)∧a.length≤1048576∧s.len≤s.cap:=by
 obtain ⟨x,len,c,rfl⟩:=WideShapes.okWide_slice Tryz.underlying59 t
 obtain ⟨n,hn⟩:=Tr.of h
 obtain ⟨s,a,i,j,o,z,A⟩:=Qgc (R:=MpIs (heapOf W)) (c:=Qa.c) (f:=fun v:MoP=>moSz v.e) hn Tryz.underlying59 (show P0.cellsOf 55=6 by kernel_rfl) (by omega) (by omega) (fun m hm cs b q r=>QtW m q r)
 have hm:∀ l:List MoP,∀ m ∈ l,moSz m.e≤sL (fun v:MoP=>moSz v.e) l:=by
  intro l
  induction l with
  | nil=>intro m h; cases h
  | cons y l u=>
   intro m h
   simp only [sL]
   rcases List.mem_cons.1 h with rfl | h
   ·omega
   ·have:=u m h; omega
 refine ⟨s,a,?_,j,fun m g=>by have:=hm a m g; omega,by omega,o⟩
 simpa [Value.cells] using i
end
end
section
open Go Go.Proofs
theorem QlZ {C:Ctx} {H:Heap} (f:MaxC C) (b:FmtC C) {a:List MoP} {s:Sl} (d:MpL H s a∧(∀ m ∈ a,moSz m.e≤1048576)∧a.length≤1048576∧s.len≤s.cap):Qa7 C s (fun r _=>r=true) H:=Qm3 f b d.1 (fun m hm=>Nat.le_trans (d.2.1 m hm) (by omega)) (Nat.le_trans d.2.2.1 (by omega)) fun _=>rfl
end
end Sx
end
noncomputable section
set_option linter.unusedVariables false
namespace Go.Proofs.YtmeefnmaphmpkaaGreatDoor
open Sx
mutual
theorem QsE {H:Type}:∀ (d:DataW H),sizeD d≤Rows.uptoBulk d
 | .lit l=>by cases l <;> simp [sizeD,Rows.uptoBulk]
 | .nil=>by simp [sizeD,Rows.uptoBulk]
 | .ptr d=>by have:=QsE d; simp only [sizeD,Rows.uptoBulk]; omega
 | .slice e s=>by have:=QmY e; have:=QmY s; simp only [sizeD,Rows.uptoBulk]; omega
 | .agg p=>by have:=QmY p; simp only [sizeD,Rows.uptoBulk]; omega
 | .iface _ d=>by have:=QsE d; simp only [sizeD,Rows.uptoBulk]; omega
 | .map _=>by simp [sizeD,Rows.uptoBulk]
 | .held _=>by simp [sizeD,Rows.uptoBulk]
theorem QmY {H:Type}:∀ (l:List (DataW H)),sizeDs l≤Rows.uptoBulkAll l
 | []=>by simp [sizeDs,Rows.uptoBulkAll]
 | d::r=>by have:=QsE d; have:=QmY r; simp only [sizeDs,Rows.uptoBulkAll]; omega
end
theorem Qv4 {H:Type} {b:List (DataW H)} (g:Rows.uptoSmall H b=true) {d:DataW H} (f:d ∈ b):sizeD d≤1048576:=by
 have h:Rows.uptoBulkAll b≤1048576:=Vb g
 have i:=QmY b
 have j:=QiB f
 omega
end Go.Proofs.YtmeefnmaphmpkaaGreatDoor
namespace Sx
open Go
end Sx
end

noncomputable section

end

