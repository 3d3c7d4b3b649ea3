/-
  Texts of this family, one behind the other: TreeS, TreeP, TreeQ, TreeZ, TreeD1, TreeD2, TreeD3, TreeD4, TreeD5, ModI, ModV, Mod1, Mod2, Mod3, Mod4, Mod5, Mod6, Mod7, Mod8, Mod9, Mod10, Mod11, Mod12, Mod13, Mod14.
-/
import Derived.Test.YtmeefnmaphmpkaaGreatDoorBF21
noncomputable section
set_option linter.unusedVariables false
set_option linter.unusedSimpArgs false
set_option maxRecDepth 10000
namespace Sx
section
open Go Go.Proofs
theorem jb {P:Prop} {R:Bool→HP} {body:(Bool→HP)→Prop} (H0:Heap) (d:body (fun b E=>E=H0∧(b=true↔P))) (f:∀ b,(b=true↔P)→R b H0):jn (α:=Bool) R body:=⟨fun b E=>E=H0∧(b=true↔P),d,fun b E g=>by obtain ⟨e,h⟩:=g; subst e; exact f b h⟩
theorem nand {b:Bool} {P Q:Prop} (f:b=true↔P) (h:b=false):(false=true↔P∧Q):=⟨fun d=>(nomatch d),fun ⟨hp,_⟩=>by rw [f.2 hp] at h; cases h⟩
theorem yand {b r:Bool} {P Q:Prop} (g:b=true↔P) (h:b=true) (d:r=true↔Q):(r=true↔P∧Q):=⟨fun f=>⟨g.1 h,d.1 f⟩,fun ⟨_,i⟩=>d.2 i⟩
theorem Qx1 {α:Type} {v w:α} {b:Bool} (h:b=true↔v=w):b=sm v w:=by
 rw [Vn,h,sm_t]
theorem iq {a b d f:Int} (g:a=d) (h:b=f):((a == b)=true↔d=f):=by rw [g,h]; simp
theorem sq {a b d f:Str} (g:a=d) (h:b=f):((a == b)=true↔d=f):=by rw [g,h]; simp
theorem sqN {a b d f:Str} (g:Nm a d) (h:Nm b f):((a == b)=true↔d=f):=sq g.1 h.1
theorem bq {a b d f:Bool} (g:a=d) (h:b=f):((a == b)=true↔d=f):=by rw [g,h]; simp
theorem TyV.eq_iff {v w:TyV}:v=w↔v.n=w.n∧v.a=w.a:=by
 obtain ⟨a,b⟩:=v; obtain ⟨e,f⟩:=w
 constructor
 ·rintro ⟨⟩; exact ⟨rfl,rfl⟩
 ·rintro ⟨d,g⟩
  have d:a=e:=d; have g:b=f:=g
  rw [d,g]
theorem ExV.eq_iff {v w:ExV}:v=w↔((v.k=w.k∧v.n=w.n)∧v.v=w.v)∧v.a=w.a:=by
 obtain ⟨a,b,c,d⟩:=v; obtain ⟨e,f,g,h⟩:=w
 constructor
 ·rintro ⟨⟩; exact ⟨⟨⟨rfl,rfl⟩,rfl⟩,rfl⟩
 ·rintro ⟨⟨⟨i,j⟩,m⟩,o⟩
  have i:a=e:=i; have j:b=f:=j; have m:c=g:=m; have o:d=h:=o
  rw [i,j,m,o]
theorem LiV.eq_iff {v w:LiV}:v=w↔(v.k=w.k∧v.r=w.r)∧v.a=w.a:=by cases v; cases w; simp [and_assoc]
theorem FdV.eq_iff {v w:FdV}:v=w↔v.n=w.n∧v.t=w.t:=by cases v; cases w; simp
theorem CnV.eq_iff {v w:CnV}:v=w↔v.n=w.n∧v.f=w.f:=by cases v; cases w; simp
theorem TdV.eq_iff {v w:TdV}:v=w↔((v.p=w.p∧v.n=w.n)∧v.ps=w.ps)∧v.cs=w.cs:=by cases v; cases w; simp [and_assoc]
theorem RdV.eq_iff {v w:RdV}:v=w↔((v.p=w.p∧v.i=w.i)∧v.n=w.n)∧v.f=w.f:=by cases v; cases w; simp [and_assoc]
theorem RuV.eq_iff {v w:RuV}:v=w↔((v.r=w.r∧v.a=w.a)∧v.g=w.g)∧v.b=w.b:=by cases v; cases w; simp [and_assoc]
theorem NeV.eq_iff {v w:NeV}:v=w↔v.n=w.n∧v.b=w.b:=by cases v; cases w; simp
theorem MoV.eq_iff {v w:MoV}:v=w↔((((v.n=w.n∧v.im=w.im)∧v.ty=w.ty)∧v.re=w.re)∧v.ru=w.ru)∧v.ne=w.ne:=by cases v; cases w; simp [and_assoc]
section
variable {C:Ctx} {H A:Heap}
theorem SlIs.ldS {s:Sl} {l:List Str} {i:Nat} {x:Int} {K:Str→Prop} (h:StL A s l) (hle:A.le H) (hx:x=i) (hi:i < l.length) (k:K l[i]):ixa s x fun p=>Sx.ldS H (p.1,p.2+x.toNat*1) K:=
 SlIs.at_ h hle (z:=1) (fun _=>rfl) (by omega) hx hi fun p y hy b=>⟨y,by have:=b 0 _ rfl; rw [Nat.add_zero] at this; exact this,by rw [hy.1]; exact k⟩
theorem QtR {l m:List Str} {s t:Sl} {K:Bool→HP} (j:StL A s l) (r:StL A t m) (o:A.le H) (k:K (sm l m) H) :
 ift (((Sl.len s:Int):Int) != (Sl.len t:Int))
  (K false H)
  (lp (α:=Int) 0 H (fun f J3 H4=>
  ift (decide ((f:Int) < (Sl.len s:Int)))
  (ixa s f fun p6=>
  Sx.ldS H4 (p6.1,p6.2+(f:Int).toNat*1) fun x11=>
  ixa t f fun p13=>
  Sx.ldS H4 (p13.1,p13.2+(f:Int).toNat*1) fun x18=>
  ift (!(x11 == x18))
  (K false H4)
  (J3 (w .i64 (f+1)) H4))
  (K true H4))):=by
 rw [SlIs.len j,SlIs.len r]
 refine ift.of (fun h=>?_) (fun h=>?_)
 ·have : l ≠ m := fun e => by subst e; simp at h
  rw [Qk2 this] at k; exact k
 have u:l.length=m.length:=Int.ofNat.inj (show (l.length:Int)=m.length by simpa using h)
 have y:=SlIs.bd j
 refine ⟨fun x D=>D=H∧∃ i:Nat,x=(i:Int)∧i≤l.length∧l.take i=m.take i,fun x _=>l.length - x.toNat,⟨rfl,0,rfl,Nat.zero_le _,rfl⟩,?_⟩
 rintro _ D ⟨rfl,i,rfl,hi,q⟩
 refine ift.of (fun h=>?_) (fun h=>?_)
 ·have d : i < l.length := by have := Vb h; omega
  have b:i < m.length:=by omega
  refine SlIs.ldS j o rfl d (SlIs.ldS r o rfl b ?_)
  refine ift.of (fun h=>?_) (fun h=>?_)
  ·have : l[i] ≠ m[i] := by simpa using h
   rw [Qk2 (Qj7 d b this)] at k; exact k
  ·have : l[i] = m[i] := by simpa using h
   rw [Qu (by omega) (by omega)]
   exact ⟨⟨rfl,i+1,by omega,by omega,Qg5 d b q this⟩,by first | omega | (dsimp only; omega)⟩
 ·have g : i = l.length := by have := Vc h; omega
  rw [QmZ (Qfs g u q)] at k
  exact k
theorem Qx4 {x:Ql} (i:Nat) (u:Value) (hi:(Qf.c x.Type_)[i]? = some u):(Ql.c x)[1+i]? = some u:=by
 match i,hi with
 | 0,hi=>exact hi
 | 1,hi=>exact hi
 | i+2,hi=>simp [Qf.c] at hi
end
end
section
open Go Go.Proofs
theorem n1 {b:Bool} {P Q:Prop} (d:b=true ↔ ¬P) (h:b=true):(true=true ↔ ¬(P∧Q)):=⟨fun _ f=>d.1 h f.1,fun _=>rfl⟩
theorem n2 {b r:Bool} {P Q:Prop} (g:b=true ↔ ¬P) (h:b=false) (i:r=true ↔ ¬Q):(r=true ↔ ¬(P∧Q)):=by
 have hp:P:=Classical.byContradiction fun e=>by rw [g.2 e] at h; cases h
 rw [i]; exact ⟨fun f d=>f d.2,fun d f=>d ⟨hp,f⟩⟩
theorem n3 {b:Bool} {P:Prop} (d:b=true ↔ ¬P) (h:b=false):P:=Classical.byContradiction fun e=>by rw [d.2 e] at h; cases h
theorem nsq {a b d f:Str} (g:Nm a d) (h:Nm b f):((!(a == b))=true ↔ ¬ d=f):=by rw [g.1,h.1]; simp
theorem nbq {a b d f:Bool} (g:a=d) (h:b=f):((!(a == b))=true ↔ ¬ d=f):=by rw [g,h]; simp
theorem niq {a b d f:Int} (g:a=d) (h:b=f):((a != b)=true ↔ ¬ d=f):=by rw [g,h]; simp
theorem nsm {α:Type} {v w:α}:((!(sm v w))=true ↔ ¬ v=w):=by rw [Bool.not_eq_true',← Bool.not_eq_true,sm_t]
theorem nlen {α β b d:Type} {R:α→β→Prop} {c:β→List Value} {f:b→d→Prop} {g:d→List Value} {A B:Heap} {s t:Sl} {l:List α} {m:List b} (h:SlIs R c A s l) (i:SlIs f g B t m):((((Sl.len s:Int):Int) != (Sl.len t:Int))=true ↔ ¬ l.length=m.length):=by
 rw [h.len,i.len,bne_iff_ne]; omega
theorem lpEq {α:Type} {l m:List α} {H:Heap} {body:Int→(Int→HP)→HP} (o:l.length≤140737488355328)
 (b:∀ (i:Nat) (D:Heap) (J:Int→HP),H.le D→i≤l.length→l.take i=m.take i→(i < l.length→∀ D',H.le D'→l.take (i+1)=m.take (i+1)→J (w .i64 ((i:Int)+1)) D')→body (i:Int) J D):lp (α:=Int) 0 H body:=by
 refine ⟨fun x D=>H.le D∧∃ i:Nat,x=(i:Int)∧i≤l.length∧l.take i=m.take i,fun x _=>l.length - x.toNat,⟨Heap.le.refl _,0,rfl,Nat.zero_le _,rfl⟩,?_⟩
 rintro _ D ⟨f,i,rfl,hi,h⟩
 refine b i D _ f hi h fun g D' d j=>?_
 rw [Qu (by omega) (by omega)]
 exact ⟨⟨d,i+1,by omega,by omega,j⟩,by first | omega | (dsimp only; omega)⟩
section
variable {C:Ctx} {H A:Heap}
theorem Qnt {l m:List Str} {s t:Sl} {K:Bool→HP} (d:StL A s l) (f:StL A t m) (b:A.le H) (k:K (sm l m) H):Qdx C s t K H:=by
 apply Ql3
 unfold Qhq
 exact QtR d f b k
theorem Qse:∀ (v:TyV) {w:TyV} {x y:Qf} {H:Heap} {K:Bool→HP},TyIs A v x→TyIs A w y→A.le H→K (sm v w) H→QaZ C x y K H:=by
 refine TyV.rec_ fun v Q o x y H K hx hy N k=>?_
 have hx':=Qb7.1 hx
 have hy':=Qb7.1 hy
 apply QaZ.gh
 apply Qna
 unfold Qiu
 refine box2 fun R b3 L hle q r=>fS q rfl (fS r rfl ?_)
 have t:=N.trans hle
 refine jb (P:=¬(v.n=o.n∧v.a.length=o.a.length)) L ?_ fun b E=>?_
 ·have I:=nsq hx'.1 hy'.1
  exact ift.of (fun h=>⟨rfl,n1 I h⟩) (fun h=>fL q rfl (fL r rfl ⟨rfl,n2 I h (nlen hx'.2 hy'.2)⟩))
 refine ift.of (fun h=>?_) (fun h=>?_)
 ·rw [Qk2 (fun e=>E.1 h (by subst e; exact ⟨rfl,rfl⟩))] at k; exact ⟨H,Gh.le hle,k⟩
 have F:=n3 E h
 refine lpEq (l:=v.a) (m:=o.a) (SlIs.bd hx'.2) fun i D J j hi G O=>?_
 refine fL (j _ _ q) rfl ?_
 rw [SlIs.len hx'.2]
 refine ift.of (fun h=>?_) (fun h=>?_)
 ·have d : i < v.a.length := by have := Vb h; omega
  have f:i < o.a.length:=by omega
  have g:=t.trans j
  refine ⟨D,Heap.le.refl _,fL (j _ _ q) rfl (SlIs.ld hx'.2 g Qi2 (by omega) rfl d fun S z=>fL (j _ _ r) rfl (SlIs.ld hy'.2 g Qi2 (by omega) rfl f fun T B=>Q _ (Vg d) z B g ⟨Heap.le.refl _,?_⟩))⟩
  by_cases e:v.a[i]=o.a[i]
  ·rw [QmZ e]; exact Qaw rfl (O d _ j (Qg5 d f G e))
  ·rw [Qk2 e]; rw [Qk2 (fun M=>Qj7 d f e (by rw [M]))] at k; exact QaK rfl ⟨H,Gh.le (hle.trans j),k⟩
 ·have u : i = v.a.length := by have := Vc h; omega
  rw [QmZ (TyV.eq_iff.2 ⟨F.1,Qfs u F.2 G⟩)] at k
  exact ⟨H,Gh.le (hle.trans j),k⟩
theorem Ql0 {l m:List ExV} {s t:Sl} {K:Bool→HP} (j:ExL A s l) (z:ExL A t m) (E:A.le H)
 (I:∀ (p:ExV),p ∈ l→∀ {w:ExV} {x y:Qe} {D:Heap} {K:Bool→HP},ExIs A p x→ExIs A w y→A.le D→K (sm p w) D→QaY C x y K D) (k:K (sm l m) H):Q9 C s t K H:=by
 apply Q9.gh
 apply Ql2
 unfold Qhp
 have B:=nlen j z
 refine ift.of (fun h=>?_) (fun h=>?_)
 ·rw [Qk2 (fun e=>B.1 h (by rw [e]))] at k; exact ⟨H,Gh.refl _,k⟩
 have G:=n3 B h
 refine lpEq (l:=l) (m:=m) j.bd fun i D J g hi u F=>?_
 rw [j.len]
 refine ift.of (fun h=>?_) (fun h=>?_)
 ·have b : i < l.length := by have := Vb h; omega
  have d:i < m.length:=by omega
  have f:=E.trans g
  refine ⟨D,Heap.le.refl _,j.ld f QbA (by omega) rfl b fun L q=>z.ld f QbA (by omega) rfl d fun M r=>I _ (Vg b) q r f ⟨Heap.le.refl _,?_⟩⟩
  by_cases e:l[i]=m[i]
  ·rw [QmZ e]; exact Qaw rfl (F b _ g (Qg5 b d u e))
  ·rw [Qk2 e]; rw [Qk2 (Qj7 b d e)] at k; exact QaK rfl ⟨H,Gh.le g,k⟩
 ·have o : i = l.length := by have := Vc h; omega
  rw [QmZ (Qfs o G u)] at k
  exact ⟨H,Gh.le g,k⟩
theorem QwD {x:Qe} (i:Nat) (u:Value) (hi:(Qg.c x.Value_)[i]? = some u):(Qe.c x)[4+i]? = some u:=by
 match i,hi with
 | 0,hi=>exact hi
 | 1,hi=>exact hi
 | 2,hi=>exact hi
 | 3,hi=>exact hi
 | i+4,hi=>simp [Qg.c] at hi
theorem Qsb:∀ (v:ExV) {w:ExV} {x y:Qe} {H:Heap} {K:Bool→HP},ExIs A v x→ExIs A w y→A.le H→K (sm v w) H→QaY C x y K H:=by
 refine ExV.rec_ fun v G f x y H K hx hy F k=>?_
 have hx':=Qdv.1 hx
 have hy':=Qdv.1 hy
 apply QaY.gh
 apply Qm8
 unfold Qis
 refine box2 fun I b3 o hle j m=>fI j rfl (fI m rfl ?_)
 have d:=F.trans hle
 refine jb (P:=v.k=f.k∧v.n=f.n) o ?_ fun J i=>?_
 ·have q:=iq hx'.1 hy'.1
  exact ift.of (fun h=>fS j rfl (fS m rfl ⟨rfl,yand q h (sqN hx'.2.1 hy'.2.1)⟩)) (fun h=>⟨rfl,nand q h⟩)
 refine jb (P:=(v.k=f.k∧v.n=f.n)∧v.v=f.v) o ?_ fun r b=>?_
 ·exact ift.of (fun h=>fT j QwD (fT m QwD (QtY (hx'.2.2.1.le d) (hy'.2.2.1.le d) hx'.2.2.2.1 ⟨rfl,yand i h Qr1⟩))) (fun h=>⟨rfl,nand i h⟩)
 refine jb (P:=v=f) o ?_ fun t g=>⟨H,Gh.le hle,by rw [Qx1 g]; exact k⟩
 rw [ExV.eq_iff]
 refine ift.of (fun h=>fL j rfl (fL m rfl ?_)) (fun h=>⟨rfl,nand b h⟩)
 exact Ql0 hx'.2.2.2.2 hy'.2.2.2.2 d (fun p hp w x y D K u z B E=>G p hp u z B E) ⟨rfl,yand b h sm_t⟩
theorem Qns {l m:List ExV} {s t:Sl} {K:Bool→HP} (i:ExL A s l) (j:ExL A t m) (h:A.le H) (k:K (sm l m) H):Q9 C s t K H:=
 Ql0 i j h (fun p _ w x y D K b d f g=>Qsb p b d f g) k
theorem Ql1 {l m:List FdV} {s t:Sl} {K:Bool→HP} (o:FdL A s l) (x:FdL A t m) (M:A.le H) (k:K (sm l m) H):Qau C s t K H:=by
 apply Qau.gh
 apply QlL
 unfold QgZ
 have I:=nlen o x
 refine ift.of (fun h=>?_) (fun h=>?_)
 ·rw [Qk2 (fun e=>I.1 h (by rw [e]))] at k; exact ⟨H,Gh.refl _,k⟩
 have O:=n3 I h
 refine lpEq (l:=l) (m:=m) o.bd fun i D J q hi G N=>?_
 rw [o.len]
 refine ift.of (fun h=>?_) (fun h=>?_)
 ·have j : i < l.length := by have := Vb h; omega
  have d:i < m.length:=by omega
  have g:=M.trans q
  refine jb (P:=¬ (l[i].n=m[i].n∧l[i].t=m[i].t)) D ?_ fun b r=>?_
  ·refine ⟨D, Heap.le.refl _, SlIs.fS o g Qa4 (by omega) rfl j (f := fun y => y.Name) (fun _ => rfl) fun y1 z => SlIs.fS x g Qa4 (by omega) rfl d (f := fun y => y.Name) (fun _ => rfl) fun Q B => ?_⟩
   have L:=nsq z.1 B.1
   refine ift.of (fun h=>⟨rfl,n1 L h⟩) fun h=>?_
   refine SlIs.fT o g Qa4 (by omega) rfl j (f:=fun y=>y.Type_) (fun y n v hn=>Qx4 n v hn) fun R E=>SlIs.fT x g Qa4 (by omega) rfl d (f:=fun y=>y.Type_) (fun y n v hn=>Qx4 n v hn) fun S F=>?_
   exact Qse _ E.2 F.2 g ⟨Heap.le.refl _,rfl,n2 L h nsm⟩
  rw [← FdV.eq_iff] at r
  refine ift.of (fun h=>?_) (fun h=>?_)
  ·rw [Qk2 (Qj7 j d (r.1 h))] at k; exact ⟨H,Gh.le q,k⟩
  ·exact N j _ q (Qg5 j d G (n3 r h))
 ·have u : i = l.length := by have := Vc h; omega
  rw [QmZ (Qfs u O G)] at k
  exact ⟨H,Gh.le q,k⟩
theorem Qoa {l m:List LiV} {s t:Sl} {K:Bool→HP} (o:LiL A s l) (u:LiL A t m) (Q:A.le H) (k:K (sm l m) H):QaX C s t K H:=by
 apply QaX.gh
 apply Qm7
 unfold Qir
 have N:=nlen o u
 refine ift.of (fun h=>?_) (fun h=>?_)
 ·rw [Qk2 (fun e=>N.1 h (by rw [e]))] at k; exact ⟨H,Gh.refl _,k⟩
 have S:=n3 N h
 refine lpEq (l:=l) (m:=m) o.bd fun i D J q hi M R=>?_
 rw [o.len]
 refine ift.of (fun h=>?_) (fun h=>?_)
 ·have j : i < l.length := by have := Vb h; omega
  have d:i < m.length:=by omega
  have g:=Q.trans q
  refine jb (P:=¬ ((l[i].k=m[i].k∧l[i].r=m[i].r)∧l[i].a=m[i].a)) D ?_ fun b x=>?_
  ·refine ⟨D, Heap.le.refl _, SlIs.fI o g Qbs (by omega) rfl j (f := fun y => y.Kind) (fun _ => rfl) fun y1 B => SlIs.fI u g Qbs (by omega) rfl d (f := fun y => y.Kind) (fun _ => rfl) fun T E => ?_⟩
   have O:=niq B.1 E.1
   refine ift.of (fun h=>⟨rfl,n1 (n1 O h) rfl⟩) fun h=>?_
   refine SlIs.fS o g Qbs (by omega) rfl j (f:=fun y=>y.Rel) (fun _=>rfl) fun U F=>SlIs.fS u g Qbs (by omega) rfl d (f:=fun y=>y.Rel) (fun _=>rfl) fun W G=>?_
   have j2:=n2 O h (nsq F.2.1 G.2.1)
   refine ift.of (fun h=>⟨rfl,n1 j2 h⟩) fun h=>?_
   refine SlIs.fL o g Qbs (by omega) rfl j (f:=fun y=>y.Args) (fun _=>rfl) fun X I=>SlIs.fL u g Qbs (by omega) rfl d (f:=fun y=>y.Args) (fun _=>rfl) fun Y L=>?_
   exact Qns I.2.2 L.2.2 g ⟨Heap.le.refl _,rfl,n2 j2 h nsm⟩
  rw [← LiV.eq_iff] at x
  refine ift.of (fun h=>?_) (fun h=>?_)
  ·rw [Qk2 (Qj7 j d (x.1 h))] at k; exact ⟨H,Gh.le q,k⟩
  ·exact R j _ q (Qg5 j d M (n3 x h))
 ·have z : i = l.length := by have := Vc h; omega
  rw [QmZ (Qfs z S M)] at k
  exact ⟨H,Gh.le q,k⟩
theorem Qsd {v w:RuV} {x y:Qi} {K:Bool→HP} (hx:RuIs A v x) (hy:RuIs A w y) (u:A.le H) (k:K (sm v w) H):Qbq C x y K H:=by
 apply Qbq.gh
 apply Qm9
 unfold Qit
 refine box2 fun B b3 o hle j m=>fS j rfl (fS m rfl ?_)
 have f:=u.trans hle
 refine jb (P:=v.r=w.r∧v.a=w.a) o ?_ fun D i=>?_
 ·have q:=sqN hx.1 hy.1
  exact ift.of (fun h=>fL j rfl (fL m rfl (Qns hx.2.1 hy.2.1 f ⟨rfl,yand q h sm_t⟩))) (fun h=>⟨rfl,nand q h⟩)
 refine jb (P:=(v.r=w.r∧v.a=w.a)∧v.g=w.g) o ?_ fun t d=>?_
 ·exact ift.of (fun h=>fL j rfl (fL m rfl (Qnt hx.2.2.1 hy.2.2.1 f ⟨rfl,yand i h sm_t⟩))) (fun h=>⟨rfl,nand i h⟩)
 refine jb (P:=v=w) o ?_ fun b z=>⟨H,Gh.le hle,by rw [Qx1 z]; exact k⟩
 rw [RuV.eq_iff]
 exact ift.of (fun h=>fL j rfl (fL m rfl (Qoa hx.2.2.2 hy.2.2.2 f ⟨rfl,yand d h sm_t⟩))) (fun h=>⟨rfl,nand d h⟩)
theorem QpJ {v w:TdV} {x y:Qd} {K:Bool→HP} (hx:TdIs A v x) (hy:TdIs A w y) (Y:A.le H) (k:K (sm v w) H):QaA C x y K H:=by
 apply QaA.gh
 apply QkU
 unfold Qgt
 refine box2 fun b1 b3 F hle t u=>fB t rfl (fB u rfl ?_)
 have z:=Y.trans hle
 refine jb (P:=¬ (v.p=w.p∧v.n=w.n)) F ?_ fun b9 B=>?_
 ·have T:=nbq hx.1 hy.1
  exact ift.of (fun h=>⟨rfl,n1 T h⟩) (fun h=>fS t rfl (fS u rfl ⟨rfl,n2 T h (nsq hx.2.1 hy.2.1)⟩))
 refine jb (P:=¬ ((v.p=w.p∧v.n=w.n)∧v.ps=w.ps)) F ?_ fun W q=>?_
 ·exact ift.of (fun h=>⟨rfl,n1 B h⟩) (fun h=>fL t rfl (fL u rfl (Qnt hx.2.2.1 hy.2.2.1 z ⟨rfl,n2 B h nsm⟩)))
 refine jb (P:=¬ (((v.p=w.p∧v.n=w.n)∧v.ps=w.ps)∧v.cs.length=w.cs.length)) F ?_ fun X r=>?_
 ·exact ift.of (fun h=>⟨rfl,n1 q h⟩) (fun h=>fL t rfl (fL u rfl ⟨rfl,n2 q h (nlen hx.2.2.2 hy.2.2.2)⟩))
 refine ift.of (fun h=>?_) (fun h=>?_)
 ·rw [Qk2 (fun e=>r.1 h (by subst e; exact ⟨⟨⟨rfl,rfl⟩,rfl⟩,rfl⟩))] at k; exact ⟨H,Gh.le hle,k⟩
 have R:=n3 r h
 have E:=hx.2.2.2
 have S:=hy.2.2.2
 refine lpEq (l:=v.cs) (m:=w.cs) E.bd fun i D J o hi Q Z=>?_
 refine fL (o _ _ t) rfl ?_
 rw [E.len]
 refine ift.of (fun h=>?_) (fun h=>?_)
 ·have j : i < v.cs.length := by have := Vb h; omega
  have d:i < w.cs.length:=by omega
  have g:=z.trans o
  refine jb (P:=¬ (v.cs[i].n=w.cs[i].n∧v.cs[i].f=w.cs[i].f)) D ?_ fun b G=>?_
  ·refine ⟨D, Heap.le.refl _, fL (o _ _ t) rfl (SlIs.fS E g Qb0 (by omega) rfl j (f := fun y => y.Name) (fun _ => rfl) fun y1 L => fL (o _ _ u) rfl (SlIs.fS S g Qb0 (by omega) rfl d (f := fun y => y.Name) (fun _ => rfl) fun y2 M => ?_))⟩
   have U:=nsq L.1 M.1
   refine ift.of (fun h=>⟨rfl,n1 U h⟩) fun h=>?_
   refine fL (o _ _ t) rfl (SlIs.fL E g Qb0 (by omega) rfl j (f:=fun y=>y.Fields) (fun _=>rfl) fun y3 N=>fL (o _ _ u) rfl (SlIs.fL S g Qb0 (by omega) rfl d (f:=fun y=>y.Fields) (fun _=>rfl) fun y4 O=>?_))
   exact Ql1 N.2 O.2 g ⟨Heap.le.refl _,rfl,n2 U h nsm⟩
  rw [← CnV.eq_iff] at G
  refine ift.of (fun h=>?_) (fun h=>?_)
  ·rw [Qk2 (fun e=>Qj7 j d (G.1 h) (by rw [e]))] at k; exact ⟨H,Gh.le (hle.trans o),k⟩
  ·exact Z j _ o (Qg5 j d Q (n3 G h))
 ·have I : i = v.cs.length := by have := Vc h; omega
  rw [QmZ (TdV.eq_iff.2 ⟨R.1,Qfs I R.2 Q⟩)] at k
  exact ⟨H,Gh.le (hle.trans o),k⟩
end
end
section
open Go Go.Proofs
theorem nw2 {D:Heap} {z j f i:List Value} {K:Nat→Nat→HP} (hx:f.length=z.length) (hy:i.length=j.length)
 (k:∀ b1 b2 E,D.le E→E b1=some (true,.row f)→E b2=some (true,.row i)→K b1 b2 E) :
 nw z (fun b1 H1=>D.le H1∧nw j (fun b2 H2=>D.le H2∧stT (b1,0) f (fun H3=>D.le H3∧stT (b2,0) i (fun H4=>K b1 b2 H4) H3) H2) H1) D:=by
 intro b1 n1
 have u:=Xc n1 (g:=.row z) (m:=true)
 refine ⟨u,?_⟩
 intro b2 n2
 have l2:=Xc n2 (g:=.row j) (m:=true)
 refine ⟨u.trans l2,?_⟩
 have ne:b1≠b2:=fun e=>by rw [← e,Xa] at n2; cases n2
 have y:D b1=none:=n1
 have A:D b2=none:=by rw [Xb _ _ _ ne.symm] at n2; exact n2
 have x:∀ (c d:List Value),d.length=c.length→splice c 0 d=d:=fun c d h=>by
  unfold splice
  rw [List.take_zero,List.nil_append,List.drop_of_length_le (by rw [h]; simp),List.append_nil]
 refine ⟨z,by rw [Xb _ _ _ ne,Xa],by rw [hx]; simp,?_⟩
 rw [show splice z (b1,0).2 f=f from x z f hx]
 have t:∀ (E:Heap),(∀ b,b≠b1→b≠b2→E b=D b)→D.le E:=fun E h b v o=>by
  rw [h b (fun e=>by subst e; rw [y] at o; cases o) (fun e=>by subst e; rw [A] at o; cases o)]; exact o
 refine ⟨t _ fun b q r=>by simp only [Xb _ _ _ q,Xb _ _ _ r],?_⟩
 refine ⟨j,by rw [Xb _ _ _ ne.symm,Xa],by rw [hy]; simp,?_⟩
 rw [show splice j (b2,0).2 i=i from x j i hy]
 refine k b1 b2 _ (t _ fun b q r=>by simp only [Xb _ _ _ q,Xb _ _ _ r]) ?_ ?_
 ·rw [Xb _ _ _ ne,Xa]
 ·rw [Xa]
theorem nw2' {D:Heap} {z j f i:List Value} {K:Nat→Nat→HP} (hx:f.length=j.length) (hy:i.length=z.length)
 (k:∀ b1 b2 E,D.le E→E b1=some (true,.row i)→E b2=some (true,.row f)→K b1 b2 E) :
 nw z (fun b1 H1=>D.le H1∧nw j (fun b2 H2=>D.le H2∧stT (b2,0) f (fun H3=>D.le H3∧stT (b1,0) i (fun H4=>K b1 b2 H4) H3) H2) H1) D:=by
 intro b1 n1
 have u:=Xc n1 (g:=.row z) (m:=true)
 refine ⟨u,?_⟩
 intro b2 n2
 have l2:=Xc n2 (g:=.row j) (m:=true)
 refine ⟨u.trans l2,?_⟩
 have ne:b1≠b2:=fun e=>by rw [← e,Xa] at n2; cases n2
 have y:D b1=none:=n1
 have A:D b2=none:=by rw [Xb _ _ _ ne.symm] at n2; exact n2
 have x:∀ (c d:List Value),d.length=c.length→splice c 0 d=d:=fun c d h=>by
  unfold splice
  rw [List.take_zero,List.nil_append,List.drop_of_length_le (by rw [h]; simp),List.append_nil]
 refine ⟨j,by rw [Xa],by rw [hx]; simp,?_⟩
 rw [show splice j (b2,0).2 f=f from x j f hx]
 have t:∀ (E:Heap),(∀ b,b≠b1→b≠b2→E b=D b)→D.le E:=fun E h b v o=>by
  rw [h b (fun e=>by subst e; rw [y] at o; cases o) (fun e=>by subst e; rw [A] at o; cases o)]; exact o
 refine ⟨t _ fun b q r=>by simp only [Xb _ _ _ q,Xb _ _ _ r],?_⟩
 refine ⟨z,by rw [Xb _ _ _ ne,Xb _ _ _ ne,Xa],by rw [hy]; simp,?_⟩
 rw [show splice z (b1,0).2 i=i from x z i hy]
 refine k b1 b2 _ (t _ fun b q r=>by simp only [Xb _ _ _ q,Xb _ _ _ r]) ?_ ?_
 ·rw [Xa]
 ·rw [Xb _ _ _ ne.symm,Xa]
section
variable {C:Ctx} {H A:Heap}
theorem Qvq {v w:MoV} {x y:Qa} {K:Bool→HP} (hx:MoIs A v x) (hy:MoIs A w y) (hA:A.le H) (k:K (sm v w) H):Qdb C x y K H:=by
 apply Qdb.gh
 apply Qqo
 unfold QmD
 refine box2 fun b1 b3 H4 hle u F=>fS u rfl (fS F rfl ?_)
 have z:=hA.trans hle
 obtain ⟨x1,x2,x3,x4,x5,x6⟩:=hx
 obtain ⟨y1,y2,y3,y4,y5,y6⟩:=hy
 refine jb (P:=¬ (v.n=w.n∧v.im.length=w.im.length)) H4 ?_ fun b9 T=>?_
 ·have i1:=nsq x1 y1
  exact ift.of (fun h=>⟨rfl,n1 i1 h⟩) (fun h=>fL u rfl (fL F rfl ⟨rfl,n2 i1 h (nlen x2 y2)⟩))
 refine jb (P:=¬ ((v.n=w.n∧v.im.length=w.im.length)∧v.ty.length=w.ty.length)) H4 ?_ fun d2 I=>?_
 ·exact ift.of (fun h=>⟨rfl,n1 T h⟩) (fun h=>fL u rfl (fL F rfl ⟨rfl,n2 T h (nlen x3 y3)⟩))
 refine jb (P:=¬ (((v.n=w.n∧v.im.length=w.im.length)∧v.ty.length=w.ty.length)∧v.re.length=w.re.length)) H4 ?_ fun d3 L=>?_
 ·exact ift.of (fun h=>⟨rfl,n1 I h⟩) (fun h=>fL u rfl (fL F rfl ⟨rfl,n2 I h (nlen x4 y4)⟩))
 refine jb (P:=¬ ((((v.n=w.n∧v.im.length=w.im.length)∧v.ty.length=w.ty.length)∧v.re.length=w.re.length)∧v.ru.length=w.ru.length)) H4 ?_ fun d4 M=>?_
 ·exact ift.of (fun h=>⟨rfl,n1 L h⟩) (fun h=>fL u rfl (fL F rfl ⟨rfl,n2 L h (nlen x5 y5)⟩))
 refine jb (P:=¬ (((((v.n=w.n∧v.im.length=w.im.length)∧v.ty.length=w.ty.length)∧v.re.length=w.re.length)∧v.ru.length=w.ru.length)∧v.ne.length=w.ne.length)) H4 ?_ fun d5 N=>?_
 ·exact ift.of (fun h=>⟨rfl,n1 M h⟩) (fun h=>fL u rfl (fL F rfl ⟨rfl,n2 M h (nlen x6 y6)⟩))
 refine ift.of (fun h=>?_) (fun h=>?_)
 ·rw [Qk2 (fun e=>N.1 h (by subst e; exact ⟨⟨⟨⟨⟨rfl,rfl⟩,rfl⟩,rfl⟩,rfl⟩,rfl⟩))] at k; exact ⟨H,Gh.le hle,k⟩
 obtain ⟨⟨⟨⟨⟨q1,q2⟩,q3⟩,q4⟩,q5⟩,q6⟩:=n3 N h
 clear T I L M N h
 have O:∀ E,H4.le E→¬ v=w→∃ H0,Gh C E H0∧K false H0:=fun E hE hn=>by rw [Qk2 hn] at k; exact ⟨H,Gh.le (hle.trans hE),k⟩
 refine lpEq (l:=v.im) (m:=w.im) x2.bd fun i D J o hi t B=>fL (o _ _ u) rfl ?_
 rw [x2.len]
 refine ift.of (fun h=>?_) (fun h=>?_)
 ·have g : i < v.im.length := by have := Vb h; omega
  have d:i < w.im.length:=by omega
  have j:=z.trans o
  refine fL (o _ _ u) rfl (SlIs.fS x2 j Qik (by omega) rfl g (f:=fun y=>y.Name) (fun _=>rfl) fun Q q=>fL (o _ _ F) rfl (SlIs.fS y2 j Qik (by omega) rfl d (f:=fun y=>y.Name) (fun _=>rfl) fun R r=>?_))
  have j1:=nsq q r
  exact ift.of (fun h=>O _ o fun e=>Qj7 g d (j1.1 h) (by rw [e])) (fun h=>B g _ o (Qg5 g d t (n3 j1 h)))
 have q2:v.im=w.im:=Qfs (by have:=Vc h; omega) q2 t
 clear h B t hi
 refine lpEq (l:=v.ty) (m:=w.ty) x3.bd fun i D2 J X hi t B=>?_
 have o:=o.trans X
 refine fL (o _ _ u) rfl ?_
 rw [x3.len]
 refine ift.of (fun h=>?_) (fun h=>?_)
 ·have g : i < v.ty.length := by have := Vb h; omega
  have d:i < w.ty.length:=by omega
  have j:=z.trans o
  refine ⟨D2,Heap.le.refl _,fL (o _ _ u) rfl (SlIs.ld x3 j Qdi (by omega) rfl g fun Q q=>fL (o _ _ F) rfl (SlIs.ld y3 j Qdi (by omega) rfl d fun R r=>?_))⟩
  refine QpJ q r j ⟨Heap.le.refl _,?_⟩
  exact ift.of (fun h=>O _ o fun e=>Qj7 g d (nsm.1 h) (by rw [e])) (fun h=>B g _ X (Qg5 g d t (n3 nsm h)))
 have q3:v.ty=w.ty:=Qfs (by have:=Vc h; omega) q3 t
 clear h B t hi
 refine lpEq (l:=v.re) (m:=w.re) x4.bd fun i D3 J Y hi t B=>?_
 have o:=o.trans Y
 refine fL (o _ _ u) rfl ?_
 rw [x4.len]
 refine ift.of (fun h=>?_) (fun h=>?_)
 ·have g : i < v.re.length := by have := Vb h; omega
  have d:i < w.re.length:=by omega
  have j:=z.trans o
  refine ⟨fun (p:(Nat×Nat)×(Nat×Nat)) E=>D3.le E∧∃ (a b:Nat) (Q R:Qh),p=((a,0),(b,0))∧E a=some (true,.row (Qh.c Q))∧E b=some (true,.row (Qh.c R))∧RdIs A v.re[i] Q∧RdIs A w.re[i] R,?_,?_⟩
  ·refine ⟨D3, Heap.le.refl _, fL (o _ _ u) rfl (SlIs.ld x4 j QdE (by omega) rfl g fun Q q => fL (o _ _ F) rfl (SlIs.ld y4 j QdE (by omega) rfl d fun R r => ⟨?_, ?_⟩))⟩
   ·exact nw2 rfl rfl fun a b E W S G=>⟨W,a,b,Q,R,rfl,S,G,q,r⟩
   ·refine nw2' rfl rfl fun a b E W S G=>⟨W,b,a,Q,R,rfl,G,S,q,r⟩
  rintro _ E ⟨W,a,b,Q,R,rfl,S,G,q,r⟩
  have Z:=Y.trans W
  have a2:=o.trans W
  refine fB S rfl (fB G rfl ?_)
  have i1:=nbq q.1 r.1
  refine jb (P:=¬ (v.re[i].p=w.re[i].p∧v.re[i].i=w.re[i].i)) E ?_ fun c1 a3=>?_
  ·exact ift.of (fun h=>⟨rfl,n1 i1 h⟩) (fun h=>fB S rfl (fB G rfl ⟨rfl,n2 i1 h (nbq q.2.1 r.2.1)⟩))
  refine jb (P:=¬ ((v.re[i].p=w.re[i].p∧v.re[i].i=w.re[i].i)∧v.re[i].n=w.re[i].n)) E ?_ fun c2 a4=>?_
  ·exact ift.of (fun h=>⟨rfl,n1 a3 h⟩) (fun h=>fS S rfl (fS G rfl ⟨rfl,n2 a3 h (nsq q.2.2.1 r.2.2.1)⟩))
  refine jb (P:=¬ (((v.re[i].p=w.re[i].p∧v.re[i].i=w.re[i].i)∧v.re[i].n=w.re[i].n)∧v.re[i].f=w.re[i].f)) E ?_ fun c3 U=>?_
  ·exact ift.of (fun h=>⟨rfl,n1 a4 h⟩) (fun h=>fL S rfl (fL G rfl (Ql1 q.2.2.2 r.2.2.2 (z.trans a2) ⟨rfl,n2 a4 h nsm⟩)))
  rw [← RdV.eq_iff] at U
  exact ift.of (fun h=>O _ a2 fun e=>Qj7 g d (U.1 h) (by rw [e])) (fun h=>B g _ Z (Qg5 g d t (n3 U h)))
 have q4:v.re=w.re:=Qfs (by have:=Vc h; omega) q4 t
 clear h B t hi
 refine lpEq (l:=v.ru) (m:=w.ru) x5.bd fun i D4 J a0 hi t B=>?_
 have o:=o.trans a0
 refine fL (o _ _ u) rfl ?_
 rw [x5.len]
 refine ift.of (fun h=>?_) (fun h=>?_)
 ·have g : i < v.ru.length := by have := Vb h; omega
  have d:i < w.ru.length:=by omega
  have j:=z.trans o
  refine ⟨D4,Heap.le.refl _,fL (o _ _ u) rfl (SlIs.ld x5 j QfT (by omega) rfl g fun Q q=>fL (o _ _ F) rfl (SlIs.ld y5 j QfT (by omega) rfl d fun R r=>?_))⟩
  refine Qsd q r j ⟨Heap.le.refl _,?_⟩
  exact ift.of (fun h=>O _ o fun e=>Qj7 g d (nsm.1 h) (by rw [e])) (fun h=>B g _ a0 (Qg5 g d t (n3 nsm h)))
 have q5:v.ru=w.ru:=Qfs (by have:=Vc h; omega) q5 t
 clear h B t hi
 refine lpEq (l:=v.ne) (m:=w.ne) x6.bd fun i D5 J a1 hi t B=>?_
 have o:=o.trans a1
 refine fL (o _ _ u) rfl ?_
 rw [x6.len]
 refine ift.of (fun h=>?_) (fun h=>?_)
 ·have g : i < v.ne.length := by have := Vb h; omega
  have d:i < w.ne.length:=by omega
  have j:=z.trans o
  refine jb (P:=¬ (v.ne[i].n=w.ne[i].n∧v.ne[i].b=w.ne[i].b)) D5 ?_ fun b G=>?_
  ·refine ⟨D5, Heap.le.refl _, fL (o _ _ u) rfl (SlIs.fS x6 j QcE (by omega) rfl g (f := fun y => y.Name) (fun _ => rfl) fun Q q => fL (o _ _ F) rfl (SlIs.fS y6 j QcE (by omega) rfl d (f := fun y => y.Name) (fun _ => rfl) fun R r => ?_))⟩
   have j1:=nsq q.1 r.1
   refine ift.of (fun h=>⟨rfl,n1 j1 h⟩) fun h=>?_
   refine fL (o _ _ u) rfl (SlIs.fL x6 j QcE (by omega) rfl g (f:=fun y=>y.Body) (fun _=>rfl) fun u3 b4=>fL (o _ _ F) rfl (SlIs.fL y6 j QcE (by omega) rfl d (f:=fun y=>y.Body) (fun _=>rfl) fun u4 b5=>?_))
   exact Qoa b4.2 b5.2 j ⟨Heap.le.refl _,rfl,n2 j1 h nsm⟩
  rw [← NeV.eq_iff] at G
  exact ift.of (fun h=>O _ o fun e=>Qj7 g d (G.1 h) (by rw [e])) (fun h=>B g _ a1 (Qg5 g d t (n3 G h)))
 have q6:v.ne=w.ne:=Qfs (by have:=Vc h; omega) q6 t
 rw [QmZ (MoV.eq_iff.2 ⟨⟨⟨⟨⟨q1,q2⟩,q3⟩,q4⟩,q5⟩,q6⟩)] at k
 exact ⟨H,Gh.le (hle.trans o),k⟩
end
end
section
open Go Go.Proofs
def V0:V:=.mk 0 0 [] []
theorem QxC {E:Heap}:VIs E V0 Qg.zero:=QgM.2 ⟨rfl,rfl,rfl,[],.inl rfl,rfl,trivial⟩
theorem V0_B:VB V0:=by simp [V0,VB,VBs]
theorem lpQ {Q:Int→Nat→Prop} {g:Int} {N:Nat} {H:Heap} {body:Int×Int→(Int×Int→HP)→HP} (o:N≤140737488355328) (h0:Q g 0)
 (b:∀ (n:Int) (i:Nat) (D:Heap) (J:Int×Int→HP),H.le D→i≤N→Q n i→(i < N→∀ n' D',H.le D'→Q n' (i+1)→J (n',w .i64 ((i:Int)+1)) D')→body (n,(i:Int)) J D):lp (α:=Int×Int) (g,0) H body:=by
 refine ⟨fun x D=>H.le D∧∃ i:Nat,x.2=(i:Int)∧i≤N∧Q x.1 i,fun x _=>N - x.2.toNat,⟨Heap.le.refl _,0,rfl,Nat.zero_le _,h0⟩,?_⟩
 rintro ⟨n,_⟩ D ⟨h,i,rfl,hi,j⟩
 refine b n i D _ h hi j fun m n' D' d f=>?_
 rw [Qu (by omega) (by omega)]
 exact ⟨⟨d,i+1,rfl,by omega,f⟩,by first | omega | (dsimp only; omega)⟩
end
section
open Go Go.Proofs
theorem QvN (v:V):sameV v V0=noV v:=by
 obtain ⟨k,n,s,l⟩:=v
 rw [Vn,Qr1]
 constructor
 ·intro h
  injection h with a b c d
  subst a; subst b; subst c; subst d; rfl
 ·intro h
  unfold noV at h
  simp only [Ve] at h
  obtain ⟨⟨⟨a,b⟩,c⟩,d⟩:=h
  have a':k=0:=Vb a
  have b':n=0:=Vb b
  have c':s=[]:=List.isEmpty_iff.1 c
  have d':l=[]:=List.length_eq_zero_iff.1 (Vb d)
  rw [a',b',c',d']; rfl
section
variable {C:Ctx} {H A:Heap}
theorem Qu1 {ws:List Str} {b n:Nat} {x:Str} {H2:Heap} {T F:HP} (hb:H2 b=some (true,.row (ws.map sv))) (hn:n=ws.length) (hn2:n≤100) (k1:ws.contains x=true→T H2) (k2:ws.contains x=false→F H2) :
 lp (α:=Int) 0 H2 (fun x3 J4 H5=>ift (decide ((x3:Int) < (Sl.len (Sl.of (some (b,0)) n n):Int))) (ixa (Sl.of (some (b,0)) n n) x3 fun p7=>ldS H5 (p7.1,p7.2+(x3:Int).toNat*1) fun x12=>ift (x12 == x) (T H5) (J4 (w .i64 (x3+1)) H5)) (F H5)):=by
 subst hn
 refine ⟨fun y D=>D=H2∧∃ i:Nat,y=(i:Int)∧i≤ws.length∧x ∉ ws.take i,fun y _=>ws.length - y.toNat,⟨rfl,0,rfl,Nat.zero_le _,by simp⟩,?_⟩
 rintro _ D ⟨rfl,i,rfl,hi,hno⟩
 refine ift.of (fun h=>?_) (fun h=>?_)
 ·have hlt : i < ws.length := by have := Vb h; simp only [Sl.of] at this; omega
  refine ⟨(b,0),rfl,rfl,by omega,by simp only [Sl.of]; omega,ws[i],?_,?_⟩
  ·show rd D (b,0+(i:Int).toNat*1)=_
   rw [Qaq hb,show 0+(i:Int).toNat*1=i by omega,List.getElem?_map,Vf hlt]; rfl
  refine ift.of (fun h=>?_) (fun h=>?_)
  ·have hx:ws[i]=x:=beq_iff_eq.1 h
   exact k1 (by rw [List.contains_iff_mem,← hx]; exact Vg hlt)
  ·have hx : ws[i] ≠ x := fun e => by rw [e] at h; simp at h
   rw [Qu (by omega) (by omega)]
   refine ⟨⟨rfl,i+1,by omega,by omega,?_⟩,by first | omega | (dsimp only; omega)⟩
   rw [Vp,Vf hlt,Vo,List.mem_append,List.mem_singleton]
   exact fun h=>h.elim hno fun e=>hx e.symm
 ·have hie : i = ws.length := by have := Vc h; simp only [Sl.of] at this; omega
  rw [hie,Vl] at hno
  refine k2 ?_
  cases hh:ws.contains x with
  | false=>rfl
  | true=>exact absurd (List.contains_iff_mem.1 hh) hno
theorem QrA {s:Str} {K:Bool→HP} (k:K (resW.contains s) H):Qbp C s K H:=by
 apply Qbp.gh
 apply Qm6
 unfold Qiq
 refine box1 fun b H2 hle d=>?_
 exact Qu1 (ws:=resW) (x:=s) (T:=fun D=>∃ H0,Gh C D H0∧K true H0) (F:=fun D=>∃ H0,Gh C D H0∧K false H0) d rfl (by decide) (fun h=>by rw [h] at k; exact ⟨H,Gh.le hle,k⟩) (fun h=>by rw [h] at k; exact ⟨H,Gh.le hle,k⟩)
theorem Qeg {s t:Str} {K:Bool→HP} (d:Nm t s) (k:K (namS s) H):Qat C t K H:=by
 obtain ⟨rfl,b⟩:=d
 apply Qqn
 unfold QmC
 exact Qfg b (ja (!resW.contains t) H (fun _=>QrA ⟨rfl,rfl⟩) k)
theorem Qn1 {s t:Str} {K:Bool→HP} (q:Nm t s) (k:K (longS s) H):Qeo C t K H:=by
 obtain ⟨rfl,o⟩:=q
 apply Qqm
 unfold QmB
 refine ⟨fun y D=>D=H∧∃ i:Nat,y=(i:Int)∧i≤t.length∧(46:UInt8) ∉ t.take i,fun y _=>t.length - y.toNat,⟨rfl,0,rfl,Nat.zero_le _,by simp⟩,?_⟩
 rintro _ D ⟨rfl,i,rfl,hi,b⟩
 unfold longS at k
 refine ift.of (fun h=>?_) (fun h=>?_)
 ·have d : i < t.length := by have := Vb h; omega
  refine ⟨t[i],by omega,getE d,?_⟩
  dsimp only
  rw [e46]
  have m:w .i64 ((i:Int)+1)=((i+1:Nat):Int):=by rw [Qu (by omega) (by omega)]; omega
  refine ift.of (fun h=>?_) (fun h=>?_)
  ·have g:t[i]=46:=Vb h
   have f:cutD t=some (t.take i,t.drop (i+1)):=by
    have:t=t.take i++46::t.drop (i+1):=by rw [← g,← List.drop_eq_getElem_cons d,List.take_append_drop]
    conv=>lhs; rw [this]
    exact Qj3 _ _ b
   rw [f] at k
   refine ⟨by omega,by omega,by omega,_,rfl,?_⟩
   rw [show (t.take ((i:Int)).toNat).drop (0:Int).toNat=t.take i by simp]
   refine Qeg ⟨rfl,by rw [List.length_take]; omega⟩ ?_
   rw [m]
   refine ja (namS (t.drop (i+1))) D (fun _=>⟨by omega,by omega,by omega,_,rfl,?_⟩) k
   rw [show (t.take ((t.length:Int)).toNat).drop (((i+1:Nat):Int)).toNat=t.drop (i+1) by simp]
   exact Qeg ⟨rfl,by rw [List.length_drop]; omega⟩ ⟨rfl,rfl⟩
  ·have g:¬ t[i]=46:=Vc h
   rw [m]
   refine ⟨⟨rfl,i+1,rfl,by omega,?_⟩,by first | omega | (dsimp only; omega)⟩
   rw [Vp,Vf d,Vo,List.mem_append,List.mem_singleton]
   exact fun h=>h.elim b fun e=>g e.symm
 ·have j : i = t.length := by have := Vc h; omega
  rw [j,Vl] at b
  rw [Qj4 _ b] at k
  exact Qeg ⟨rfl,o⟩ k
theorem Qnv {s t:Str} {K:Bool→HP} (i:Nm t s) (k:K (varS s) H):Qef C t K H:=by
 obtain ⟨rfl,m⟩:=i
 apply Qnb
 unfold Qiv
 refine jo' (decide ((t.headD 0).toNat < 65)) H (fun h=>ix0 (fun e=>by rw [e] at h; simp at h) ⟨rfl,by rw [Vm]; omega⟩) ?_
 refine jo' (decide (90 < (t.headD 0).toNat)) H (fun h=>ix0 (fun e=>by rw [e] at h; simp at h) ⟨rfl,by rw [Vm]; omega⟩) ?_
 refine ift.of (fun h=>?_) (fun h=>?_)
 ·have : varS t = false := by
   unfold varS upC
   simp only [Bool.or_eq_true,Vj,beq_iff_eq] at h
   rcases h with ((h | h) | h) | h
   ·rw [h]; rfl
   ·rw [show decide (t.length≤32)=false from decide_eq_false (by omega)]; simp
   ·rw [show decide (65≤(t.headD 0).toNat)=false from decide_eq_false (by omega)]; simp
   ·rw [show decide ((t.headD 0).toNat≤90)=false from decide_eq_false (by omega)]; simp
  rw [this] at k; exact k
 simp only [Bool.or_eq_false_iff,decide_eq_false_iff_not] at h
 obtain ⟨⟨⟨b,d⟩,f⟩,g⟩:=h
 cases t with
 | nil=>simp at b
 | cons c t=>
  simp only [List.headD_cons,Vd] at d f g
  refine ⟨by omega,by simp only [Vd]; omega,by simp,_,rfl,?_⟩
  rw [show (((c::t).take (((c::t).length:Int)).toNat).drop (1:Int).toNat)=t by simp]
  refine ⟨by simp [catOk]; omega,Qfg (by simp; omega) ?_⟩
  have e:nameS ([97]++t)=varS (c::t):=by
   have j:nameC c=true:=by
    unfold nameC
    rw [show decide (65≤c.toNat)=true from decide_eq_true (by omega),show decide (c.toNat≤90)=true from decide_eq_true (by omega)]; simp
   show (!false && decide (t.length+1≤32) && lowC 97 && (nameC 97 && t.all nameC))=(!false && decide (t.length+1≤32) && (decide (65≤c.toNat) && decide (c.toNat≤90)) && (nameC c && t.all nameC))
   rw [j,show lowC 97=true from by decide,show nameC 97=true from by decide,show decide (65≤c.toNat)=true from decide_eq_true (by omega),show decide (c.toNat≤90)=true from decide_eq_true (by omega)]
   rfl
  rw [e]; exact k
theorem Qrz {s t:Str} {K:Bool→HP} (b:Nm t s) (k:K (parS s) H):QgI C t K H:=by
 obtain ⟨rfl,g⟩:=b
 apply Qpp
 unfold Qlt
 refine ja (decide (t.headD 0=39)) H (fun h=>ix0 (fun e=>by rw [e] at h; simp at h) ⟨rfl,u8eq _ 39 (by omega)⟩) ?_
 refine ja (namS (t.drop 1)) H (fun h=>?_) ?_
 ·have f : 1 ≤ t.length := by simp only [Ve, Vj] at h; omega
  refine ⟨by omega,by omega,by omega,t.drop 1,by simp,Qeg ⟨rfl,by simp; omega⟩ ⟨rfl,rfl⟩⟩
 have e:((decide (((t.length:Nat):Int) > 1) && decide (t.headD 0=39)) && namS (t.drop 1))=parS t:=by
  cases t with
  | nil=>rfl
  | cons c t=>
   simp only [parS,List.drop_succ_cons,List.drop_zero,List.headD_cons,Vd]
   cases t with
   | nil=>rw [show namS []=false from by decide]; simp
   | cons d t=>rw [show decide ((((d::t).length+1:Nat):Int) > 1)=true from decide_eq_true (by simp only [Vd]; omega)]; simp; rfl
 rw [e]; exact k
theorem Qry {s:Str} {K:Bool→HP} (k:K (funB s) H):Qee C s K H:=by
 apply Qm5
 unfold Qip
 have e:((((s == ([110,101,103]:Str)) || (s == ([108,101,110]:Str))) || (s == ([98,105,103]:Str))) || (s == ([105,110,116]:Str)))=funB s:=by
  unfold funB negS lenS bigS intS
  rw [Vn]; simp only [Bool.or_eq_true,beq_iff_eq,Vj,or_assoc]
 rw [e]; exact k
theorem Qrw {s:Str} {K:Int→HP} (k:K (arS s:Nat) H):QbS C s K H:=by
 apply QbS.gh
 apply Qpm
 unfold Qlq
 unfold arS at k
 refine box1 fun b H2 hle j=>?_
 refine Qu1 (ws:=opsW) (x:=s) (T:=fun D=>∃ H0,Gh C D H0∧K 2 H0) (F:=fun D=>jn (α:=Bool) (fun b15 d=>ift b15 (∃ H0,Gh C d H0∧K 1 H0) (∃ H0,Gh C d H0∧K 0 H0)) (fun f=>ift (s == ([110,111,116]:Str)) (f true D) (Qee C s (fun i g=>f i g) D))) j rfl (by decide) (fun h=>?_) (fun h=>?_)
 ·rw [if_pos h] at k; exact ⟨H,Gh.le hle,k⟩
 ·rw [if_neg (by rw [h]; decide)] at k
  refine jo' (funB s) H2 (fun _=>Qry ⟨rfl,rfl⟩) ?_
  refine ift.of (fun h=>?_) (fun h=>?_)
  ·rw [if_pos (by simp only [Bool.or_eq_true,beq_iff_eq] at h; exact h)] at k; exact ⟨H,Gh.le hle,k⟩
  ·rw [if_neg (by simp only [Bool.or_eq_false_iff] at h; rintro (e | e); · rw [e] at h; exact absurd h.1 (by decide)
                  ·rw [h.2] at e; cases e)] at k; exact ⟨H,Gh.le hle,k⟩
theorem Qmd:∀ (v:TyV) {x:Qf} {H:Heap} {K:Int→HP},TyIs A v x→A.le H→tyD v≤4611686018427387904→K (tyD v:Nat) H→Qan C x K H:=by
 refine TyV.rec_ fun v t x H K hx m r k=>?_
 have hx':=Qb7.1 hx
 apply Qan.gh
 apply Ql4
 unfold Qhr
 rw [Qvc] at r k
 refine box1 fun u H2 hle j=>?_
 refine lpQ (N:=v.a.length) (Q:=fun n i=>n=((mxL tyD (v.a.take i):Nat):Int)) hx'.2.bd (by simp [mxL]) fun n i D J d hi q o=>fL (d _ _ j) rfl ?_
 subst q
 rw [hx'.2.len]
 refine ift.of (fun h=>?_) (fun h=>?_)
 ·have b : i < v.a.length := by have := Vb h; omega
  refine fL (d _ _ j) rfl (SlIs.ld hx'.2 ((m.trans hle).trans d) Qi2 (by omega) rfl b fun y hy=>?_)
  have:=QdI (f:=tyD) (Vg b)
  refine t _ (Vg b) hy ((m.trans hle).trans d) (by omega) ?_
  dsimp only
  rw [ifmax]
  exact o b _ _ d (by rw [QdF b])
 ·have g : i = v.a.length := by have := Vc h; dsimp only at this; omega
  subst g
  rw [Vl]
  dsimp only
  rw [Qu (by omega) (by omega)]
  exact ⟨H,Gh.le (hle.trans d),k⟩
theorem Qrx:∀ (v:ExV) {x:Qe} {H:Heap} {K:Int→HP},ExIs A v x→A.le H→exD v≤4611686018427387904→K (exD v:Nat) H→Qby C x K H:=by
 refine ExV.rec_ fun v u x H K hx o t k=>?_
 obtain ⟨_,_,_,_,j⟩:=Qdv.1 hx
 apply Qby.gh
 apply Qpo
 unfold Qls
 rw [Qul] at t k
 refine box1 fun z H2 hle m=>?_
 refine lpQ (N:=v.a.length) (Q:=fun n i=>n=((mxL exD (v.a.take i):Nat):Int)) j.bd (by simp [mxL]) fun n i D J d hi r q=>fL (d _ _ m) rfl ?_
 subst r
 rw [j.len]
 refine ift.of (fun h=>?_) (fun h=>?_)
 ·have b : i < v.a.length := by have := Vb h; omega
  refine fL (d _ _ m) rfl (SlIs.ld j ((o.trans hle).trans d) QbA (by omega) rfl b fun y hy=>?_)
  have:=QdI (f:=exD) (Vg b)
  refine u _ (Vg b) hy ((o.trans hle).trans d) (by omega) ?_
  dsimp only
  rw [ifmax]
  exact q b _ _ d (by rw [QdF b])
 ·have g : i = v.a.length := by have := Vc h; dsimp only at this; omega
  subst g
  rw [Vl]
  dsimp only
  rw [Qu (by omega) (by omega)]
  exact ⟨H,Gh.le (hle.trans d),k⟩
theorem Qvp {v:V} {x:TV} {K:Bool→HP} (hx:VIs H v x) (d:VB v) (k:K (noV v) H):Qdc C x K H:=by
 apply Qdc.gh
 apply Qqq
 unfold QmF
 refine box1 fun f H2 hle b=>bxT b (QtY (hx.le hle) (w:=V0) QxC d ?_)
 rw [QvN]; exact ⟨H,Gh.le hle,k⟩
end
end
section
open Go Go.Proofs
theorem QvO {s:Str} (h:parS s=true):longS s=false:=by
 cases s with
 | nil=>simp [parS] at h
 | cons c t=>
  simp only [parS,Ve,Vj] at h
  have d:=h.1
  subst d
  have hn:∀ u:Str,namS (39::u)=false:=fun u=>by
   unfold namS nameS
   rw [show lowC ((39::u:Str).headD 0)=false from (show lowC 39=false by decide)]; simp
  unfold longS
  cases hcd:cutD (39::t) with
  | none=>exact hn t
  | some p=>
   obtain ⟨a,b⟩:=p
   simp only [cutD] at hcd
   rw [if_neg (by decide)] at hcd
   cases ht:cutD t with
   | none=>rw [ht] at hcd; simp at hcd
   | some q=>rw [ht] at hcd; simp at hcd; obtain ⟨rfl,_⟩:=hcd; show (namS (39::q.1) && _)=false; rw [hn]; rfl
theorem lpA {α:Type} {f:α→Bool} {l:List α} {b0:Bool} {H:Heap} {body:Bool×Int→(Bool×Int→HP)→HP} (hb:l.length≤140737488355328)
 (step:∀ (ok:Bool) (i:Nat) (D:Heap) (J:Bool×Int→HP),H.le D→i≤l.length→((decide ((i:Int) < (l.length:Int)) && ok)=false→ok=(b0 && l.all f))→((decide ((i:Int) < (l.length:Int)) && ok)=true→∃ hlt:i < l.length,∀ D',H.le D'→J (f l[i],w .i64 ((i:Int)+1)) D')→body (ok,(i:Int)) J D):lp (α:=Bool×Int) (b0,0) H body:=by
 refine ⟨fun x D=>H.le D∧∃ i:Nat,x.2=(i:Int)∧i≤l.length∧x.1=(b0 && (l.take i).all f),fun x _=>l.length - x.2.toNat,⟨Heap.le.refl _,0,rfl,Nat.zero_le _,by simp⟩,?_⟩
 rintro ⟨ok,_⟩ D ⟨hD,i,rfl,hi,hok⟩
 dsimp only at hok
 refine step ok i D _ hD hi (fun h=>?_) (fun h=>?_)
 ·rw [Bool.and_eq_false_iff] at h
  rcases h with h | h
  ·have hie : i = l.length := by have := Vc h; omega
   rw [hie,Vl] at hok; exact hok
  ·rw [h] at hok ⊢
   cases b0 with
   | false=>rfl
   | true=>
    rw [Bool.true_and] at hok ⊢
    cases hh:l.all f with
    | false=>rfl
    | true=>
     have:(l.take i).all f=true:=List.all_eq_true.2 fun x hx=>List.all_eq_true.1 hh x (List.mem_of_mem_take hx)
     rw [this] at hok; cases hok
 ·rw [Ve] at h
  have hlt:i < l.length:=by have:=Vb h.1; omega
  refine ⟨hlt,fun D' hD'=>?_⟩
  rw [Qu (by omega) (by omega)]
  refine ⟨⟨hD',i+1,rfl,by omega,?_⟩,by first | omega | (dsimp only; omega)⟩
  have h2:=h.2
  rw [hok,Ve] at h2
  rw [allTake hlt,h2.1,h2.2]; rfl
theorem lpF {α:Type} {f:α→Bool} {l:List α} {H:Heap} {body:Int→(Int→HP)→HP} (hb:l.length≤140737488355328)
 (step:∀ (i:Nat) (D:Heap) (J:Int→HP),H.le D→i≤l.length→(i=l.length→l.all f=true)→(∀ hlt:i < l.length,(f l[i]=false→l.all f=false)∧(f l[i]=true→∀ D',H.le D'→J (w .i64 ((i:Int)+1)) D'))→body (i:Int) J D):lp (α:=Int) 0 H body:=by
 refine ⟨fun x D=>H.le D∧∃ i:Nat,x=(i:Int)∧i≤l.length∧(l.take i).all f=true,fun x _=>l.length - x.toNat,⟨Heap.le.refl _,0,rfl,Nat.zero_le _,rfl⟩,?_⟩
 rintro _ D ⟨hD,i,rfl,hi,hq⟩
 refine step i D _ hD hi (fun h=>by rw [h,Vl] at hq; exact hq) fun hlt=>⟨fun h=>allNo hlt h,fun h D' hD'=>?_⟩
 rw [Qu (by omega) (by omega)]
 exact ⟨⟨hD',i+1,by omega,by omega,by rw [allTake hlt,hq,h]; rfl⟩,by first | omega | (dsimp only; omega)⟩
section
variable {C:Ctx} {H A:Heap}
theorem dDepthAny:∀ (v:V) {x:TV} {H:Heap} {K:Int→HP},VIs H v x→VB v→(∀ r,K r H)→QaO C x K H:=by
 refine V.rec_ fun v t x H K q g k=>?_
 apply QaO.gh
 apply Qk5
 unfold QhV
 have j:=q.row
 have o:=j.len
 refine box1 fun u H2 hle f=>?_
 refine lpQ (N:=v.l.length) (Q:=fun _ _=>True) g.l trivial fun n i D J d hi _ m=>fL (d _ _ f) rfl ?_
 rw [o]
 refine ift.of (fun h=>?_) (fun h=>⟨H,Gh.le (hle.trans d),k _⟩)
 have b:i < v.l.length:=by have:=Vb h; omega
 refine fL (d _ _ f) rfl (j.ld (hle.trans d) rfl b fun y hy=>?_)
 exact t _ (Vg b) (hy.le (hle.trans d)) (g.at b) fun r=>m b _ _ d trivial
theorem litL {v:V} (d:1≤v.k∧v.k≤4) (h:formV v=true):v.l=[]:=by
 rcases (Qq8 h).2 with b | b | b | b | b | b
 ·exact b.2.2.2
 ·exact b.2.2
 ·exact b.2.2.2
 ·exact b.2.2
 ·exfalso; have:=b.1; omega
 ·exfalso; have:=b.1; omega
theorem dCheckV {v:V} {x:TV} {H:Heap} {K:Int→HP} (g:VIs H v x) (d:VB v) (j:1≤v.k∧v.k≤4) (k:∀ r,(r=0↔mayV v=true)→K r H):Qbx C x K H:=by
 by_cases b:v.l=[]
 ·have o : vsize v = 1 := by
   obtain ⟨k,n,s,l⟩:=v
   have b:l=[]:=b
   subst b; rfl
  exact QpG g d (by omega) (k _ (by unfold mayV; rw [Vj]))
 ·have f : formV v = false := by
   cases hh:formV v with
   | false=>rfl
   | true=>exact absurd (litL j hh) b
  have hm:¬ mayV v=true:=fun h=>by rw [((Qs9 v).1 h).2.1] at f; cases f
  apply Qbx.gh
  apply Qk4
  unfold QhU
  refine box1 fun m H2 hle i=>bxT i (dDepthAny v (g.le hle) d fun r=>?_)
  refine ift.of (fun h=>⟨H,Gh.le hle,k _ ⟨fun e=>by simp at e,fun e=>absurd e hm⟩⟩) (fun h=>?_)
  refine bxT i (Qmr (g.le hle) d ?_)
  rw [f]
  exact QaK rfl ⟨H,Gh.le hle,k _ ⟨fun e=>by simp at e,fun e=>absurd e hm⟩⟩
theorem Qvr:∀ (v:TyV) {x:Qf} {H:Heap} {K:Bool→HP},TyIs A v x→A.le H→K (tyOk v) H→Qcj C x K H:=by
 refine TyV.rec_ fun v I x H K hx E k=>?_
 obtain ⟨g,z⟩:=Qb7.1 hx
 have b:=z.len
 apply Qcj.gh
 apply Qqp
 unfold QmE
 rw [QsF] at k
 refine box1 fun L H2 hle d=>?_
 have q:=E.trans hle
 refine jv (tyN v.n v.a.length) H2 (fS d rfl ?_) ?_
 ·rw [g.1]
  refine jo' (v.n == intS) H2 (fun _=>fS d rfl ⟨rfl,by rw [g.1]; rfl⟩) ?_
  refine jo' (v.n == bigS) H2 (fun _=>fS d rfl ⟨rfl,by rw [g.1]; rfl⟩) ?_
  refine jo' (v.n == textS) H2 (fun _=>fS d rfl ⟨rfl,by rw [g.1]; rfl⟩) ?_
  refine jo' (parS v.n) H2 (fun _=>fS d rfl (Qrz g ⟨rfl,rfl⟩)) ?_
  have B:(((((v.n == ([98,111,111,108]:Str)) || (v.n == intS)) || (v.n == bigS)) || (v.n == textS))=true)↔(v.n=boolS∨v.n=intS∨v.n=bigS∨v.n=textS):=by
   simp only [Bool.or_eq_true,beq_iff_eq,or_assoc]; exact Iff.rfl
  refine ift.of (fun h=>fL d rfl ⟨rfl,?_⟩) (fun h=>fS d rfl ?_)
  ·rw [b,show (((v.a.length:Nat):Int) == 0)=decide (v.a.length=0) from lenI (m:=0)]
   rw [Bool.or_eq_true,B] at h
   unfold tyN
   by_cases r:v.n=boolS∨v.n=intS∨v.n=bigS∨v.n=textS
   ·rw [if_pos r]
   ·rw [if_neg r]
    have hp:=h.resolve_left r
    have G:v.n≠tupS:=fun e=>by rw [e] at hp; exact absurd hp (by decide)
    rw [if_neg G,hp,QvO hp]; simp
  ·have r : ¬ (v.n = boolS ∨ v.n = intS ∨ v.n = bigS ∨ v.n = textS) := fun e => by
    rw [B.2 e] at h; cases h
   have hp:parS v.n=false:=by rw [Bool.or_eq_false_iff] at h; exact h.2
   unfold tyN
   rw [if_neg r,g.1]
   refine ift.of (fun h=>?_) (fun h=>?_)
   ·rw [if_pos (show v.n=tupS from beq_iff_eq.1 h)]
    refine fL d rfl ?_
    rw [b,show (((v.a.length:Nat):Int) != 1)=decide (v.a.length≠1) from lenN (m:=1)]
    exact ja (decide (v.a.length≤16)) H2 (fun _=>fL d rfl ⟨rfl,by rw [b]; exact lenL (m:=16)⟩) ⟨rfl,rfl⟩
   ·rw [if_neg (fun e : v.n = tupS => by rw [e] at h; exact absurd h (by decide)), hp]
    refine fS d rfl (Qn1 g ?_)
    exact ja (decide (v.a.length≤8)) H2 (fun _=>fL d rfl ⟨rfl,by rw [b]; exact lenL (m:=8)⟩) ⟨rfl,by simp⟩
 refine lpA (f:=tyOk) (l:=v.a) z.bd fun ok i D J o hi t j=>fL (o _ _ d) rfl ?_
 rw [b]
 refine ift.of (fun h=>fL (o _ _ d) rfl ?_) (fun h=>?_)
 ·obtain ⟨u,F⟩:=j h
  refine SlIs.ld z (q.trans o) Qi2 (by omega) rfl u fun y hy=>?_
  exact I _ (Vg u) hy (q.trans o) (F _ o)
 ·dsimp only
  rw [t h]; exact ⟨H,Gh.le (hle.trans o),k⟩
theorem QqN:∀ (v:ExV) {p:Bool} {x:Qe} {H:Heap} {K:Bool→HP},ExIs A v x→A.le H→K (exOk p v) H→QbC C x p K H:=by
 refine ExV.rec_ fun v Z p x H K hx W k=>?_
 obtain ⟨S,d,O,T,Q⟩:=Qdv.1 hx
 have L:=Q.len
 apply QbC.gh
 apply Qql
 unfold QmA
 rw [QoD] at k
 refine box1 fun b1 H2 hle b=>fL b rfl ?_
 have F:=W.trans hle
 rw [L]
 have l0:(((v.a.length:Nat):Int) == 0)=decide (v.a.length=0):=lenI (m:=0)
 rw [l0]
 refine jw (if v.k=1 then litV v.v && decide (v.a.length=0) && v.n.isEmpty else exN p v.k v.n v.a.length) H2 (fI b rfl ?_) fun E N=>?_
 ·rw [S]
  have j:=Heap.le.refl H2
  refine ift.of (fun h=>?_) fun n1=>?_
  ·have u : v.k = 1 := by simpa using h
   rw [if_pos u]
   refine fT b Qvf ?_
   intro o R
   refine nwT rfl ?_
   have B:=Xc R (g:=.row (Qg.c x.Value_)) (m:=true)
   have q:(H2.put o (.row (Qg.c x.Value_))) o=some (true,.row (Qg.c x.Value_)):=Xa ..
   generalize H2.put o (.row (Qg.c x.Value_))=H3 at *
   refine fI q rfl ?_
   rw [(QgM.1 O).1]
   refine ja (decide (v.v.k≤4)) H3 (fun _=>fI q rfl ⟨rfl,by rw [(QgM.1 O).1]⟩) ?_
   refine ja (mayV v.v) H3 (fun h=>bxT q (dCheckV (O.le (F.trans B)) T ?_ fun r Y=>⟨rfl,?_⟩)) ?_
   ·rw [Ve] at h; exact ⟨Vb h.1,Vb h.2⟩
   ·rw [Vn,beq_iff_eq]; exact Y
   refine ja v.n.isEmpty H3 (fun _=>fS (B _ _ b) rfl ⟨rfl,by rw [d.1,QgX]⟩) ?_
   exact ⟨B,rfl⟩
  have n1:v.k≠1:=by simpa using n1
  rw [if_neg n1]
  refine ift.of (fun h=>?_) fun n2=>?_
  ·rw [show v.k = 2 by simpa using h, exN2]
   exact fS b rfl (Qnv d ⟨j,rfl⟩)
  refine ift.of (fun h=>?_) fun n3=>?_
  ·rw [show v.k = 3 by simpa using h, exN3]
   exact ja v.n.isEmpty H2 (fun h=>fS b rfl ⟨rfl,by rw [d.1,QgX]⟩) ⟨j,rfl⟩
  refine ift.of (fun h=>?_) fun n4=>?_
  ·rw [show v.k = 4 by simpa using h, exN4]
   refine fS b rfl ⟨j,?_⟩
   rw [d.1,QgX,show (((v.a.length:Nat):Int) != 1)=decide (v.a.length≠1) from lenN (m:=1),show decide (((v.a.length:Nat):Int)≤16)=decide (v.a.length≤16) from lenL (m:=16)]
  refine ift.of (fun h=>?_) fun n5=>?_
  ·rw [show v.k = 5 by simpa using h, exN5]
   refine fS b rfl (Qn1 d ⟨j,?_⟩)
   rw [show decide (((v.a.length:Nat):Int)≤8)=decide (v.a.length≤8) from lenL (m:=8)]
  refine ift.of (fun h=>?_) fun n6=>?_
  ·rw [show v.k = 6 by simpa using h, exN6]
   refine ja (decide (0 < arS v.n)) H2 (fun _=>fS b rfl ?_) ?_
   ·rw [d.1]; exact Qrw ⟨rfl,by rw [Vm]; omega⟩
   refine ja (decide (v.a.length=arS v.n)) H2 (fun _=>fS b rfl ?_) ⟨j,rfl⟩
   rw [d.1]; exact Qrw ⟨rfl,lenI⟩
  refine ift.of (fun h=>?_) fun n7=>?_
  ·rw [show v.k = 7 by simpa using h, exN7]
   refine ja (namS v.n) H2 (fun h=>fS b rfl (Qeg d ⟨rfl,rfl⟩)) ⟨j,?_⟩
   rw [show (((v.a.length:Nat):Int) == 1)=decide (v.a.length=1) from lenI (m:=1)]
  refine ift.of (fun h=>?_) fun n8=>?_
  ·rw [show v.k = 8 by simpa using h, exN8]
   refine ja v.n.isEmpty H2 (fun h=>fS b rfl ⟨rfl,by rw [d.1,QgX]⟩) ⟨j,?_⟩
   rw [show (((v.a.length:Nat):Int) == 3)=decide (v.a.length=3) from lenI (m:=3)]
  refine ⟨j,?_⟩
  unfold exN
  rw [if_neg (by simpa using n2),if_neg (by simpa using n3),if_neg (by simpa using n4),if_neg (by simpa using n5),if_neg (by simpa using n6),if_neg (by simpa using n7),if_neg (by simpa using n8)]
 have P:=N _ _ b
 have t:=F.trans N
 refine fI P rfl ?_
 rw [S]
 refine ja (!noV v.v) E (fun _=>fT P Qvf (Qvp (O.le t) T ⟨rfl,rfl⟩)) ?_
 refine ift.of (fun h=>?_) (fun h=>?_)
 ·rw [Ve] at h
  have u:¬ v.k=1:=by simpa using h.1
  have hn:noV v.v=false:=by simpa using h.2
  rw [if_neg u,hn] at k
  simp only [Bool.and_false,Bool.false_and] at k
  exact ⟨H,Gh.le (hle.trans N),k⟩
 refine lpA (f:=exOk p) (l:=v.a) Q.bd fun ok i D J G hi I z=>?_
 refine ift.of (fun h=>fL (G _ _ P) rfl ?_) (fun U=>?_)
 ·obtain ⟨M,X⟩:=z h
  refine SlIs.ld Q (t.trans G) QbA (by omega) rfl M fun y hy=>?_
  exact Z _ (Vg M) hy (t.trans G) (X _ G)
 ·dsimp only
  rw [I U]
  refine ⟨H,Gh.le ((hle.trans N).trans G),?_⟩
  by_cases u:v.k=1
  ·rw [if_pos u] at k ⊢
   cases hh:(litV v.v && decide (v.a.length=0) && v.n.isEmpty) with
   | false=>rw [hh] at k; exact k
   | true=>
    rw [hh] at k
    have h0:v.a=[]:=by
     simp only [Ve,Vj] at hh
     exact List.length_eq_zero_iff.1 hh.1.2
    rw [h0]; exact k
  ·rw [if_neg u] at k ⊢
   have hn:noV v.v=true:=by
    rw [show (v.k != 1)=true from by simpa using u,Bool.true_and] at h
    simpa using h
   rw [hn,Bool.and_true] at k; exact k
end
end
section
open Go Go.Proofs
section
variable {C:Ctx} {H A:Heap}
theorem nb {b c:Bool} (h:(!b || !c)=(!(b && c))):True:=trivial
theorem orN (b c:Bool):(!b || !c)=!(b && c):=by cases b <;> cases c <;> rfl
theorem QsT {l:List LiV} {s:Sl} {K:Bool→HP} (Y:LiL A s l) (hA:A.le H) (k:K (l.all liOk) H):Qci C s K H:=by
 apply Qci.gh
 apply Qqj
 unfold Qmy
 refine lpF (f:=liOk) (l:=l) Y.bd fun i D J I hi M B=>?_
 rw [Y.len]
 refine ift.of (fun h=>?_) (fun h=>?_)
 ·have N : i < l.length := by have := Vb h; omega
  obtain ⟨L,hJ⟩:=B N
  refine SlIs.ld Y (hA.trans I) Qbs (by omega) rfl N fun x hx=>?_
  obtain ⟨Q,R,j⟩:=hx
  intro b12 Z
  refine nwT rfl ?_
  have F:=Xc Z (g:=.row (Qm.c x)) (m:=true)
  have d:(D.put b12 (.row (Qm.c x))) b12=some (true,.row (Qm.c x)):=Xa ..
  generalize D.put b12 (.row (Qm.c x))=D2 at *
  have S:=(hA.trans I).trans F
  have o:=j.len
  generalize hv:l[i]=v at *
  have b0:Bool:=if v.k=1∨v.k=2 then longS v.r && decide (v.a.length≤8) else if v.k=3 then v.r.isEmpty && decide (v.a.length=1) else if v.k=4 then varS v.r && decide (v.a.length=1) else false
  refine jv (if v.k=1∨v.k=2 then longS v.r && decide (v.a.length≤8) else if v.k=3 then v.r.isEmpty && decide (v.a.length=1) else if v.k=4 then varS v.r && decide (v.a.length=1) else false) D2 (fI d rfl ?_) ?_
  ·rw [Q]
   refine jp (P:=v.k=1∨v.k=2) D2 (ift.of (fun h=>⟨rfl,fun _=>.inl (by simpa using h),fun _=>h⟩) (fun h=>⟨rfl,fun h=>.inr (by simpa using h),fun G=>?_⟩)) fun b hb=>?_
   ·rcases G with G | G
    ·rw [G] at h; cases h
    ·rw [G]; rfl
   refine ift.of (fun h=>?_) (fun h=>?_)
   ·rw [if_pos (hb.1 h)]
    exact fS d rfl (Qn1 R (ja (decide (v.a.length≤8)) D2 (fun _=>fL d rfl ⟨rfl,by rw [o]; exact lenL (m:=8)⟩) ⟨rfl,rfl⟩))
   rw [if_neg (fun p=>by rw [hb.2 p] at h; cases h)]
   refine ift.of (fun h=>?_) (fun h=>?_)
   ·rw [if_pos (by simpa using h)]
    refine fS d rfl (ja (decide (v.a.length=1)) D2 (fun _=>fL d rfl ⟨rfl,by rw [o]; exact lenI (m:=1)⟩) ⟨rfl,?_⟩)
    rw [R.1,QgX]
   rw [if_neg (by simpa using h)]
   refine ift.of (fun h=>?_) (fun h=>?_)
   ·rw [if_pos (by simpa using h)]
    exact fS d rfl (Qnv R (ja (decide (v.a.length=1)) D2 (fun _=>fL d rfl ⟨rfl,by rw [o]; exact lenI (m:=1)⟩) ⟨rfl,rfl⟩))
   rw [if_neg (by simpa using h)]
   exact ⟨rfl,rfl⟩
  refine lpA (f:=exOk (decide (v.k=1∨v.k=2))) (l:=v.a) j.bd fun ok i2 E J2 t a3 z q=>fL (t _ _ d) rfl ?_
  have u:=S.trans t
  rw [o]
  refine ift.of (fun h=>?_) (fun h=>?_)
  ·obtain ⟨O,T⟩:=q h
   refine jv (exOk (decide (v.k=1∨v.k=2)) v.a[i2]) E ⟨E,Heap.le.refl _,fL (t _ _ d) rfl (SlIs.ld j u QbA (by omega) rfl O fun y hy=>fI (t _ _ d) rfl ?_)⟩ (T _ t)
   rw [Q]
   refine ift.of (fun h=>?_) (fun h=>fI (t _ _ d) rfl ?_)
   ·have W : v.k = 1 := by simpa using h
    rw [show decide (v.k=1∨v.k=2)=true from decide_eq_true (.inl W)]
    exact QqN _ hy u ⟨Heap.le.refl _,rfl,rfl⟩
   ·have W : ¬ v.k = 1 := by simpa using h
    rw [Q]
    have e:(v.k == 2)=decide (v.k=1∨v.k=2):=by
     rw [Vn,beq_iff_eq,Vj]; exact ⟨.inr,fun h=>h.resolve_left W⟩
    rw [e]
    exact QqN _ hy u ⟨Heap.le.refl _,rfl,rfl⟩
  ·have X : ok = liOk v := by
    rw [z h]
    unfold liOk
    by_cases h12:v.k=1∨v.k=2
    ·rw [if_pos h12,if_pos h12,Qdh,show decide (v.k=1∨v.k=2)=true from decide_eq_true h12]
    ·rw [if_neg h12,if_neg h12,show decide (v.k=1∨v.k=2)=false from decide_eq_false h12]
     by_cases h3:v.k=3
     ·rw [if_pos h3,if_pos h3,Qdh]
     ·rw [if_neg h3,if_neg h3]
      by_cases h4:v.k=4
      ·rw [if_pos h4,if_pos h4,Qdh]
      ·rw [if_neg h4,if_neg h4]; rfl
   dsimp only
   rw [X]
   refine ift.of (fun h=>?_) (fun h=>?_)
   ·rw [L (by simpa using h)] at k
    exact ⟨H,Gh.le ((I.trans F).trans t),k⟩
   ·exact hJ (by simpa using h) _ ((I.trans F).trans t)
 ·have U : i = l.length := by have := Vc h; omega
  rw [M U] at k
  exact ⟨H,Gh.le I,k⟩
theorem QpP {l:List FdV} {s:Sl} {o:Bool} {K:Bool→HP} (u:FdL A s l) (E:A.le H) (k:K (fdsOk o l) H):QbD C s o K H:=by
 apply QbD.gh
 apply Qog
 unfold Qkw
 unfold fdsOk at k
 refine lpF (f:=fdOk o) (l:=l) u.bd fun i D J x hi r g=>?_
 rw [u.len]
 refine ift.of (fun h=>?_) (fun h=>?_)
 ·have d : i < l.length := by have := Vb h; omega
  obtain ⟨q,F⟩:=g d
  have b:=E.trans x
  refine SlIs.fS u b Qa4 (by omega) rfl d (f:=fun y=>y.Name) (fun _=>rfl) fun y1 B=>Qeg B.1 ?_
  refine ja (o || !l[i].n.isEmpty) D (fun _=>jo' (!l[i].n.isEmpty) D (fun _=>?_) ⟨rfl,rfl⟩) ?_
  ·exact SlIs.fS u b Qa4 (by omega) rfl d (f:=fun y=>y.Name) (fun _=>rfl) fun G j=>⟨rfl,by rw [j.1.1,QgX]⟩
  refine jo' (!tyOk l[i].t) D (fun _=>?_) ?_
  ·exact SlIs.fT u b Qa4 (by omega) rfl d (f:=fun y=>y.Type_) (fun y n v hn=>Qr4 n v hn) fun G j=>Qvr _ j.2 b ⟨rfl,rfl⟩
  have e:((!namS l[i].n && (o || !l[i].n.isEmpty)) || !tyOk l[i].t)=!fdOk o l[i]:=by
   unfold fdOk
   cases namS l[i].n <;> cases o <;> cases l[i].n.isEmpty <;> cases tyOk l[i].t <;> rfl
  rw [e]
  refine ift.of (fun h=>?_) (fun h=>F (by simpa using h) _ x)
  rw [q (by simpa using h),Bool.and_false] at k
  exact ⟨H,Gh.le x,k⟩
 ·have z : i = l.length := by have := Vc h; omega
  rw [r z,Bool.and_true] at k
  rw [show decide (((l.length:Nat):Int)≤8)=decide (l.length≤8) from lenL (m:=8)]
  exact ⟨H,Gh.le x,k⟩
theorem ltI {n m:Nat}:decide (((n:Nat):Int) < (m:Int))=decide (n < m):=by rw [Vm]; omega
theorem ndec (a b:Nat):decide (a < b)=!decide (b≤a):=by rw [Vn]; simp
theorem Quk {l:List TdV} {s:Sl} {K:Bool→HP} (hs:TdL A s l) (hA:A.le H) (k:K (l.all tdOk) H):Qcv C s K H:=by
 apply Qcv.gh
 apply Qpr
 unfold Qlv
 refine lpF (f:=tdOk) (l:=l) hs.bd fun i D J hD hi U P=>?_
 rw [hs.len]
 refine ift.of (fun h=>?_) (fun h=>?_)
 ·have Z : i < l.length := by have := Vb h; omega
  obtain ⟨T,Q⟩:=P Z
  refine SlIs.ld hs (hA.trans hD) Qdi (by omega) rfl Z fun x hx=>?_
  obtain ⟨_,en,O,q⟩:=hx
  intro b12 b0
  refine nwT rfl ?_
  have a1:=Xc b0 (g:=.row (Qd.c x)) (m:=true)
  have b:(D.put b12 (.row (Qd.c x))) b12=some (true,.row (Qd.c x)):=Xa ..
  generalize D.put b12 (.row (Qd.c x))=D2 at *
  have R:=(hA.trans hD).trans a1
  have S:=hD.trans a1
  generalize hv:l[i]=v at *
  have Y:=SlIs.len O
  have N:=q.len
  have d:tdOk v=false→∀ E,D2.le E→∃ H0,Gh C E H0∧K false H0:=fun h E o=>by
   rw [T h] at k; exact ⟨H,Gh.le (S.trans o),k⟩
  unfold tdOk at d Q
  refine fS b rfl (Qeg en ?_)
  refine jo' (!decide (v.ps.length≤8)) D2 (fun _=>fL b rfl ⟨rfl,by rw [Y,← ndec]; exact gtI (m:=8)⟩) ?_
  refine jo' (!decide (1≤v.cs.length)) D2 (fun _=>fL b rfl ⟨rfl,by rw [N,← ndec]; exact ltI (m:=1)⟩) ?_
  refine jo' (!decide (v.cs.length≤16)) D2 (fun _=>fL b rfl ⟨rfl,by rw [N,← ndec]; exact gtI (m:=16)⟩) ?_
  refine ift.of (fun h=>d ?_ _ (Heap.le.refl _)) (fun h=>?_)
  ·cases h1:namS v.n <;> cases h2:decide (v.ps.length≤8) <;> cases h3:decide (1≤v.cs.length) <;> cases h4:decide (v.cs.length≤16) <;> simp [h1,h2,h3,h4] at h ⊢
  have a0:namS v.n=true∧decide (v.ps.length≤8)=true∧decide (1≤v.cs.length)=true∧decide (v.cs.length≤16)=true:=by
   simp only [Bool.or_eq_false_iff,Bool.not_eq_false'] at h
   exact ⟨h.1.1.1,h.1.1.2,h.1.2,h.2⟩
  obtain ⟨p1,p2,p3,p4⟩:=a0
  rw [p1,p2,p3,p4] at d Q
  simp only [Bool.true_and,Bool.and_true] at d Q
  refine lpF (f:=parS) (l:=v.ps) (SlIs.bd O) fun i2 E J2 o b5 L r=>fL (o _ _ b) rfl ?_
  rw [Y]
  refine ift.of (fun h=>?_) (fun h=>?_)
  ·have u : i2 < v.ps.length := by have := Vb h; omega
   obtain ⟨G,a3⟩:=r u
   refine fL (o _ _ b) rfl (SlIs.at_ O (R.trans o) (z:=1) (fun _=>rfl) (by omega) rfl u fun p y hy hr=>⟨y,hr 0 _ rfl,Qrz hy ?_⟩)
   refine ift.of (fun h=>d (by rw [G (by simpa using h)]; rfl) _ o) (fun h=>a3 (by simpa using h) _ o)
  have W:i2=v.ps.length:=by have:=Vc h; omega
  rw [L W] at d Q
  simp only [Bool.true_and] at d Q
  refine lpF (f:=cnOk) (l:=v.cs) q.bd fun i3 E3 J3 F b6 M t=>fL ((o.trans F) _ _ b) rfl ?_
  have hE':=o.trans F
  have B:=R.trans hE'
  rw [N]
  refine ift.of (fun h=>?_) (fun h=>?_)
  ·have j : i3 < v.cs.length := by have := Vb h; omega
   obtain ⟨I,a4⟩:=t j
   refine fL (hE' _ _ b) rfl (SlIs.fS q B Qb0 (by omega) rfl j (f:=fun y=>y.Name) (fun _=>rfl) fun y1 a7=>Qeg a7.1 ?_)
   refine jo' (!fdsOk false v.cs[i3].f) E3 (fun _=>fL (hE' _ _ b) rfl (SlIs.fL q B Qb0 (by omega) rfl j (f:=fun y=>y.Fields) (fun _=>rfl) fun y2 a8=>QpP a8.2 B ⟨rfl,rfl⟩)) ?_
   rw [orN]
   exact ift.of (fun h=>d (I (by rw [Bool.not_eq_true'] at h; exact h)) _ hE') (fun h=>a4 (by rw [Bool.not_eq_false'] at h; exact h) _ F)
  have X:i3=v.cs.length:=by have:=Vc h; omega
  exact Q (M X) _ (S.trans hE')
 ·have a5 : i = l.length := by have := Vc h; omega
  rw [U a5] at k
  exact ⟨H,Gh.le hD,k⟩
theorem Quh {l:List RuV} {s:Sl} {K:Bool→HP} (Z:RuL A s l) (hA:A.le H) (k:K (l.all ruOk) H):Qcu C s K H:=by
 apply Qcu.gh
 apply Qpq
 unfold Qlu
 refine lpF (f:=ruOk) (l:=l) Z.bd fun i D J S hi O I=>?_
 rw [Z.len]
 refine ift.of (fun h=>?_) (fun h=>?_)
 ·have P : i < l.length := by have := Vb h; omega
  obtain ⟨N,T⟩:=I P
  refine SlIs.ld Z (hA.trans S) QfT (by omega) rfl P fun x hx=>?_
  obtain ⟨en,U,hg,hb⟩:=hx
  intro b12 a0
  refine nwT rfl ?_
  have R:=Xc a0 (g:=.row (Qi.c x)) (m:=true)
  have d:(D.put b12 (.row (Qi.c x))) b12=some (true,.row (Qi.c x)):=Xa ..
  generalize D.put b12 (.row (Qi.c x))=D2 at *
  have L:=(hA.trans S).trans R
  have M:=S.trans R
  generalize hv:l[i]=v at *
  have G:=U.len
  have Y:=SlIs.len hg
  have o:ruOk v=false→∀ E,D2.le E→∃ H0,Gh C E H0∧K false H0:=fun h E u=>by
   rw [N h] at k; exact ⟨H,Gh.le (M.trans u),k⟩
  unfold ruOk at o T
  refine fS d rfl (Qn1 en ?_)
  refine jo' (!decide (v.a.length≤8)) D2 (fun _=>fL d rfl ⟨rfl,by rw [G,← ndec]; exact gtI (m:=8)⟩) ?_
  refine jo' (!decide (v.g.length=v.a.length)) D2 (fun _=>fL d rfl (fL d rfl ⟨rfl,by rw [G,Y,lenN]; simp⟩)) ?_
  refine jo' (!v.b.all liOk) D2 (fun _=>fL d rfl (QsT hb L ⟨rfl,rfl⟩)) ?_
  refine ift.of (fun h=>o ?_ _ (Heap.le.refl _)) (fun h=>?_)
  ·cases h1:longS v.r <;> cases h2:decide (v.a.length≤8) <;> cases h3:decide (v.g.length=v.a.length) <;> cases h4:v.b.all liOk <;> simp [h1,h2,h3,h4] at h ⊢
  have Q:longS v.r=true∧decide (v.a.length≤8)=true∧decide (v.g.length=v.a.length)=true∧v.b.all liOk=true:=by
   simp only [Bool.or_eq_false_iff,Bool.not_eq_false'] at h
   exact ⟨h.1.1.1,h.1.1.2,h.1.2,h.2⟩
  obtain ⟨p1,p2,p3,p4⟩:=Q
  rw [p1,p2,p3,p4,Qdh] at o T
  simp only [Bool.true_and,Bool.and_true] at o T
  have W:v.g.length=v.a.length:=Vb p3
  -- both lists at once
  refine ⟨fun y E=>D2.le E∧∃ j:Nat,y=(j:Int)∧j≤v.a.length∧(v.a.take j).all (exOk false)=true∧(v.g.take j).all agOk=true,fun y _=>v.a.length - y.toNat,⟨Heap.le.refl _,0,rfl,Nat.zero_le _,rfl,rfl⟩,?_⟩
  rintro _ E ⟨u,j,rfl,a8,q1,q2⟩
  have a7:=U.bd
  have F:=L.trans u
  refine fL (u _ _ d) rfl ?_
  rw [G]
  refine ift.of (fun h=>fL (u _ _ d) rfl ?_) (fun h=>?_)
  ·have q : j < v.a.length := by have := Vb h; omega
   have t:j < v.g.length:=by omega
   refine SlIs.at_ hg F (z:=1) (fun _=>rfl) (by omega) rfl t fun p y hy hr=>⟨y,hr 0 _ rfl,fL (u _ _ d) rfl ?_⟩
   refine SlIs.ld U F QbA (by omega) rfl q fun z hz=>QqN _ hz F ?_
   rw [hy.1]
   have e:(((((!(v.g[j] == ([]:Str))) && (!(v.g[j] == ([99,111,117,110,116]:Str)))) && (!(v.g[j] == ([115,117,109]:Str)))) && (!(v.g[j] == ([109,105,110]:Str)))) && (!(v.g[j] == ([109,97,120]:Str))))=!agOk v.g[j]:=by
    unfold agOk countS sumS minS maxS
    generalize v.g[j]=w
    rw [Vn]
    simp only [Ve,Bool.not_eq_true',beq_eq_false_iff_ne,decide_eq_false_iff_not,not_or,and_assoc,ne_eq]
   rw [e,orN]
   refine ift.of (fun h=>o ?_ _ u) (fun h=>?_)
   ·rw [Bool.not_eq_true',Bool.and_eq_false_iff] at h
    rcases h with h | h
    ·rw [allNo q h]; rfl
    ·rw [allNo t h,Bool.and_false]
   ·rw [Bool.not_eq_false',Ve] at h
    rw [Qu (by omega) (by omega)]
    exact ⟨⟨u,j+1,by omega,by omega,by rw [allTake q,q1,h.1]; rfl,by rw [allTake t,q2,h.2]; rfl⟩,by first | omega | (dsimp only; omega)⟩
  ·have B : j = v.a.length := by have := Vc h; omega
   rw [B,Vl] at q1
   rw [B,← W,Vl] at q2
   exact T (by rw [q1,q2]; rfl) _ (M.trans u)
 ·have X : i = l.length := by have := Vc h; omega
  rw [O X] at k
  exact ⟨H,Gh.le S,k⟩
end
end
section
open Go Go.Proofs
section
variable {C:Ctx} {H A:Heap}
theorem Qnw {l:List LiV} {s:Sl} {K:Int→HP} (o:LiL A s l) (M:A.le H) (R:lisD l≤4611686018427387904) (k:K (lisD l:Nat) H):Qa0 C s K H:=by
 apply Qa0.gh
 apply Qnc
 unfold Qiw
 unfold lisD at R k
 refine lpQ (N:=l.length) (Q:=fun n i=>n=((mxL liD (l.take i):Nat):Int)) o.bd (by simp [mxL]) fun n i D J t hi P O=>?_
 subst P
 rw [o.len]
 refine ift.of (fun h=>?_) (fun h=>?_)
 ·have g : i < l.length := by have := Vb h; omega
  have L:=QdI (f:=liD) (Vg g)
  have r:=M.trans t
  have E:=(SlIs.mem o (Vg g))
  obtain ⟨Y,F⟩:=E
  refine lpQ (N:=l[i].a.length) (Q:=fun n2 q=>n2=((max (mxL liD (l.take i)) (mxL exD (l[i].a.take q)):Nat):Int)) F.2.2.bd (by simp [mxL]) fun n2 q D2 U j S x u=>?_
  subst x
  have b:=r.trans j
  refine SlIs.fL o b Qbs (by omega) rfl g (f:=fun y=>y.Args) (fun _=>rfl) fun y1 G=>?_
  rw [G.2.2.len]
  refine ift.of (fun h=>?_) (fun h=>?_)
  ·have d : q < l[i].a.length := by have := Vb h; omega
   refine SlIs.fL o b Qbs (by omega) rfl g (f:=fun y=>y.Args) (fun _=>rfl) fun Z I=>?_
   refine SlIs.ld I.2.2 b QbA (by omega) rfl d fun z T=>?_
   have W:=QdI (f:=exD) (Vg d)
   have X:liD l[i]=mxL exD l[i].a:=QlS _
   refine Qrx _ T b (by omega) ?_
   dsimp only
   rw [ifmax]
   refine u d _ _ j ?_
   rw [QdF d]; omega
  ·have m : q = l[i].a.length := by have := Vc h; dsimp only at this; omega
   subst m
   refine O g _ _ (t.trans j) ?_
   rw [Vl,QdF g,show liD l[i]=mxL exD l[i].a from QlS _]
 ·have B : i = l.length := by have := Vc h; dsimp only at this; omega
  subst B
  rw [Vl]
  exact ⟨H,Gh.le t,k⟩
theorem Qvo {v:MoV} {x:Qa} {K:Int→HP} (hx:MoIs A v x) (hA:A.le H) (hb:moD v≤4611686018427387904) (k:K (moD v:Nat) H):Qda C x K H:=by
 apply Qda.gh
 apply Qqk
 unfold Qmz
 unfold moD at hb k
 obtain ⟨x1,x2,x3,x4,x5,x6⟩:=hx
 refine box1 fun b1 H2 hle M=>?_
 have m:=hA.trans hle
 refine lpQ (N:=v.ty.length) (Q:=fun n i=>n=((mxL tdD (v.ty.take i):Nat):Int)) x3.bd (by simp [mxL]) fun n i D J u hi Y W=>fL (u _ _ M) rfl ?_
 subst Y
 rw [x3.len]
 refine ift.of (fun h=>?_) (fun h=>?_)
 ·have d : i < v.ty.length := by have := Vb h; omega
  obtain ⟨xx,T⟩:=SlIs.mem x3 (Vg d)
  have S:=QdI (f:=tdD) (Vg d)
  refine lpQ (N:=v.ty[i].cs.length) (Q:=fun n2 o=>n2=((max (mxL tdD (v.ty.take i)) (mxL (fun c:CnV=>fdsD c.f) (v.ty[i].cs.take o)):Nat):Int)) T.2.2.2.bd (by simp [mxL]) fun n2 o D2 J2 O a1 R P=>?_
  subst R
  have j:=u.trans O
  refine fL (j _ _ M) rfl (SlIs.fL x3 (m.trans j) Qdi (by omega) rfl d (f:=fun y=>y.Cons) (fun _=>rfl) fun y1 F=>?_)
  rw [F.2.2.2.len]
  refine ift.of (fun h=>?_) (fun h=>?_)
  ·have g : o < v.ty[i].cs.length := by have := Vb h; omega
   have b5:=QdI (f:=fun c:CnV=>fdsD c.f) (Vg g)
   have c1:tdD v.ty[i]=mxL (fun c:CnV=>fdsD c.f) v.ty[i].cs:=rfl
   refine fL (j _ _ M) rfl (SlIs.fL x3 (m.trans j) Qdi (by omega) rfl d (f:=fun y=>y.Cons) (fun _=>rfl) fun y2 U=>?_)
   refine SlIs.fL U.2.2.2 (m.trans j) Qb0 (by omega) rfl g (f:=fun y=>y.Fields) (fun _=>rfl) fun y3 Z=>?_
   have hF:=Z.2
   refine lpQ (N:=v.ty[i].cs[o].f.length) (Q:=fun n3 i3=>n3=((max (max (mxL tdD (v.ty.take i)) (mxL (fun c:CnV=>fdsD c.f) (v.ty[i].cs.take o))) (mxL (fun f:FdV=>tyD f.t) (v.ty[i].cs[o].f.take i3)):Nat):Int)) hF.bd (by simp [mxL]) fun n3 i3 D3 J3 q c2 a9 a8=>?_
   subst a9
   have hD3':=j.trans q
   rw [hF.len]
   refine ift.of (fun h=>?_) (fun h=>?_)
   ·have I : i3 < v.ty[i].cs[o].f.length := by have := Vb h; omega
    have X:=QdI (f:=fun f:FdV=>tyD f.t) (Vg I)
    have G:fdsD v.ty[i].cs[o].f=mxL (fun f:FdV=>tyD f.t) v.ty[i].cs[o].f:=rfl
    refine SlIs.fT hF (m.trans hD3') Qa4 (by omega) rfl I (f:=fun y=>y.Type_) (fun y n v hn=>Qr4 n v hn) fun z hz=>?_
    refine Qmd _ hz.2 (m.trans hD3') (by omega) ?_
    dsimp only
    rw [ifmax]
    refine a8 I _ _ q ?_
    rw [QdF I]; omega
   ·have a2 : i3 = v.ty[i].cs[o].f.length := by have := Vc h; dsimp only at this; omega
    subst a2
    refine P g _ _ (O.trans q) ?_
    rw [Vl,QdF g]
    have G:fdsD v.ty[i].cs[o].f=mxL (fun f:FdV=>tyD f.t) v.ty[i].cs[o].f:=rfl
    rw [G]; omega
  ·have B : o = v.ty[i].cs.length := by have := Vc h; dsimp only at this; omega
   subst B
   refine W d _ _ j ?_
   rw [Vl,QdF d]; rfl
 have E:i=v.ty.length:=by have:=Vc h; dsimp only at this; omega
 subst E
 rw [Vl]
 clear h W hi
 dsimp only
 refine lpQ (N:=v.re.length) (Q:=fun n i=>n=((max (mxL tdD v.ty) (mxL (fun r:RdV=>fdsD r.f) (v.re.take i)):Nat):Int)) x4.bd (by simp [mxL]) fun n i D2 J O hi Y W=>?_
 subst Y
 have u:=u.trans O
 refine fL (u _ _ M) rfl ?_
 rw [x4.len]
 refine ift.of (fun h=>?_) (fun h=>?_)
 ·have d : i < v.re.length := by have := Vb h; omega
  obtain ⟨xx,T⟩:=SlIs.mem x4 (Vg d)
  have S:=QdI (f:=fun r:RdV=>fdsD r.f) (Vg d)
  refine lpQ (N:=v.re[i].f.length) (Q:=fun n2 o=>n2=((max (max (mxL tdD v.ty) (mxL (fun r:RdV=>fdsD r.f) (v.re.take i))) (mxL (fun f:FdV=>tyD f.t) (v.re[i].f.take o)):Nat):Int)) T.2.2.2.bd (by simp [mxL]) fun n2 o D3 J2 q a1 R P=>?_
  subst R
  have j:=u.trans q
  refine fL (j _ _ M) rfl (SlIs.fL x4 (m.trans j) QdE (by omega) rfl d (f:=fun y=>y.Fields) (fun _=>rfl) fun y1 F=>?_)
  rw [F.2.2.2.len]
  have G:fdsD v.re[i].f=mxL (fun f:FdV=>tyD f.t) v.re[i].f:=rfl
  refine ift.of (fun h=>?_) (fun h=>?_)
  ·have g : o < v.re[i].f.length := by have := Vb h; omega
   have X:=QdI (f:=fun f:FdV=>tyD f.t) (Vg g)
   refine fL (j _ _ M) rfl (SlIs.fL x4 (m.trans j) QdE (by omega) rfl d (f:=fun y=>y.Fields) (fun _=>rfl) fun y2 U=>?_)
   refine SlIs.fT U.2.2.2 (m.trans j) Qa4 (by omega) rfl g (f:=fun y=>y.Type_) (fun y n v hn=>Qr4 n v hn) fun z hz=>?_
   refine Qmd _ hz.2 (m.trans j) (by omega) ?_
   dsimp only
   rw [ifmax]
   refine P g _ _ q ?_
   rw [QdF g]; omega
  ·have B : o = v.re[i].f.length := by have := Vc h; dsimp only at this; omega
   subst B
   refine W d _ _ (O.trans q) ?_
   rw [Vl,QdF d,G]; omega
 have E:i=v.re.length:=by have:=Vc h; dsimp only at this; omega
 subst E
 rw [Vl]
 clear h W hi
 dsimp only
 refine lpQ (N:=v.ru.length) (Q:=fun n i=>n=((max (max (mxL tdD v.ty) (mxL (fun r:RdV=>fdsD r.f) v.re)) (mxL ruD (v.ru.take i)):Nat):Int)) x5.bd (by simp [mxL]) fun n i D3 J q hi Y W=>?_
 subst Y
 have u:=u.trans q
 refine fL (u _ _ M) rfl ?_
 rw [x5.len]
 refine ift.of (fun h=>?_) (fun h=>?_)
 ·have d : i < v.ru.length := by have := Vb h; omega
  obtain ⟨xx,T⟩:=SlIs.mem x5 (Vg d)
  have S:=QdI (f:=ruD) (Vg d)
  have b0:ruD v.ru[i]=max (mxL exD v.ru[i].a) (lisD v.ru[i].b):=by unfold ruD; rw [QlS]
  refine fL (u _ _ M) rfl (SlIs.fL x5 (m.trans u) QfT (by omega) rfl d (f:=fun y=>y.Body) (fun _=>rfl) fun y1 F=>?_)
  refine Qnw F.2.2.2 (m.trans u) (by omega) ?_
  dsimp only
  rw [ifmax]
  refine lpQ (N:=v.ru[i].a.length) (Q:=fun n2 o=>n2=((max (max (max (max (mxL tdD v.ty) (mxL (fun r:RdV=>fdsD r.f) v.re)) (mxL ruD (v.ru.take i))) (lisD v.ru[i].b)) (mxL exD (v.ru[i].a.take o)):Nat):Int)) T.2.1.bd (by simp [mxL]) fun n2 o D4 J2 L a1 R P=>?_
  subst R
  have j:=u.trans L
  refine fL (j _ _ M) rfl (SlIs.fL x5 (m.trans j) QfT (by omega) rfl d (f:=fun y=>y.Args) (fun _=>rfl) fun y2 U=>?_)
  rw [U.2.1.len]
  refine ift.of (fun h=>?_) (fun h=>?_)
  ·have g : o < v.ru[i].a.length := by have := Vb h; omega
   have X:=QdI (f:=exD) (Vg g)
   refine fL (j _ _ M) rfl (SlIs.fL x5 (m.trans j) QfT (by omega) rfl d (f:=fun y=>y.Args) (fun _=>rfl) fun y3 Z=>?_)
   refine SlIs.ld Z.2.1 (m.trans j) QbA (by omega) rfl g fun z hz=>?_
   refine Qrx _ hz (m.trans j) (by omega) ?_
   dsimp only
   rw [ifmax]
   refine P g _ _ L ?_
   rw [QdF g]; omega
  ·have B : o = v.ru[i].a.length := by have := Vc h; dsimp only at this; omega
   subst B
   refine W d _ _ (q.trans L) ?_
   rw [Vl,QdF d,b0]; omega
 have E:i=v.ru.length:=by have:=Vc h; dsimp only at this; omega
 subst E
 rw [Vl]
 clear h W hi
 dsimp only
 refine lpQ (N:=v.ne.length) (Q:=fun n i=>n=((max (max (max (mxL tdD v.ty) (mxL (fun r:RdV=>fdsD r.f) v.re)) (mxL ruD v.ru)) (mxL (fun n:NeV=>lisD n.b) (v.ne.take i)):Nat):Int)) x6.bd (by simp [mxL]) fun n i D4 J L hi Y W=>?_
 subst Y
 have u:=u.trans L
 refine fL (u _ _ M) rfl ?_
 rw [x6.len]
 refine ift.of (fun h=>?_) (fun h=>?_)
 ·have d : i < v.ne.length := by have := Vb h; omega
  have S:=QdI (f:=fun n:NeV=>lisD n.b) (Vg d)
  refine fL (u _ _ M) rfl (SlIs.fL x6 (m.trans u) QcE (by omega) rfl d (f:=fun y=>y.Body) (fun _=>rfl) fun y1 F=>?_)
  refine Qnw F.2 (m.trans u) (by omega) ?_
  dsimp only
  rw [ifmax]
  refine W d _ _ L ?_
  rw [QdF d]; omega
 have E:i=v.ne.length:=by have:=Vc h; dsimp only at this; omega
 subst E
 rw [Vl]
 refine ⟨H,Gh.le (hle.trans u),?_⟩
 rw [show max (max (max (mxL tdD v.ty) (mxL (fun r:RdV=>fdsD r.f) v.re)) (mxL ruD v.ru)) (mxL (fun n:NeV=>lisD n.b) v.ne)=max (max (mxL tdD v.ty) (mxL (fun r:RdV=>fdsD r.f) v.re)) (max (mxL ruD v.ru) (mxL (fun n:NeV=>lisD n.b) v.ne)) by omega]
 exact k
end
end
section
open Go Go.Proofs
section
variable {C:Ctx} {H A:Heap}
theorem Quc {v:MoV} {x:Qa} {K:Int→HP} (hx:MoIs A v x) (hA:A.le H) (hb:moD v≤4611686018427387904) (k:K (moC v) H):Qct C x K H:=by
 apply Qct.gh
 apply Qpn
 unfold Qlr
 refine box1 fun b1 H2 hle o=>bxT o ?_
 have u:=hA.trans hle
 refine Qvo hx u hb ?_
 obtain ⟨en,Q,a5,J,L,z⟩:=hx
 unfold moC at k
 refine ift.of (fun h=>?_) (fun h=>?_)
 ·rw [if_pos (by have:=Vb h; omega)] at k; exact ⟨H,Gh.le hle,k⟩
 rw [if_neg (by have:=Vc h; omega)] at k
 refine fS o rfl (Qeg en ?_)
 refine ja (v.ty.all tdOk) H2 (fun _=>fL o rfl (Quk a5 u ⟨rfl,rfl⟩)) ?_
 refine ja (v.ru.all ruOk) H2 (fun _=>fL o rfl (Quh L u ⟨rfl,rfl⟩)) ?_
 refine lpA (f:=namS) (l:=v.im) Q.bd fun c7 i1 D1 J1 F b9 G B=>fL (F _ _ o) rfl ?_
 rw [Q.len]
 refine ift.of (fun h=>?_) (fun h=>?_)
 ·obtain ⟨d,hJ⟩:=B h
  refine fL (F _ _ o) rfl (SlIs.fS Q (u.trans F) Qik (by omega) rfl d (f:=fun y=>y.Name) (fun _=>rfl) fun y1 M=>Qeg M (hJ _ F))
 have o1:=G h
 clear h G B
 dsimp only
 refine lpA (f:=rdOk) (l:=v.re) J.bd fun W i2 D2 J2 T c0 I D=>fL ((F.trans T) _ _ o) rfl ?_
 have O:=F.trans T
 have S:=u.trans O
 rw [J.len]
 refine ift.of (fun h=>?_) (fun h=>?_)
 ·obtain ⟨d,hJ⟩:=D h
  refine fL (O _ _ o) rfl (SlIs.fS J S QdE (by omega) rfl d (f:=fun y=>y.Name) (fun _=>rfl) fun y1 M=>Qeg M.2.2.1 ?_)
  exact ja (fdsOk true v.re[i2].f) D2 (fun _=>fL (O _ _ o) rfl (SlIs.fL J S QdE (by omega) rfl d (f:=fun y=>y.Fields) (fun _=>rfl) fun y2 t=>QpP t.2.2.2 S ⟨rfl,rfl⟩)) (hJ _ T)
 have o2:=I h
 clear h I D
 dsimp only
 refine fL (O _ _ o) rfl ?_
 rw [Q.len,show decide (((v.im.length:Nat):Int) > 8)=decide (8 < v.im.length) from gtI (m:=8)]
 refine jo' (decide (64 < v.ty.length)) D2 (fun _=>fL (O _ _ o) rfl ⟨rfl,by rw [a5.len]; exact gtI (m:=64)⟩) ?_
 refine jo' (decide (64 < v.re.length)) D2 (fun _=>fL (O _ _ o) rfl ⟨rfl,by rw [J.len]; exact gtI (m:=64)⟩) ?_
 refine jo' (decide (256 < v.ru.length)) D2 (fun _=>fL (O _ _ o) rfl ⟨rfl,by rw [L.len]; exact gtI (m:=256)⟩) ?_
 refine jo' (decide (256 < v.ne.length)) D2 (fun _=>fL (O _ _ o) rfl ⟨rfl,by rw [z.len]; exact gtI (m:=256)⟩) ?_
 generalize a9:(((((decide (8 < v.im.length)) || decide (64 < v.ty.length)) || decide (64 < v.re.length)) || decide (256 < v.ru.length)) || decide (256 < v.ne.length))=f0
 refine ⟨fun y E=>D2.le E∧∃ i:Nat,y.2.2=(i:Int)∧i≤v.ne.length∧y.1=(W && (v.ne.take i).all neOk)∧y.2.1=(f0 || !(v.ne.take i).all (fun n=>decide (n.b.length≤12))),fun y _=>v.ne.length - y.2.2.toNat,⟨Heap.le.refl _,0,rfl,Nat.zero_le _,by simp,by simp⟩,?_⟩
 rintro ⟨X,fu,_⟩ D3 ⟨a1,N,rfl,c1,j,P⟩
 dsimp only at j P ⊢
 have hD':=O.trans a1
 have hAD':=u.trans hD'
 have b8:=z.bd
 refine fL (hD' _ _ o) rfl ?_
 rw [z.len]
 refine ift.of (fun h=>?_) (fun h=>?_)
 ·rw [Ve] at h
  have d:N < v.ne.length:=by have:=Vb h.1; omega
  refine fL (hD' _ _ o) rfl (SlIs.fS z hAD' QcE (by omega) rfl d (f:=fun y=>y.Name) (fun _=>rfl) fun y1 M=>Qeg M.1 ?_)
  refine ja (decide (0 < v.ne[N].b.length)) D3 (fun _=>fL (hD' _ _ o) rfl (SlIs.fL z hAD' QcE (by omega) rfl d (f:=fun y=>y.Body) (fun _=>rfl) fun y2 t=>⟨rfl,by rw [t.2.len]; exact gtI (m:=0)⟩)) ?_
  refine ja (v.ne[N].b.all liOk) D3 (fun _=>fL (hD' _ _ o) rfl (SlIs.fL z hAD' QcE (by omega) rfl d (f:=fun y=>y.Body) (fun _=>rfl) fun y2 t=>QsT t.2 hAD' ⟨rfl,rfl⟩)) ?_
  refine jo' (decide (12 < v.ne[N].b.length)) D3 (fun _=>fL (hD' _ _ o) rfl (SlIs.fL z hAD' QcE (by omega) rfl d (f:=fun y=>y.Body) (fun _=>rfl) fun y2 t=>⟨rfl,by rw [t.2.len]; exact gtI (m:=12)⟩)) ?_
  rw [Qu (by omega) (by omega)]
  refine ⟨⟨a1,N+1,by first | omega | (dsimp only; omega),by omega,?_,?_⟩,by first | omega | (dsimp only; omega)⟩
  ·have R:=h.2
   rw [j,Ve] at R
   rw [allTake d,R.1,R.2]; rfl
  ·rw [P,allTake d,ndec]
   generalize (v.ne.take N).all _=q
   cases f0 <;> cases q <;> cases decide (v.ne[N].b.length≤12) <;> rfl
 have o3:X=(W && v.ne.all neOk):=by
  rw [Bool.and_eq_false_iff] at h
  rcases h with h | h
  ·have U : N = v.ne.length := by have := Vc h; omega
   rw [U,Vl] at j; exact j
  ·rw [h] at j ⊢
   cases W with
   | false=>rfl
   | true=>
    rw [Bool.true_and] at j ⊢
    cases hh:v.ne.all neOk with
    | false=>rfl
    | true=>
     have:(v.ne.take N).all neOk=true:=List.all_eq_true.2 fun x hx=>List.all_eq_true.1 hh x (List.mem_of_mem_take hx)
     rw [this] at j; cases j
 have Z:X=moOk v:=by
  rw [o3,o2,o1]
  unfold moOk
  cases namS v.n <;> cases v.ty.all tdOk <;> cases v.ru.all ruOk <;> cases v.im.all namS <;> cases v.re.all rdOk <;> cases v.ne.all neOk <;> rfl
 refine ift.of (fun R=>?_) (fun R=>?_)
 ·have hm : moOk v = false := by rw [← Z]; simpa using R
  rw [if_pos hm] at k; exact ⟨H,Gh.le (hle.trans hD'),k⟩
 have ht:X=true:=by simpa using R
 have hm:moOk v=true:=by rw [← Z]; exact ht
 rw [if_neg (by rw [hm]; decide)] at k
 have a3:fu=(f0 || !v.ne.all (fun n=>decide (n.b.length≤12))):=by
  rw [ht,Bool.and_true] at h
  have U:N=v.ne.length:=by have:=Vc h; omega
  rw [U,Vl] at P; exact P
 refine ⟨fun y E=>D3.le E∧∃ i:Nat,y.2=(i:Int)∧i≤v.ru.length∧y.1=(fu || !(v.ru.take i).all (fun r=>decide (r.b.length≤12))),fun y _=>v.ru.length - y.2.toNat,⟨Heap.le.refl _,0,rfl,Nat.zero_le _,by simp⟩,?_⟩
 rintro ⟨g,_⟩ D4 ⟨a2,Y,rfl,c2,hg⟩
 dsimp only at hg ⊢
 have hD4':=hD'.trans a2
 have a0:=u.trans hD4'
 have b0:=L.bd
 refine fL (hD4' _ _ o) rfl ?_
 rw [L.len]
 refine ift.of (fun h=>?_) (fun h=>?_)
 ·have d : Y < v.ru.length := by have := Vb h; omega
  refine jo' (decide (12 < v.ru[Y].b.length)) D4 (fun _=>fL (hD4' _ _ o) rfl (SlIs.fL L a0 QfT (by omega) rfl d (f:=fun y=>y.Body) (fun _=>rfl) fun y2 t=>⟨rfl,by rw [t.2.2.2.len]; exact gtI (m:=12)⟩)) ?_
  rw [Qu (by omega) (by omega)]
  refine ⟨⟨a2,Y+1,by first | omega | (dsimp only; omega),by omega,?_⟩,by first | omega | (dsimp only; omega)⟩
  rw [hg,allTake d,ndec]
  generalize (v.ru.take Y).all _=q
  cases fu <;> cases q <;> cases decide (v.ru[Y].b.length≤12) <;> rfl
 have a4:Y=v.ru.length:=by have:=Vc h; omega
 rw [a4,Vl] at hg
 have eg:g=!moFew v:=by
  rw [hg,a3,← a9]
  unfold moFew
  simp only [ndec]
  cases decide (v.im.length≤8) <;> cases decide (v.ty.length≤64) <;> cases decide (v.re.length≤64) <;> cases decide (v.ru.length≤256) <;> cases decide (v.ne.length≤256) <;> cases v.ne.all (fun n=>decide (n.b.length≤12)) <;> cases v.ru.all (fun r=>decide (r.b.length≤12)) <;> rfl
 rw [eg]
 refine ift.of (fun h=>?_) (fun h=>?_)
 ·rw [if_pos (by simpa using h)] at k; exact ⟨H,Gh.le (hle.trans hD4'),k⟩
 ·rw [if_neg (by simpa using h)] at k; exact ⟨H,Gh.le (hle.trans hD4'),k⟩
end
end
section
open Go
abbrev Pl:=Int×Int
inductive ExP where
 | mk (p:Pl) (k:Int) (n:Str) (v:V) (a:List ExP)
structure LiP where
 p:Pl
 k:Int
 r:Str
 a:List ExP
structure TdP where
 p:Pl
 b:Bool
 n:Str
 ps:List Str
 cs:List CnV
structure RdP where
 p:Pl
 b:Bool
 i:Bool
 n:Str
 f:List FdV
structure RuP where
 p:Pl
 r:Str
 a:List ExP
 g:List Str
 b:List LiP
structure NeP where
 p:Pl
 n:Str
 b:List LiP
structure ImP where
 p:Pl
 n:Str
structure MoP where
 n:Str
 im:List ImP
 ty:List TdP
 re:List RdP
 ru:List RuP
 ne:List NeP
def ExP.p:ExP→Pl | .mk p _ _ _ _=>p
def ExP.k:ExP→Int | .mk _ k _ _ _=>k
def ExP.n:ExP→Str | .mk _ _ n _ _=>n
def ExP.v:ExP→V | .mk _ _ _ v _=>v
def ExP.a:ExP→List ExP | .mk _ _ _ _ a=>a
theorem ExP.rec_ {P:ExP→Prop} (h:∀ v,(∀ w ∈ v.a,P w)→P v):∀ v,P v
 | .mk p k n u a=>h _ fun w hw=>by
  have:sizeOf w < sizeOf a:=List.sizeOf_lt_of_mem hw
  exact ExP.rec_ h w
termination_by v=>sizeOf v
decreasing_by simp_wf; have:sizeOf w < sizeOf a:=List.sizeOf_lt_of_mem hw; omega
mutual
def ExP.e:ExP→ExV
 | .mk _ k n v a=>.mk k n v (exsE a)
def exsE:List ExP→List ExV
 | []=>[]
 | v::l=>v.e::exsE l
end
theorem QsY:∀ l:List ExP,exsE l=l.map ExP.e
 | []=>rfl
 | v::l=>by rw [exsE,QsY l]; rfl
theorem XK (v:ExP):v.e=.mk v.k v.n v.v (v.a.map ExP.e):=by obtain ⟨p,k,n,u,a⟩:=v; rw [ExP.e,QsY]; rfl
def LiP.e (x:LiP):LiV:=⟨x.k,x.r,x.a.map ExP.e⟩
def TdP.e (x:TdP):TdV:=⟨x.b,x.n,x.ps,x.cs⟩
def RdP.e (x:RdP):RdV:=⟨x.b,x.i,x.n,x.f⟩
def RuP.e (x:RuP):RuV:=⟨x.r,x.a.map ExP.e,x.g,x.b.map LiP.e⟩
def NeP.e (x:NeP):NeV:=⟨x.n,x.b.map LiP.e⟩
def MoP.e (m:MoP):MoV:=⟨m.n,m.im.map ImP.n,m.ty.map TdP.e,m.re.map RdP.e,m.ru.map RuP.e,m.ne.map NeP.e⟩
def mpO {α β:Type} (f:α→Option β):List α→Option (List β)
 | []=>some []
 | v :: l => match f v with
  | none=>none
  | some w => match mpO f l with
   | none=>none
   | some r=>some (w::r)
def mpE {ε α β:Type} (f:α→Except ε β):List α→Except ε (List β)
 | []=>.ok []
 | v :: l => match f v with
  | .error e=>.error e
  | .ok w => match mpE f l with
   | .error e=>.error e
   | .ok r=>.ok (w::r)
abbrev Ky:=Str×Str×Int
abbrev Tl:=List (Ky×Bool)
def tellF (T:Tl) (k:Ky) (b:Bool):Bool×Tl:=match lkL k T with
 | some _=>(false,T)
 | none=>(true,T++[(k,b)])
mutual
def freeTy (ps:List Str):TyV→Bool
 | .mk n a=>if n.headD 0=39 then !ps.contains n else freeTys ps a
def freeTys (ps:List Str):List TyV→Bool
 | []=>false
 | v::l=>freeTy ps v || freeTys ps l
end
def openF (ps:List Str) (l:List FdV):Bool:=l.any fun f=>freeTy ps f.t
def csNm (m:Str) (b:Bool):Bool×Tl→List CnV→Bool×Tl
 | s,[]=>s
 | s,c::l=>csNm m b ((tellF s.2 (m,c.n,1) b).1 && s.1,(tellF s.2 (m,c.n,1) b).2) l
def tyNm (m:Str) (t:TdP) (T:Tl):Bool×Tl:=csNm m t.b ((tellF T (m,t.n,0) t.b).1 && decide t.ps.Nodup,(tellF T (m,t.n,0) t.b).2) t.cs
abbrev Er:=Str×Pl×Int
def namesTy (m:Str):List TdP→Tl→Except Er Tl
 | [],T=>.ok T
 | t::l,T=>if (tyNm m t T).1=false then .error (m,t.p,6) else if t.cs.any (fun c=>openF t.ps c.f)=true then .error (m,t.p,63) else namesTy m l (tyNm m t T).2
def namesRe (m:Str):List RdP→Tl→Except Er Tl
 | [],T=>.ok T
 | x::l,T=>if (tellF T (m,x.n,2) x.b).1=false then .error (m,x.p,6) else if openF [] x.f=true then .error (m,x.p,63) else namesRe m l (tellF T (m,x.n,2) x.b).2
def namesNe (m:Str):List NeP→Tl→Except Er Tl
 | [],T=>.ok T
 | x::l,T=>if (tellF T (m,x.n,3) false).1=false then .error (m,x.p,6) else namesNe m l (tellF T (m,x.n,3) false).2
def namesF (m:MoP) (T:Tl):Except Er Tl:=match namesTy m.n m.ty T with
 | .error e=>.error e
 | .ok T1 => match namesRe m.n m.re T1 with
  | .error e=>.error e
  | .ok T2=>namesNe m.n m.ne T2
def namesAll:List MoP→Tl→Except Er Tl
 | [],T=>.ok T
 | m :: l, T => match namesF m T with
  | .error e=>.error e
  | .ok T1=>namesAll l T1
def singleF:List Str→List MoP→Option Er
 | _,[]=>none
 | ns,m::r=>if moC m.e≠0 then some (m.n,(0,0),moC m.e) else if ns.contains m.n=true then some (m.n,(0,0),6) else singleF (ns++[m.n]) r
def findN:List MoP→Str→Nat
 | [],_=>0
 | m::l,s=>if m.n=s then 0 else findN l s+1
def impA1 (l:List MoP) (m:Str):List Str→List ImP→Option Er
 | _,[]=>none
 | ps,x::r=>if l.length≤findN l x.n then some (m,x.p,63) else if ps.contains x.n=true then some (m,x.p,6) else impA1 l m (ps++[x.n]) r
def impA (l:List MoP):List MoP→Option Er
 | []=>none
 | m :: r => match impA1 l m.n [] m.im with
  | some e=>some e
  | none=>impA l r
def adj (l:List MoP) (i:Nat):List Nat:=match l[i]? with
 | none=>[]
 | some m=>m.im.map fun x=>findN l x.n
def comeF (l:List MoP) (a:Nat):Nat→Nat→Bool
 | 0,j=>decide (j=a)
 | n+1,j=>comeF l a n j || (List.range l.length).any fun i=>comeF l a n i && (adj l i).contains j
def reachF (l:List MoP) (a b:Nat):Bool:=comeF l a l.length b
def impB1 (l:List MoP) (m:Str) (i:Nat):List ImP→Option Er
 | []=>none
 | x::r=>if reachF l (findN l x.n) i=true then some (m,x.p,64) else impB1 l m i r
def impBf (l:List MoP):Nat→List MoP→Option Er
 | _,[]=>none
 | i, m :: r => match impB1 l m.n i m.im with
  | some e=>some e
  | none=>impBf l (i+1) r
def dotS (a b:Str):Str:=(a++[46])++b
def cutN (m s:Str):Str×Str:=match cutD s with
 | some p=>p
 | none=>(m,s)
def impd (m:MoP) (s:Str):Bool:=m.im.any fun x=>decide (x.n=s)
def meanF (T:Tl) (m:MoP) (s:Str) (k:Int):Option Str:=match lkL (((cutN m.n s).1,(cutN m.n s).2,k):Ky) T with
 | none=>none
 | some b=>if (decide ((cutN m.n s).1=m.n) || (b && impd m (cutN m.n s).1))=true then some (dotS (cutN m.n s).1 (cutN m.n s).2) else none
def primS (n:Str):Bool:=decide (n=boolS) || decide (n=intS) || decide (n=bigS) || decide (n=textS) || decide (n=tupS)
def tnF (T:Tl) (m:MoP) (n:Str):Option Str:=if (primS n || decide (n.headD 0=39))=true then some n else meanF T m n 0
mutual
def tyF (T:Tl) (m:MoP):TyV→Option TyV
 | .mk n a => match tnF T m n with
  | none=>none
  | some n' => match tysF T m a with
   | none=>none
   | some a'=>some (.mk n' a')
def tysF (T:Tl) (m:MoP):List TyV→Option (List TyV)
 | []=>some []
 | v :: l => match tyF T m v with
  | none=>none
  | some w => match tysF T m l with
   | none=>none
   | some r=>some (w::r)
end
theorem Qvd (T:Tl) (m:MoP):∀ l,tysF T m l=mpO (tyF T m) l
 | []=>rfl
 | v::l=>by
  rw [tysF,mpO,Qvd T m l]
  cases tyF T m v with
  | none=>rfl
  | some w=>cases mpO (tyF T m) l <;> rfl
def fdF (T:Tl) (m:MoP) (f:FdV):Option FdV:=match tyF T m f.t with
 | none=>none
 | some t=>some ⟨f.n,t⟩
def cnF (T:Tl) (m:MoP) (c:CnV):Option CnV:=match mpO (fdF T m) c.f with
 | none=>none
 | some f=>some ⟨dotS m.n c.n,f⟩
def tdF (T:Tl) (m:MoP) (t:TdP):Except Pl TdP:=match mpO (cnF T m) t.cs with
 | none=>.error t.p
 | some cs=>.ok ⟨t.p,t.b,dotS m.n t.n,t.ps,cs⟩
def rdF (T:Tl) (m:MoP) (x:RdP):Except Pl RdP:=match mpO (fdF T m) x.f with
 | none=>.error x.p
 | some f=>.ok ⟨x.p,x.b,x.i,dotS m.n x.n,f⟩
def enF (T:Tl) (m:MoP) (k:Int) (n:Str):Option Str:=if k=5 then meanF T m n 1 else some n
mutual
def exF (T:Tl) (m:MoP):ExP→Except Pl ExP
 | .mk p k n v a => match enF T m k n with
  | none=>.error p
  | some n' => match exsF T m a with
   | .error q=>.error q
   | .ok a'=>.ok (.mk p k n' v a')
def exsF (T:Tl) (m:MoP):List ExP→Except Pl (List ExP)
 | []=>.ok []
 | v :: l => match exF T m v with
  | .error q=>.error q
  | .ok w => match exsF T m l with
   | .error q=>.error q
   | .ok r=>.ok (w::r)
end
theorem QqP (T:Tl) (m:MoP):∀ l,exsF T m l=mpE (exF T m) l
 | []=>rfl
 | v::l=>by
  rw [exsF,mpE,QqP T m l]
  cases exF T m v with
  | error q=>rfl
  | ok w=>cases mpE (exF T m) l <;> rfl
def lnF (T:Tl) (m:MoP) (k:Int) (r:Str):Option Str:=if k=1∨k=2 then meanF T m r 2 else some r
def liF (T:Tl) (m:MoP) (x:LiP):Except Pl LiP:=match lnF T m x.k x.r with
 | none=>.error x.p
 | some r => match mpE (exF T m) x.a with
  | .error q=>.error q
  | .ok a=>.ok ⟨x.p,x.k,r,a⟩
def ruF (T:Tl) (m:MoP) (x:RuP):Except Pl RuP:=match meanF T m x.r 2 with
 | none=>.error x.p
 | some r => if (m.n ++ [46]).isPrefixOf r = false then .error x.p else match mpE (exF T m) x.a with
  | .error q=>.error q
  | .ok a => match mpE (liF T m) x.b with
   | .error q=>.error q
   | .ok b=>.ok ⟨x.p,r,a,x.g,b⟩
def neF (T:Tl) (m:MoP) (x:NeP):Except Pl NeP:=match mpE (liF T m) x.b with
 | .error q=>.error q
 | .ok b=>.ok ⟨x.p,dotS m.n x.n,b⟩
def usedF (T:Tl) (o m:MoP):Except Pl MoP:=match mpE (tdF T m) m.ty with
 | .error q=>.error q
 | .ok a => match mpE (rdF T m) m.re with
  | .error q=>.error q
  | .ok b => match mpE (ruF T m) m.ru with
   | .error q=>.error q
   | .ok c => match mpE (neF T m) m.ne with
    | .error q=>.error q
    | .ok d=>.ok ⟨o.n,o.im,o.ty++a,o.re++b,o.ru++c,o.ne++d⟩
def usedAll (T:Tl):MoP→List MoP→Except Er MoP
 | o,[]=>.ok o
 | o, m :: l => match usedF T o m with
  | .error q=>.error (m.n,q,63)
  | .ok o1=>usedAll T o1 l
def total {α:Type} (f:MoP→List α):List MoP→Nat
 | []=>0
 | m::l=>(f m).length+total f l
def totB (l:List MoP):Bool:=decide (64 < total MoP.ty l) || decide (64 < total MoP.re l) || decide (256 < total MoP.ru l) || decide (256 < total MoP.ne l)
def flatF (l:List MoP):Except Er MoP:=
 if l.length=0 then .error ([],(0,0),1) else if 8 < l.length then .error ([],(0,0),3) else
 match singleF [] l with
 | some e=>.error e
 | none => match impA l l with
  | some e=>.error e
  | none => match impBf l 0 l with
   | some e=>.error e
   | none => match namesAll l [] with
    | .error e=>.error e
    | .ok T=>if totB l=true then .error ([],(0,0),3) else usedAll T ⟨(l.head?.map MoP.n).getD [],[],[],[],[],[]⟩ l
mutual
def exPl:ExP→List Pl
 | .mk p _ _ _ a=>p::exsPl a
def exsPl:List ExP→List Pl
 | []=>[]
 | v::l=>exPl v++exsPl l
end
def boPl (l:List LiP):List Pl:=l.flatMap fun x=>x.p::exsPl x.a
def moPl (m:MoP):List Pl:=m.ty.map TdP.p++(m.re.map RdP.p++(m.ru.flatMap (fun r=>r.p::(exsPl r.a++boPl r.b))++m.ne.flatMap (fun n=>n.p::boPl n.b)))
end
section
open Go Go.Proofs
def psP (p:Pl):Qk:=⟨p.1,p.2⟩
mutual
def EpIs (H:Heap):ExP→Qe→Prop
 | .mk p k n v a,x=>x.Pos=psP p∧x.Kind=k∧Nm x.Name n∧VIs H v x.Value_∧VB v∧∃ xs:List Qe,rdsl H x.Args (xs.flatMap Qe.c)∧x.Args.len=xs.length∧a.length≤140737488355328∧EpsAre H a xs
def EpsAre (H:Heap):List ExP→List Qe→Prop
 | [],[]=>True
 | v::l,x::xs=>EpIs H v x∧EpsAre H l xs
 | [],_::_=>False
 | _::_,[]=>False
end
theorem EpsAre.iff {H:Heap}:∀ {l:List ExP} {xs:List Qe},EpsAre H l xs↔l.length=xs.length∧∀ (i:Nat) (v:ExP) (x:Qe),l[i]? = some v→xs[i]? = some x→EpIs H v x
 | [],[]=>by simp [EpsAre]
 | [],_::_=>by simp [EpsAre]
 | _::_,[]=>by simp [EpsAre]
 | v::l,x::xs=>by
  simp only [EpsAre,EpsAre.iff (l:=l) (xs:=xs),Vd]
  constructor
  ·rintro ⟨h1,h2,h3⟩
   refine ⟨by omega,fun i v' x' hv hx=>?_⟩
   cases i with
   | zero=>simp at hv hx; subst hv; subst hx; exact h1
   | succ i=>exact h3 i v' x' (by simpa using hv) (by simpa using hx)
  ·rintro ⟨h1,h2⟩
   exact ⟨h2 0 v x rfl rfl,by omega,fun i v' x' hv hx=>h2 (i+1) v' x' (by simpa using hv) (by simpa using hx)⟩
abbrev EpL (A:Heap):=SlIs (EpIs A) Qe.c A
theorem QfQ {H:Heap} {v:ExP} {x:Qe}:EpIs H v x↔x.Pos=psP v.p∧x.Kind=v.k∧Nm x.Name v.n∧VIs H v.v x.Value_∧VB v.v∧EpL H x.Args v.a:=by
 obtain ⟨p,k,n,u,a⟩:=v
 simp only [EpIs,ExP.p,ExP.k,ExP.n,ExP.v,ExP.a,EpL,SlIs,EpsAre.iff]
 constructor
 ·rintro ⟨h0,b,d,f,g,xs,h,i,j,h8,m⟩; exact ⟨h0,b,d,f,g,xs,h,i,h8,j,m⟩
 ·rintro ⟨h0,b,d,f,g,xs,h,i,h8,j,m⟩; exact ⟨h0,b,d,f,g,xs,h,i,j,h8,m⟩
def LpIs (A:Heap) (v:LiP) (x:Qm):Prop:=x.Pos=psP v.p∧x.Kind=v.k∧Nm x.Rel v.r∧EpL A x.Args v.a
abbrev LpL (A:Heap):=SlIs (LpIs A) Qm.c A
def TpIs (A:Heap) (v:TdP) (x:Qd):Prop:=x.Pos=psP v.p∧x.Pub=v.b∧Nm x.Name v.n∧(StL A x.Params v.ps∧x.Params.len≤x.Params.cap)∧CnL A x.Cons v.cs
abbrev TpL (A:Heap):=SlIs (TpIs A) Qd.c A
def RpIs (A:Heap) (v:RdP) (x:Qh):Prop:=x.Pos=psP v.p∧x.Pub=v.b∧x.Input=v.i∧Nm x.Name v.n∧FdL A x.Fields v.f
abbrev RpL (A:Heap):=SlIs (RpIs A) Qh.c A
def UpIs (A:Heap) (v:RuP) (x:Qi):Prop:=x.Pos=psP v.p∧Nm x.Rel v.r∧EpL A x.Args v.a∧StL A x.Aggs v.g∧LpL A x.Body v.b
abbrev UpL (A:Heap):=SlIs (UpIs A) Qi.c A
def NpIs (A:Heap) (v:NeP) (x:Qo):Prop:=x.Pos=psP v.p∧Nm x.Name v.n∧LpL A x.Body v.b
abbrev NpL (A:Heap):=SlIs (NpIs A) Qo.c A
def IpIs (v:ImP) (x:Qq):Prop:=x.Pos=psP v.p∧Nm x.Name v.n
abbrev IpL (A:Heap):=SlIs IpIs Qq.c A
def MpIs (A:Heap) (v:MoP) (x:Qa):Prop:=Nm x.Name v.n∧(IpL A x.Imports v.im∧x.Imports.len≤x.Imports.cap)∧TpL A x.Types v.ty∧RpL A x.Rels v.re∧UpL A x.Rules v.ru∧NpL A x.Nevers v.ne
abbrev MpL (A:Heap):=SlIs (MpIs A) Qa.c A
section
variable {α α2 β:Type} {R:α→β→Prop} {R2:α2→β→Prop} {c:β→List Value} {A B:Heap} {s:Sl} {l:List α}
theorem SlIs.map (h:SlIs R c A s l) (f:α→α2) (q:∀ v ∈ l,∀ x,R v x→R2 (f v) x):SlIs R2 c A s (l.map f):=by
 obtain ⟨xs,d,g,j,m,o⟩:=h
 refine ⟨xs,d,g,by simpa using j,by simpa using m,fun i v x b hx=>?_⟩
 rw [List.getElem?_map] at b
 cases hl:l[i]? with
 | none=>rw [hl] at b; cases b
 | some w=>
  rw [hl] at b
  injection b with b
  subst b
  exact q w (List.mem_of_getElem? hl) x (o i w x hl hx)
end
theorem EpIs.e {A:Heap}:∀ (v:ExP) (x:Qe),EpIs A v x→ExIs A v.e x:=by
 refine ExP.rec_ fun v b x h=>?_
 rw [QfQ] at h
 rw [XK,Qdv]
 exact ⟨h.2.1,h.2.2.1,h.2.2.2.1,h.2.2.2.2.1,h.2.2.2.2.2.map _ b⟩
section
variable {A:Heap}
theorem EpL.e {s:Sl} {l:List ExP} (h:EpL A s l):ExL A s (l.map ExP.e):=h.map _ fun v _ x hx=>EpIs.e v x hx
theorem LpIs.e {v:LiP} {x} (h:LpIs A v x):LiIs A v.e x:=⟨h.2.1,h.2.2.1,EpL.e h.2.2.2⟩
theorem LpL.e {s:Sl} {l:List LiP} (h:LpL A s l):LiL A s (l.map LiP.e):=h.map _ fun v _ x hx=>LpIs.e hx
theorem TpIs.e {v:TdP} {x} (h:TpIs A v x):TdIs A v.e x:=⟨h.2.1,h.2.2.1,h.2.2.2.1.1,h.2.2.2.2⟩
theorem RpIs.e {v:RdP} {x} (h:RpIs A v x):RdIs A v.e x:=h.2
theorem UpIs.e {v:RuP} {x} (h:UpIs A v x):RuIs A v.e x:=⟨h.2.1,EpL.e h.2.2.1,h.2.2.2.1,LpL.e h.2.2.2.2⟩
theorem NpIs.e {v:NeP} {x} (h:NpIs A v x):NeIs A v.e x:=⟨h.2.1,LpL.e h.2.2⟩
theorem MpIs.e {v:MoP} {x} (h:MpIs A v x):MoIs A v.e x:=
 ⟨h.1,h.2.1.1.map _ fun _ _ _ hx=>hx.2,h.2.2.1.map _ fun _ _ _ hx=>TpIs.e hx,h.2.2.2.1.map _ fun _ _ _ hx=>RpIs.e hx,h.2.2.2.2.1.map _ fun _ _ _ hx=>UpIs.e hx,h.2.2.2.2.2.map _ fun _ _ _ hx=>NpIs.e hx⟩
end
theorem EpIs.le {A B:Heap} (hle:A.le B):∀ v:ExP,∀ x,EpIs A v x→EpIs B v x:=by
 refine ExP.rec_ fun v b x h=>?_
 rw [QfQ] at h ⊢
 exact ⟨h.1,h.2.1,h.2.2.1,h.2.2.2.1.le hle,h.2.2.2.2.1,h.2.2.2.2.2.le hle b⟩
section
variable {A B:Heap} (hle:A.le B)
include hle
theorem LpIs.le {v:LiP} {x} (h:LpIs A v x):LpIs B v x:=⟨h.1,h.2.1,h.2.2.1,h.2.2.2.le hle fun v _ x h=>EpIs.le hle v x h⟩
theorem TpIs.le {v:TdP} {x} (h:TpIs A v x):TpIs B v x:=⟨h.1,h.2.1,h.2.2.1,⟨StL.le hle h.2.2.2.1.1,h.2.2.2.1.2⟩,h.2.2.2.2.le hle fun _ _ _ h=>CnIs.le hle h⟩
theorem RpIs.le {v:RdP} {x} (h:RpIs A v x):RpIs B v x:=⟨h.1,h.2.1,h.2.2.1,h.2.2.2.1,h.2.2.2.2.le hle fun _ _ _ h=>FdIs.le hle h⟩
theorem UpIs.le {v:RuP} {x} (h:UpIs A v x):UpIs B v x:=⟨h.1,h.2.1,h.2.2.1.le hle fun v _ x h=>EpIs.le hle v x h,StL.le hle h.2.2.2.1,h.2.2.2.2.le hle fun _ _ _ h=>LpIs.le hle h⟩
theorem NpIs.le {v:NeP} {x} (h:NpIs A v x):NpIs B v x:=⟨h.1,h.2.1,h.2.2.le hle fun _ _ _ h=>LpIs.le hle h⟩
theorem MpIs.le {v:MoP} {x} (h:MpIs A v x):MpIs B v x:=⟨h.1,⟨h.2.1.1.le hle fun _ _ _ h=>h,h.2.1.2⟩,h.2.2.1.le hle fun _ _ _ h=>TpIs.le hle h,h.2.2.2.1.le hle fun _ _ _ h=>RpIs.le hle h,h.2.2.2.2.1.le hle fun _ _ _ h=>UpIs.le hle h,h.2.2.2.2.2.le hle fun _ _ _ h=>NpIs.le hle h⟩
end
def Heap.nw (A H D : Heap) : Heap := fun b => match H b with
 | none=>D b
 | some _=>A b
section
variable {A H H1 D D2:Heap}
theorem QrK (d:A.le H):A.le (Heap.nw A H D):=fun b e h=>by
 unfold Heap.nw
 rw [d b e h]; exact h
theorem QtJ (h:D.le D2):(Heap.nw A H D).le (Heap.nw A H D2):=fun b e d=>by
 unfold Heap.nw at d ⊢
 cases hh:H b with
 | none=>rw [hh] at d; exact h b e d
 | some f=>rw [hh] at d; exact d
theorem QuO (f:A.le H) (h:H.le H1):(Heap.nw A H1 D).le (Heap.nw A H D):=fun b e d=>by
 unfold Heap.nw at d ⊢
 cases h1:H1 b with
 | none=>rw [h1] at d; rw [h.none h1]; exact d
 | some g=>
  rw [h1] at d
  rw [f b e d]; exact d
theorem Qla {b:Nat} {e:Bool×GO} (d:H b=none) (h:D b=some e):Heap.nw A H D b=some e:=by
 unfold Heap.nw; rw [d]; exact h
theorem QgK {b:Nat} {e:Bool×GO} (h:Heap.nw A H D b=some e):(H b=none∧D b=some e)∨A b=some e:=by
 unfold Heap.nw at h
 cases hb:H b with
 | none=>rw [hb] at h; exact .inl ⟨rfl,h⟩
 | some d=>rw [hb] at h; exact .inr h
end
structure Gr {α β:Type} (R:Heap→α→β→Prop) (c:β→List Value) (z:Nat) (A H D:Heap) (s:Sl) (l:List α):Prop where
 dom:∀ b,D b=none→H b=none
 al:A.le D
 fresh:Fresh H s
 ex:∃ xs:List β,Own D z s (xs.flatMap c)∧l.length=xs.length∧∀ (i:Nat) (v:α) (x:β),l[i]? = some v→xs[i]? = some x→R (Heap.off s (Heap.nw A H D)) v x
theorem Qk9 {A H D:Heap} (d:A.le D):(Heap.nw A H D).le D:=fun b e h=>by
 unfold Heap.nw at h
 cases hb:H b with
 | none=>rw [hb] at h; exact h
 | some f=>rw [hb] at h; exact d b e h
section
variable {α β:Type} {R:Heap→α→β→Prop} {c:β→List Value} {z:Nat} {A H H1 D D2:Heap} {s r:Sl} {l:List α} {v:α} {x:β}
theorem Gr.nil (f:∀ b,D b=none→H b=none) (d:A.le D):Gr R c z A H D Sl.nil ([]:List α):=⟨f,d,Fresh.nil _,[],Own.nil _ _,rfl,fun i v x h=>by simp at h⟩
theorem Gr.len (h:Gr R c z A H D s l) (i:∀ x,(c x).length=z) (b:0 < z):s.len=l.length:=by
 obtain ⟨xs,d,f,g⟩:=h.ex
 have:=d.1
 have e:(xs.flatMap c).length=xs.length*z:=by
  clear d f g this
  induction xs with
  | nil=>simp
  | cons a xs j=>simp only [List.flatMap_cons,Va,j,i,Vd,Nat.add_mul]; omega
 rw [e] at this
 have:=Nat.eq_of_mul_eq_mul_right b this
 omega
theorem Gr.up (h:Gr R c z A H D s l) (hle:D.le D2) (hR:∀ {X Y:Heap} {v x},X.le Y→R X v x→R Y v x):Gr R c z A H D2 s l:=by
 obtain ⟨xs,h1,h2,h3⟩:=h.ex
 refine ⟨fun b hb=>h.dom b (hle.none hb),h.al.trans hle,h.fresh,xs,h1.le hle,h2,fun i v x hv hx=>hR (fun b e hb=>?_) (h3 i v x hv hx)⟩
 unfold Heap.off at hb ⊢
 split at hb
 ·cases hb
 ·rename_i hn; rw [if_neg hn]; exact QtJ hle b e hb
theorem Gr.has (h:Gr R c z A H D s l):∀ p,s.p=some p→∃ e,D p.1=some e:=fun p hp=>by
 obtain ⟨xs,b,_⟩:=h.ex
 obtain ⟨g,hg⟩:=b.mine hp
 exact ⟨_,hg⟩
theorem Gr.put (h:Gr R c z A H D s l) {b:Nat} {g:GO} {e:Bool×GO} (hb:H b=some e) (hA:A b=none):Gr R c z A H (D.put b g) s l:=by
 have hs:∀ p,s.p=some p→p.1≠b:=fun p hp e'=>by
  have:=h.fresh p hp
  rw [e',hb] at this; cases this
 obtain ⟨xs,h1,h2,h3⟩:=h.ex
 have hbut:=Heap.but.put b D g true
 refine ⟨fun x hx=>?_,fun x e' hx=>?_,h.fresh,xs,h1.but hbut hs,h2,fun i v x hv hx=>?_⟩
 ·by_cases hxb:x=b
  ·subst hxb; rw [Xa] at hx; cases hx
  ·rw [Xb _ _ _ hxb] at hx; exact h.dom x hx
 ·have : x ≠ b := fun e2 => by rw [e2, hA] at hx; cases hx
  rw [Xb _ _ _ this]; exact h.al x e' hx
 ·have e2 : Heap.nw A H (D.put b g) = Heap.nw A H D := by
   funext x
   unfold Heap.nw
   cases hh:H x with
   | none=>
    have:x≠b:=fun e2=>by rw [e2,hb] at hh; cases hh
    exact Xb _ _ _ this
   | some _=>rfl
  rw [e2]; exact h3 i v x hv hx
theorem Gr.addD (h:Gr R c z A H D s l) (hA:A.le H) (hz:∀ x,(c x).length=z) (hz0:0 < z) (hR:∀ {X Y:Heap} {v x},X.le Y→R X v x→R Y v x) {zc:List Value} (hzc:zc.length=z) {bytes:Nat} {K:Sl→HP}
 (hv:R (Heap.off s (Heap.nw A H D)) v x) (hb:(l.length+1)*bytes≤140737488355328) (hl:l.length+1≤140737488355328)
 (k:∀ r D2,Gr R c z A H D2 r (l++[v])→(Heap.off s D).le D2→Fresh (Heap.off s D) r→K r D2):apd zc bytes s (c x) 1 K D:=by
 obtain ⟨xs,g1,g2,g3⟩:=h.ex
 have hlen:=h.len hz hz0
 subst hzc
 refine Qmb g1.off (by rw [hz,Nat.one_mul]) (by rw [hlen]; exact hb) (by rw [hlen]; omega) fun r D2 ho hr=>?_
 have hsA:∀ b e,A b=some e→∀ p,s.p=some p→p.1≠b:=fun b e hb p hp e'=>by
  have:=h.fresh p hp
  rw [e',hA b e hb] at this; cases this
 have hf:Fresh H r:=fun p hp=>by
  have h0:=ho.fresh p hp
  unfold Heap.off at h0
  split at h0
  ·rename_i he
   obtain ⟨q,hq,hqp⟩:=Option.map_eq_some_iff.1 he
   rw [← hqp]; exact h.fresh q hq
  ·exact h.dom _ h0
 refine k r D2 ⟨fun b hb=>?_,fun b e hb=>?_,hf,xs++[x],?_,by simp [g2],?_⟩ ho.le ho.fresh
 ·have h0:=ho.le.none hb
  unfold Heap.off at h0
  split at h0
  ·rename_i he
   obtain ⟨q,hq,hqp⟩:=Option.map_eq_some_iff.1 he
   rw [← hqp]; exact h.fresh q hq
  ·exact h.dom _ h0
 ·exact ho.le b e (Xe (h.al b e hb) (hsA b e hb))
 ·have e : (xs ++ [x]).flatMap c = xs.flatMap c ++ c x := by simp
  rw [e]; exact ho.own
 ·have key : (Heap.off s (Heap.nw A H D)).le (Heap.off r (Heap.nw A H D2)) := fun b e hb => by
   have hs:∀ p,s.p=some p→p.1≠b:=fun p hp e'=>by
    unfold Heap.off at hb
    rw [if_pos (by rw [hp,← e']; rfl)] at hb; cases hb
   have hb2:Heap.nw A H D b=some e:=Xj _ _ _ _ hb
   have hD:(Heap.off s D) b=some e:=Xe (Qk9 h.al b e hb2) hs
   refine Xe ?_ fun p hp e'=>?_
   ·rcases QgK hb2 with ⟨q1,_⟩ | q
    ·exact Qla q1 (ho.le b e hD)
    ·exact QrK hA b e q
   ·have:=ho.fresh p hp
    rw [e',hD] at this; cases this
  intro i v' x' hv' hx'
  by_cases hi:i < l.length
  ·rw [List.getElem?_append_left hi] at hv'
   rw [List.getElem?_append_left (by omega)] at hx'
   exact hR key (g3 i v' x' hv' hx')
  ·have hl1:=(List.getElem?_eq_some_iff.1 hv').1
   simp only [Va,Vd,Vk] at hl1
   have:i=l.length:=by omega
   subst this
   rw [List.getElem?_append_right (Nat.le_refl _)] at hv'
   rw [List.getElem?_append_right (by omega)] at hx'
   simp at hv' 
   rw [show l.length - xs.length=0 by omega] at hx'
   simp at hx'
   subst hv'; subst hx'
   exact hR key hv
theorem Gr.is (h:Gr R c z A H D s l) (hz:∀ x,(c x).length=z) (hz0:0 < z) (hR:∀ {X Y:Heap} {v x},X.le Y→R X v x→R Y v x) (hb:l.length≤140737488355328):SlIs (R (Heap.nw A H D)) c (Heap.nw A H D) s l:=by
 obtain ⟨xs,h1,h2,h3⟩:=h.ex
 have hlen:=h.len hz hz0
 refine ⟨xs,?_,by omega,h2,hb,fun i v x hv hx=>hR (Xj _ _) (h3 i v x hv hx)⟩
 obtain ⟨hl,hx,hc,⟨hp,h0⟩ | ⟨b,sp,hp,hbk,_⟩⟩:=h1
 ·left
  have:s.len=0:=by omega
  rw [this] at hl
  exact List.length_eq_zero_iff.1 (by simpa using hl)
 ·refine .inr ⟨hx, _, hp, QhT (Qla (h.fresh _ hp) hbk) fun j v hj => ?_⟩
  have:=(List.getElem?_eq_some_iff.1 hj).1
  rw [Nat.zero_add,List.getElem?_append_left this]; exact hj
theorem Qmi (hA:A.le H) (hd:∀ b,D b=none→H b=none) (hf:Fresh H s) (hs:∀ p,s.p=some p→∃ e,D p.1=some e):(Heap.nw A D D2).le (Heap.off s (Heap.nw A H D2)):=fun b e hb=>by
 refine Xe ?_ fun p hp e'=>?_
 ·rcases QgK hb with ⟨q,q2⟩ | q
  ·exact Qla (hd b q) q2
  ·exact QrK hA b e q
 ·obtain ⟨e2,h2⟩:=hs p hp
  rcases QgK hb with ⟨q,_⟩ | q
  ·rw [← e',h2] at q; cases q
  ·have:=hf p hp
   rw [e',hA b e q] at this; cases this
theorem Gr.lit (h:Gr R c z A H D s l) (hA:A.le H) (hz:∀ x,(c x).length=z) (hz0:0 < z) (hR:∀ {X Y:Heap} {v x},X.le Y→R X v x→R Y v x) {zc:List Value} (hzc:zc.length=z) {bytes:Nat} {Hs:Heap} {K:Sl→HP}
 (h1:∀ u ∈ c x,u.oneCell' = true) (hv:R (Heap.off s (Heap.nw A H D)) v x) (hb:(l.length+1)*bytes≤140737488355328) (hl:l.length+1≤140737488355328) (hs:Hs.le (Heap.off s D))
 (k:∀ r D2,Gr R c z A H D2 r (l++[v])→(Heap.off s D).le D2→Fresh (Heap.off s D) r→K r D2) :
 nw (c x++[]) (fun b H71=>Heap.le Hs H71∧apS zc bytes s (Sl.of (some (b,0)) 1 1) (fun r H74=>Heap.le Hs H74∧K r H74) H71) D:=by
 intro b n
 rw [List.append_nil]
 have l1:=Xc n (g:=.row (c x)) (m:=true)
 have hoff:(Heap.off s D).le (Heap.off s (D.put b (.row (c x)))):=fun y e hy=>by
  unfold Heap.off at hy ⊢
  split at hy
  ·cases hy
  ·rename_i hn; rw [if_neg hn]; exact l1 y e hy
 refine ⟨(hs.trans (Xj _ _)).trans l1,_,.inr ⟨rfl,(b,0),rfl,QhT (Xa ..) fun j u hj=>by rw [Nat.zero_add]; exact hj⟩,h1,?_⟩
 refine (h.up l1 hR).addD hA hz hz0 hR hzc (hR (fun y e hy=>?_) hv) hb hl fun r D2 hg h2 hf=>?_
 ·unfold Heap.off at hy ⊢
  split at hy
  ·cases hy
  ·rename_i hn; rw [if_neg hn]; exact QtJ l1 y e hy
 ·refine ⟨(hs.trans hoff).trans h2, k r D2 hg (hoff.trans h2) fun p hp => ?_⟩
  exact hoff.none (hf p hp)
end
end
section
open Go Go.Proofs
theorem box1N {H:Heap} {d:List Value} {K:Nat→HP} (k:∀ b D,H b=none→D=H.put b (.row d)→H.le D→D b=some (true,.row d)→K b D):nw d K H:=
 fun b n=>k b _ n rfl (Xc n) (Xa ..)
theorem boxZ {H:Heap} {cz cx:List Value} {K:Nat→HP} (hl:cx.length=cz.length) (k:∀ b D,H b=none→H.le D→D b=some (true,.row cx)→K b D):nw cz (fun b H2=>stT (b,0) cx (fun H3=>K b H3) H2) H:=
 fun b n=>nwT hl (k b _ n (Xc n) (Xa ..))
theorem fPs {H:Heap} {b j:Nat} {m:Bool} {cs:List Value} {x:Qk} {K:Qk→Prop} (h:H b=some (m,.row cs)) (h0:cs[j]? = some (.int .i64 x.Line)) (f:cs[j+1]? = some (.int .i64 x.Col)) (k:K x):ldT H Qk.c ((b,0).1,(b,0).2+j) K:=
 fT (c:=Qk.c) h (fun i v d=>by match i,d with | 0,d=>(rw [← d]; exact h0) | 1,d=>(rw [← d]; exact f)) k
section
variable {C:Ctx} {H A:Heap}
theorem ixI {α β:Type} {R:α→β→Prop} {c:β→List Value} {z:Nat} {s:Sl} {l:List α} {e:Value} {K:Int→HP} (hz:∀ x,(c x).length=z) (hz0:0 < z) (hs:SlIs R c A s l) (I:Nat→HP)
 (hA:∀ i D,I i D→A.le D) (h0:I 0 H)
 (hstep:∀ (i:Nat) (hi:i < l.length) (D:Heap) (x:β),I i D→R l[i] x→callU P0 C e [.agg (c x).toArray] D (fun v H13=>∃ r12:Bool,v=.bool r12∧ift r12 (K i H13) (I (i+1) H13)))
 (hend:∀ D,I l.length D→K (-1) D) :
 lp (α:=Int) 0 H (fun x1 J2 H3=>ift (decide ((x1:Int) < (Sl.len s:Int))) (ixa s x1 fun p5=>ldT H3 c (p5.1,p5.2+(x1:Int).toNat*z) fun x10=>callU P0 C e [.agg (c x10).toArray] H3 (fun v H13=>∃ (r12:Bool),v=.bool r12∧ift r12 (K x1 H13) (J2 (w .i64 (x1+1)) H13))) (K (-1) H3)):=by
 have hlen:=hs.len
 have hbd:=hs.bd
 refine ⟨fun y D=>∃ i:Nat,y=(i:Int)∧i≤l.length∧I i D,fun y _=>l.length - y.toNat,⟨0,rfl,Nat.zero_le _,h0⟩,?_⟩
 rintro _ D ⟨i,rfl,hi,hI⟩
 rw [hlen]
 refine ift.of (fun h=>?_) (fun h=>?_)
 ·have hlt : i < l.length := by have := Vb h; omega
  refine hs.ld (hA i D hI) hz hz0 rfl hlt fun x hx=>(hstep i hlt D x hI hx).mono ?_
  rintro v H' ⟨r,hv,hr⟩
  refine ⟨r,hv,ift.of (fun h=>hr.1 h) (fun h=>?_)⟩
  rw [Qu (by omega) (by omega)]
  exact ⟨⟨i+1,by omega,by omega,hr.2 h⟩,by first | omega | (dsimp only; omega)⟩
 ·have hie : i = l.length := by have := Vc h; omega
  exact hend D (hie ▸ hI)
theorem anyTake {α:Type} {f:α→Bool} {l:List α} {i:Nat} (h:i < l.length):(l.take (i+1)).any f=((l.take i).any f || f l[i]):=by
 rw [Vp,Vf h,Vo,List.any_append]; simp
theorem anyYes {α:Type} {f:α→Bool} {l:List α} {i:Nat} (h:i < l.length) (b:f l[i]=true):l.any f=true:=List.any_eq_true.2 ⟨_,Vg h,b⟩
theorem anyI {α β:Type} {R:α→β→Prop} {c:β→List Value} {z:Nat} {s:Sl} {l:List α} {e:Value} {K:Bool→HP} {ok:α→Bool} (hz:∀ x,(c x).length=z) (hz0:0 < z) (hs:SlIs R c A s l) (hA:A.le H)
 (he:∀ v ∈ l,∀ (x:β) (D:Heap) (Φ:Bool→HP),H.le D→R v x→(∀ D2,D.le D2→Φ (ok v) D2)→callU P0 C e [.agg (c x).toArray] D (fun v H13=>∃ r12:Bool,v=.bool r12∧Φ r12 H13))
 (k:∀ D,H.le D→K (l.any ok) D) :
 lp (α:=Int) 0 H (fun x1 J2 H3=>ift (decide ((x1:Int) < (Sl.len s:Int))) (ixa s x1 fun p5=>ldT H3 c (p5.1,p5.2+(x1:Int).toNat*z) fun x10=>callU P0 C e [.agg (c x10).toArray] H3 (fun v H13=>∃ (r12:Bool),v=.bool r12∧ift r12 (K (decide ((x1:Int) ≥ 0)) H13) (J2 (w .i64 (x1+1)) H13))) (K (decide ((-1:Int) ≥ 0)) H3)):=by
 refine ixI (K:=fun r D=>K (decide (r ≥ 0)) D) hz hz0 hs (fun i D=>H.le D∧(l.take i).any ok=false) (fun i D h=>hA.trans h.1) ⟨Heap.le.refl _,rfl⟩ ?_ ?_
 ·rintro i hi D x ⟨hD,hno⟩ hx
  refine he _ (Vg hi) x D _ hD hx fun D2 hD2=>ift.of (fun h=>?_) (fun h=>?_)
  ·have:=k D2 (hD.trans hD2)
   rw [anyYes hi h] at this
   rw [show decide ((i:Int) ≥ 0)=true from decide_eq_true (by omega)]; exact this
  ·exact ⟨hD.trans hD2,by rw [anyTake hi,hno,h]; rfl⟩
 ·rintro D ⟨hD,hno⟩
  rw [Vl] at hno
  have:=k D hD
  rw [hno] at this; exact this
theorem cfImport {R:ImP→Qq→Prop} {s:Sl} {l:List ImP} {e:Value} {K:Bool→HP} {ok:ImP→Bool} (f:SlIs R Qq.c A s l) (b:A.le H)
 (d:∀ v ∈ l,∀ (x:Qq) (D:Heap) (Φ:Bool→HP),H.le D→R v x→(∀ D2,D.le D2→Φ (ok v) D2)→callU P0 C e [.agg (Qq.c x).toArray] D (fun v H13=>∃ r12:Bool,v=.bool r12∧Φ r12 H13))
 (k:∀ D,H.le D→K (l.any ok) D):Qr C s e K H:=by
 apply Q1
 unfold QG
 apply Qab
 unfold QK
 exact anyI (fun _=>rfl) (by omega) f b d k
theorem cfConsDef {R:CnV→Qj→Prop} {s:Sl} {l:List CnV} {e:Value} {K:Bool→HP} {ok:CnV→Bool} (f:SlIs R Qj.c A s l) (b:A.le H)
 (d:∀ v ∈ l,∀ (x:Qj) (D:Heap) (Φ:Bool→HP),H.le D→R v x→(∀ D2,D.le D2→Φ (ok v) D2)→callU P0 C e [.agg (Qj.c x).toArray] D (fun v H13=>∃ r12:Bool,v=.bool r12∧Φ r12 H13))
 (k:∀ D,H.le D→K (l.any ok) D):QF C s e K H:=by
 apply Qax
 unfold QY
 apply QaN
 unfold Q7
 exact anyI (fun _=>rfl) (by omega) f b d k
theorem cfFieldDef {R:FdV→Ql→Prop} {s:Sl} {l:List FdV} {e:Value} {K:Bool→HP} {ok:FdV→Bool} (f:SlIs R Ql.c A s l) (b:A.le H)
 (d:∀ v ∈ l,∀ (x:Ql) (D:Heap) (Φ:Bool→HP),H.le D→R v x→(∀ D2,D.le D2→Φ (ok v) D2)→callU P0 C e [.agg (Ql.c x).toArray] D (fun v H13=>∃ r12:Bool,v=.bool r12∧Φ r12 H13))
 (k:∀ D,H.le D→K (l.any ok) D):QD C s e K H:=by
 apply Qas
 unfold QR
 apply QaC
 unfold Q0
 exact anyI (fun _=>rfl) (by omega) f b d k
theorem cfType {R:TyV→Qf→Prop} {s:Sl} {l:List TyV} {e:Value} {K:Bool→HP} {ok:TyV→Bool} (f:SlIs R Qf.c A s l) (b:A.le H)
 (d:∀ v ∈ l,∀ (x:Qf) (D:Heap) (Φ:Bool→HP),H.le D→R v x→(∀ D2,D.le D2→Φ (ok v) D2)→callU P0 C e [.agg (Qf.c x).toArray] D (fun v H13=>∃ r12:Bool,v=.bool r12∧Φ r12 H13))
 (k:∀ D,H.le D→K (l.any ok) D):QQ C s e K H:=by
 apply Qbe
 unfold Qah
 apply Qbt
 unfold Qar
 exact anyI (fun _=>rfl) (by omega) f b d k
theorem contS {s:Sl} {l:List Str} {t:Str} {K:Bool→HP} (hs:StL A s l) (hA:A.le H) (k:K (l.contains t) H):Qt C s t K H:=by
 apply Qt.gh
 apply Qft
 unfold Qb4
 apply Qgf
 unfold QcH
 have hlen:=SlIs.len hs
 have hbd:=SlIs.bd hs
 refine ⟨fun y D=>H.le D∧∃ i:Nat,y=(i:Int)∧i≤l.length∧(l.take i).contains t=false,fun y _=>l.length - y.toNat,⟨Heap.le.refl _,0,rfl,Nat.zero_le _,by simp⟩,?_⟩
 rintro _ D ⟨hD,i,rfl,hi,hno⟩
 rw [hlen]
 refine ift.of (fun h=>?_) (fun h=>?_)
 ·have hlt : i < l.length := by have := Vb h; omega
  refine SlIs.at_ hs (hA.trans hD) (z:=1) (fun _=>rfl) (by omega) rfl hlt fun p y hy hr=>⟨y,hr 0 _ rfl,?_⟩
  rw [hy.1]
  refine ift.of (fun h=>?_) (fun h=>?_)
  ·have e : l.contains t = true := by rw [List.contains_iff_mem, eq_of_beq h]; exact Vg hlt
   rw [e] at k
   dsimp only
   rw [show decide ((i:Int) ≥ 0)=true from decide_eq_true (by omega)]
   exact ⟨H,Gh.le hD,k⟩
  ·rw [Qu (by omega) (by omega)]
   refine ⟨⟨hD,i+1,by omega,by omega,?_⟩,by first | omega | (dsimp only; omega)⟩
   rw [Vp,Vf hlt,Vo]
   cases hc:(l.take i++[l[i]]).contains t with
   | false=>rfl
   | true=>
    rw [List.contains_iff_mem] at hc
    rcases List.mem_append.1 hc with hc | hc
    ·rw [← List.contains_iff_mem,hno] at hc; cases hc
    ·simp at hc; rw [hc] at h; simp at h
 ·have hie : i = l.length := by have := Vc h; omega
  subst hie
  rw [Vl] at hno
  rw [hno] at k
  exact ⟨H,Gh.le hD,k⟩
theorem cloneS {s:Sl} {l:List Str} {K:Sl→HP} (hs:StL A s l) (hA:A.le H) (hb:l.length≤1000000000) (k:∀ r D,H.le D→Gr (fun _ (v:Str) (x:Str)=>Nm x v) (fun x=>[sv x]) 1 A H D r l→K r D):QW C s K H:=by
 obtain ⟨xs,h1,h2,h3,h4,h5⟩:=hs
 have e0:xs.flatMap (fun x:Str=>[sv x])=xs.map sv:=by
  clear h1 h2 h3 h4 h5
  induction xs with
  | nil=>rfl
  | cons a xs ih=>rw [List.flatMap_cons,ih]; rfl
 rw [e0] at h1
 apply Qge
 unfold QcG
 refine ift.of (fun h=>?_) (fun h=>?_)
 ·have hx : xs = [] := by
   rcases h1 with h1 | ⟨_,p,hp,_⟩
   ·simpa using h1
   ·unfold Sl.isNil at h
    rw [hp] at h; cases h
  have:l=[]:=List.length_eq_zero_iff.1 (by rw [h3,hx]; rfl)
  subst this
  exact k _ _ (Heap.le.refl _) (Gr.nil (fun _ h=>h) hA)
 ·intro b n
  have e:=Qp2 (z:=1) n
  have hle:=Xc n (g:=.row []) (m:=true)
  refine Qma (zc:=[sv []]) e (Qgl (hA.trans hle) h1) (by simp [h2]) (Qu9 xs) ?_ ?_ fun r D ho hr=>?_
  ·simp only [Sl.of]; omega
  ·simp only [Sl.of]; omega
  ·refine k r D ho.le ⟨fun b hb => ho.le.none hb, hA.trans ho.le, ho.fresh, xs, ?_, h3, fun i v x hv hx => h5 i v x hv hx⟩
   rw [e0]; exact ho.own
end
end
section
open Go Go.Proofs
theorem Qt4 (a b:Str):(a == b)=decide (a=b):=by rw [Vn]; simp
theorem QqV:∀ {l:List MoP} {s:Str} {i:Nat} (hi:i < l.length),(∀ j (b:j < l.length),j < i→l[j].n≠s)→l[i].n=s→findN l s=i
 | m::l,s,0,_,_,h=>by
  have h':m.n=s:=h
  simp only [findN,if_pos h']
 | m::l,s,i+1,hi,hno,h=>by
  have h0:m.n≠s:=hno 0 (by simp) (by omega)
  simp only [findN,if_neg h0]
  rw [QqV (l:=l) (i:=i) (by simpa using hi) (fun j b d=>by
   have:=hno (j+1) (by simp; omega) (by omega)
   simpa using this) (by simpa using h)]
theorem QqW:∀ {l:List MoP} {s:Str},(∀ j (b:j < l.length),l[j].n≠s)→findN l s=l.length
 | [],s,_=>rfl
 | m::l,s,h=>by
  have h0:m.n≠s:=h 0 (by simp)
  simp only [findN,if_neg h0,Vd]
  rw [QqW (l:=l) fun j b=>by
   have:=h (j+1) (by simp; omega)
   simpa using this]
def fIx (l:List MoP) (s:Str):Int:=if findN l s < l.length then (findN l s:Int) else -1
structure Pr (H:Heap) (bp bm:Nat) (sl:Sl):Prop where
 at_:∃ m,H bp=some (m,.row (Q8.c ⟨sl,some bm⟩))
theorem Pr.le {A B:Heap} {b bm:Nat} {sl:Sl} (h:Pr A b bm sl) (hle:A.le B):Pr B b bm sl:=by
 obtain ⟨m,h⟩:=h.at_
 exact ⟨m,hle _ _ h⟩
abbrev encB:Bool→Value:=fun x:Bool=>(.bool x:Value)
def TlIs (H:Heap) (bm:Nat) (T:Tl):Prop:=∃ l,MapS kp3 encB H bm l∧∀ k,lkL k l=lkL k T
theorem TlIs.le {A B:Heap} {bm:Nat} {T:Tl} (h:TlIs A bm T) (hle:A.le B):TlIs B bm T:=by
 obtain ⟨l,b,d⟩:=h
 exact ⟨l,b.le hle,d⟩
def flt (m:Str) (p:Pl) (e:Int):Value:=(.iface 89 (.agg (Qs.c (⟨(⟨m,psP p⟩:Qc),e⟩:Qs)).toArray:Value))
section
variable {C:Ctx} {H A:Heap} {E:Value→HP}
theorem Qei {x:Qa} {m:Str} {q:Qk} {p:Pl} {e:Int} {K:HP} (hm:x.Name=m) (g:q=psP p) (k:∀ D,H.le D→E (flt m p e) D):QH C E x q e K H:=by
 subst hm; subst g
 apply Qoc
 unfold Qks
 exact box1N fun j H2 _ _ h d=>box1N fun b3 i _ _ b f=>fS (b _ _ d) rfl (bxT (c:=Qk.c) f (k _ (h.trans b)))
theorem QqX {l:List MoP} {q bm:Nat} {sl:Sl} {s:Str} {K:Int→HP} (hp:Pr H q bm sl) (E:MpL A sl l) (y:A.le H) (k:∀ D,H.le D→K (fIx l s) D):QaE C (some (q,0)) s K H:=by
 apply Qjt
 unfold QfD
 refine box1N fun o H2 _ _ g t=>?_
 obtain ⟨m,z⟩:=(hp.le g).at_
 refine ⟨_,rfl,fL z rfl ?_⟩
 apply QcS
 unfold Qba
 refine ixI (A:=A) (fun _=>rfl) (by omega) E (fun i D=>H2.le D∧∀ j (f:j < l.length),j < i→l[j].n≠s) (fun i D h=>(y.trans g).trans h.1) ⟨Heap.le.refl _,fun j _ h=>by omega⟩ ?_ ?_
 ·rintro i hi D x ⟨d,b⟩ hx
  refine ⟨147,[],[pv (some (o,0))],rfl,Qes,Qh0 C x (o,0) _ D ?_⟩
  unfold QeE
  refine box1N fun F r _ _ l2 u=>fS u rfl ⟨s,by rw [Qaq (l2 _ _ (d _ _ t))]; rfl,?_⟩
  rw [hx.1.1]
  refine ift.of (fun h=>?_) (fun h=>?_)
  ·have:=k r (g.trans (d.trans l2))
   unfold fIx at this
   rw [QqV hi b (eq_of_beq h),if_pos hi] at this
   exact this
  ·refine ⟨d.trans l2, fun j f B => ?_⟩
   by_cases h':j=i
   ·subst h'; intro e; rw [e] at h; simp at h
   ·exact b j f (by omega)
 ·rintro D ⟨d,b⟩
  have:=k D (g.trans d)
  unfold fIx at this
  rw [QqW fun j f=>b j f f,if_neg (Nat.lt_irrefl _)] at this
  exact this
theorem QsS {m s:Str} {B:Nat} (d:s.length≤B) (hm:m.length≤B):(cutN m s).1.length≤B∧(cutN m s).2.length≤B:=by
 unfold cutN
 cases h:cutD s with
 | none=>exact ⟨hm,d⟩
 | some p=>
  have:=QqM (s:=s) (a:=p.1) (b:=p.2) h
  dsimp only; omega
theorem Qf0 {T:Tl} {m:MoP} {s r:Str} {k:Int} {B:Nat} (b:s.length≤B) (hm:m.n.length≤B) (h:meanF T m s k=some r):r.length≤2*B+1:=by
 have:=QsS b hm
 unfold meanF at h
 split at h
 ·cases h
 ·split at h
  ·injection h with h
   subst h
   simp only [dotS,Va,Vd,Vk]; omega
  ·cases h
theorem Qq3 {T:Tl} {m:MoP} {bp bm:Nat} {sl:Sl} {x:Qa} {s d:Str} {kd:Int} {q:Qk} {p:Pl} {K:Str→HP} (hP:Pr H bp bm sl) (hT:TlIs H bm T) (hx:x.Name=m.n) (hi:IpL A x.Imports m.im) (hA:A.le H)
 (c9:d=s) (hq:q=psP p) (hs:s.length≤1000) (hn:m.n.length≤1000) (k:∀ r D,H.le D→meanF T m s kd=some r→K r D) (ke:∀ D,H.le D→meanF T m s kd=none→E (flt m.n p 63) D):Qaj C E (some (bp,0)) x d kd q K H:=by
 subst c9; subst hq
 have e6:=QsS hs hn
 apply Qju
 unfold QfE
 refine box1N fun t H2 _ _ l1 h1=>box1N fun b3 H4 _ _ l3 h3=>?_
 have h1:=l3 _ _ h1
 have N:=l1.trans l3
 refine QoB (by omega) ?_
 have S:∀ (L r6:Str) (r7:Bool),cutN m.n d=(if r7 then (L,r6) else (m.n,d))→(fun L r6 r7 H8=>nw ([sv []]) (fun i H10=>
 st (i,0) (sv L) (fun U=>
 jn (α:=Str) (fun M f=>
 nck (some (bp,0)) fun b8=>
 ldM f (b8.1,b8.2+1) fun d2=>
 ldS f (i,0) fun a4=>
 lkM kp3 (fun x:Bool=>(.bool x:Value)) false d2 ((⟨a4,M,kd⟩:Qy).mod_,(⟨a4,M,kd⟩:Qy).own_,(⟨a4,M,kd⟩:Qy).kind_) (fun a5 J=>
 ldS f (i,0) fun a6=>
 ldS f ((t,0).1,(t,0).2+0) fun a7=>
 jn (α:=Bool) (fun Z g=>
 jn (α:=Unit) (fun d3 u=>
 ldS u (i,0) fun j=>
 catOk j ([46]:Str)∧
 catOk (j++([46]:Str)) M∧
 K ((j++([46]:Str))++M) u)
 (fun I=>ift ((!J) || (!Z))
 (ldT g Qa.c (t,0) fun a9=>
 ldT g Qk.c (b3,0) fun b0=>
 QH C E a9 b0 63 (fun Y=>
 I () Y) g)
 (I () g)))
 (fun z=>ift (a6 == a7)
 (z true f)
 (jn (α:=Bool) (fun a0 X=>
 z a0 X)
 (fun B=>ift a5
 (ldL f ((t,0).1,(t,0).2+1) fun a8=>
 Qr C a8 (.func (.func 157) (List.toArray []) (List.toArray [pv (some (i,0))]):Value) (fun a2 W=>
 B a2 W) f)
 (B false f))))) f)
 (fun b5=>ift (!r7)
 (ldS U ((t,0).1,(t,0).2+0) fun d1=>
 st (i,0) (sv d1) (fun c1=>
 b5 d c1) U)
 (b5 r6 U))) H10) H8) L r6 r7 H4:=fun L r6 r7 hc=>by
  refine box1N fun i H10 n9 e9 l9 h9=>⟨_,h9,by simp,?_⟩
  have c3:H10.put (i,0).1 (.row ([sv []].set (i,0).2 (sv L)))=H4.put i (.row [sv L]):=by rw [e9,Xh]; rfl
  rw [c3]
  have o:∀ v:Str,H4.le (H4.put i (.row [sv v]))∧(H4.put i (.row [sv v])) i=some (true,.row [sv v]):=fun v=>⟨Xc n9,Xa ..⟩
  refine ⟨fun own D=>own=(cutN m.n d).2∧H4.le D∧D i=some (true,.row [sv (cutN m.n d).1]),?_,?_⟩
  ·refine ift.of (fun h => ?_) (fun h => ?_)
   ·have h7 : r7 = false := by simpa using h
    rw [h7] at hc
    refine fS ((o L).1 _ _ h1) rfl ⟨_,(o L).2,by simp,?_⟩
    rw [hc,hx]
    refine ⟨rfl,?_,?_⟩
    ·rw [Xh]; exact (o _).1
    ·rw [Xh]; exact (o _).2
   ·have h7 : r7 = true := by simpa using h
    rw [h7] at hc
    rw [hc]
    exact ⟨rfl,(o L).1,(o L).2⟩
  ·rintro own D ⟨rfl,Q,O⟩
   obtain ⟨_,c6⟩:=(hP.le (N.trans Q)).at_
   refine ⟨_,rfl,some bm,by rw [Qaq c6]; rfl,?_⟩
   refine ⟨(cutN m.n d).1,by rw [Qaq O]; rfl,?_⟩
   obtain ⟨lT,hm,hl⟩:=hT.le (N.trans Q)
   show lkM kp3 encB false (some bm) ((cutN m.n d).1,(cutN m.n d).2,kd) _ D
   have rest:∀ (b is:Bool),(is=true→lkL (((cutN m.n d).1,(cutN m.n d).2,kd):Ky) T=some b)→(is=false→lkL (((cutN m.n d).1,(cutN m.n d).2,kd):Ky) T=none)→(fun (a5 J:Bool)=>ldS D (i,0) fun a6=>
 ldS D ((t,0).1,(t,0).2+0) fun a7=>
 jn (α:=Bool) (fun Z g=>
 jn (α:=Unit) (fun d3 u=>
 ldS u (i,0) fun j=>
 catOk j ([46]:Str)∧
 catOk (j++([46]:Str)) (cutN m.n d).2∧
 K ((j++([46]:Str))++(cutN m.n d).2) u)
 (fun I=>ift ((!J) || (!Z))
 (ldT g Qa.c (t,0) fun a9=>
 ldT g Qk.c (b3,0) fun b0=>
 QH C E a9 b0 63 (fun Y=>
 I () Y) g)
 (I () g)))
 (fun z=>ift (a6 == a7)
 (z true D)
 (jn (α:=Bool) (fun a0 X=>
 z a0 X)
 (fun B=>ift a5
 (ldL D ((t,0).1,(t,0).2+1) fun a8=>
 Qr C a8 (.func (.func 157) (List.toArray []) (List.toArray [pv (some (i,0))]):Value) (fun a2 W=>
 B a2 W) D)
 (B false D))))) b is := fun b is hy c7 => by
    refine ⟨(cutN m.n d).1,by rw [Qaq O]; rfl,?_⟩
    refine fS (Q _ _ h1) rfl ?_
    rw [hx]
    refine ⟨fun r G=>D.le G∧r=(decide ((cutN m.n d).1=m.n) || (b && impd m (cutN m.n d).1)),?_,?_⟩
    ·refine ift.of (fun h => ?_) (fun h => ?_)
     ·refine ⟨Heap.le.refl _,?_⟩
      rw [decide_eq_true (eq_of_beq h)]; rfl
     ·have c8 : decide ((cutN m.n d).1 = m.n) = false := by
       rw [decide_eq_false_iff_not]; intro e; rw [e] at h; simp at h
      refine jn.inl ?_
      rw [c8]
      refine ift.of (fun h=>?_) (fun h=>?_)
      ·subst h
       refine fL (Q _ _ h1) rfl ?_
       refine cfImport (ok:=fun y=>decide (y.n=(cutN m.n d).1)) hi (hA.trans (N.trans Q)) ?_ ?_
       ·intro v hv y G Φ R d0 hΦ
        refine ⟨157,[],[pv (some (i,0))],rfl,Qet,Qh1 C y (i,0) Φ G ?_⟩
        unfold QeF
        refine box1N fun b2 G2 _ _ l2 h2=>fS h2 rfl ⟨(cutN m.n d).1,by rw [Qaq (l2 _ _ (R _ _ O))]; rfl,?_⟩
        have:=hΦ G2 l2
        rw [d0.2.1]
        show Φ (v.n == (cutN m.n d).1) G2
        rw [Qt4]; exact this
       ·intro G R
        exact ⟨R,rfl⟩
      ·subst h; exact ⟨Heap.le.refl _,rfl⟩
    ·rintro r G ⟨R,rfl⟩
     have b6:=N.trans (Q.trans R)
     refine ⟨fun _ F=>∃ r,meanF T m d kd=some r∧H.le F∧F=G,?_,?_⟩
     ·refine ift.of (fun h => ?_) (fun h => ?_)
      ·refine bxT (c:=Qa.c) (R _ _ (Q _ _ h1)) (bxT (c:=Qk.c) (R _ _ (Q _ _ h3)) ?_)
       refine Qei hx rfl fun F hF=>ke F (b6.trans hF) ?_
       unfold meanF
       cases is with
       | false=>rw [c7 rfl]
       | true=>
        rw [hy rfl]
        dsimp only
        rw [if_neg]
        intro e
        rw [e] at h; cases h
      ·cases is with
       | false=>simp at h
       | true=>
        have e:(decide ((cutN m.n d).1=m.n) || (b && impd m (cutN m.n d).1))=true:=by simpa [Classical.or_iff_not_imp_left] using h
        refine ⟨dotS (cutN m.n d).1 (cutN m.n d).2,?_,b6,rfl⟩
        unfold meanF
        rw [hy rfl]
        dsimp only
        rw [if_pos e]
     ·rintro _ F ⟨r,P,hF,rfl⟩
      refine ⟨(cutN m.n d).1,by rw [Qaq (R _ _ O)]; rfl,?_,?_,?_⟩
      ·show _ < _
       simp only [Vd,Vk]; omega
      ·show _ < _
       simp only [Va,Vd,Vk]; omega
      ·have e : r = dotS (cutN m.n d).1 (cutN m.n d).2 := by
        unfold meanF at P
        split at P
        ·cases P
        ·split at P
         ·injection P with P; exact P.symm
         ·cases P
       exact k _ F hF (by rw [P,e]; rfl)
   refine hm.is.lk (fun b hb=>?_) (fun b7=>?_)
   ·rw [hl] at hb
    exact rest b true (fun _=>hb) (fun h=>by cases h)
   ·rw [hl] at b7
    exact rest false false (fun h=>by cases h) (fun _=>b7)
 cases hc:cutD d with
 | none=>exact S d [] false (by unfold cutN; rw [hc]; rfl)
 | some q=>exact S q.1 q.2 true (by unfold cutN; rw [hc]; rfl)
end
end
section
open Go Go.Proofs
theorem QbL {s:Str} (h:namS s=true):s.length≤32∧s≠[]:=by
 unfold namS nameS at h
 simp only [Ve,Bool.not_eq_true',Vj] at h
 exact ⟨h.1.1.1.2,fun e=>by rw [e] at h; simp at h⟩
theorem Qsn:∀ {s a b:Str},cutD s=some (a,b)→s=a++46::b
 | [],a,b,h=>by simp [cutD] at h
 | c::t,a,b,h=>by
  simp only [cutD] at h
  by_cases hc:c=46
  ·rw [if_pos hc] at h; injection h with h; injection h with h1 h2; subst h1; subst h2; rw [hc]; rfl
  ·rw [if_neg hc] at h
   cases ht:cutD t with
   | none=>rw [ht] at h; simp at h
   | some p=>
    rw [ht] at h; simp at h
    obtain ⟨rfl,rfl⟩:=h
    have:=Qsn (s:=t) (a:=p.1) (b:=p.2) ht
    rw [List.cons_append,← this]
theorem Qka {s:Str} (h:longS s=true):s.length≤65∧s≠[]:=by
 unfold longS at h
 cases hc:cutD s with
 | none=>rw [hc] at h; have:=QbL h; exact ⟨by omega,this.2⟩
 | some p=>
  rw [hc] at h
  simp only [Ve] at h
  have d:=QbL h.1
  have f:=QbL h.2
  have e:=Qsn (s:=s) (a:=p.1) (b:=p.2) hc
  rw [e]
  exact ⟨by simp only [Va,Vd]; omega,by simp⟩
theorem Qn7 {n:Str} {k:Nat} (h:tyN n k=true):n.length≤65∧n≠[]∧k≤16:=by
 unfold tyN at h
 split at h
 ·rename_i hp
  have:k=0:=Vb h
  refine ⟨?_,?_,by omega⟩ <;> (rcases hp with e | e | e | e <;> rw [e] <;> decide)
 ·split at h
  ·rename_i e
   simp only [Ve,Vj] at h
   refine ⟨by rw [e]; decide,by rw [e]; decide,h.2⟩
  ·simp only [Bool.or_eq_true,Ve,Vj] at h
   rcases h with ⟨b,d⟩ | ⟨b,d⟩
   ·cases n with
    | nil=>simp [parS] at b
    | cons c t=>
     simp only [parS,Ve] at b
     have:=QbL b.2
     exact ⟨by simp only [Vd]; omega,by simp,by omega⟩
   ·have:=Qka b
    exact ⟨by omega,this.2,by omega⟩
theorem Qn8 (v:TyV):tyOk v=true↔tyN v.n v.a.length=true∧∀ w ∈ v.a,tyOk w=true:=by
 obtain ⟨n,a⟩:=v
 have:∀ l:List TyV,tysOk l=true ↔ ∀ w ∈ l,tyOk w=true:=by
  intro l
  induction l with
  | nil=>simp [tysOk]
  | cons v l b=>simp [tysOk,b]
 rw [tyOk,Ve,this]; rfl
theorem Qnr {T:Tl} {m:MoP} (v:TyV):tyF T m v=match tnF T m v.n with
 | none=>none
 | some n' => match mpO (tyF T m) v.a with
  | none=>none
  | some a'=>some (.mk n' a'):=by
 obtain ⟨n,a⟩:=v
 rw [tyF,Qvd]; rfl
theorem Qta {α β : Type} {f : α → Option β} : ∀ {l : List α} {v : α} {l' : List β}, mpO f l = some l' → mpO f (l ++ [v]) = match f v with | none => none | some w => some (l' ++ [w])
 | [],v,l',h=>by
  simp only [mpO] at h; injection h with h; subst h
  simp only [List.nil_append,mpO] <;> cases f v <;> rfl
 | u::l,v,l',h=>by
  simp only [List.cons_append,mpO] at h ⊢
  cases hu:f u with
  | none=>rw [hu] at h; cases h
  | some w=>
   rw [hu] at h
   cases hl:mpO f l with
   | none=>rw [hl] at h; cases h
   | some r=>
    rw [hl] at h
    injection h with h; subst h
    rw [Qta hl]
    cases f v <;> rfl
theorem Qi3 {α β:Type} {f:α→Option β}:∀ {l:List α} {v:α},v ∈ l→f v=none→mpO f l=none
 | u::l,v,hm,h=>by
  simp only [mpO]
  rcases List.mem_cons.1 hm with rfl | hm
  ·rw [h]
  ·rw [Qi3 hm h]; cases f u <;> rfl
theorem QfP {α β:Type} {f:α→Option β}:∀ {l:List α} {l':List β},mpO f l=some l'→l'.length=l.length
 | [],l',h=>by simp only [mpO] at h; injection h with h; subst h; rfl
 | u::l,l',h=>by
  simp only [mpO] at h
  cases hu:f u with
  | none=>rw [hu] at h; cases h
  | some w=>
   rw [hu] at h
   cases hl:mpO f l with
   | none=>rw [hl] at h; cases h
   | some r=>rw [hl] at h; injection h with h; subst h; simp [QfP hl]
theorem QkS {α β:Type} {f:α→Option β} {l:List α} {i:Nat} {l':List β} {w:β} (hi:i < l.length) (h:mpO f (l.take i)=some l') (hw:f l[i]=some w):mpO f (l.take (i+1))=some (l'++[w]):=by
 rw [Vp,Vf hi,Vo,Qta h,hw]
theorem Xs {H D:Heap} {b:Nat} {g:GO} {m:Bool} (h:∀ x,D x=none→H x=none):∀ x,(D.put b g m) x=none→H x=none:=fun x hx=>by
 by_cases hxb:x=b
 ·subst hxb; rw [Xa] at hx; cases hx
 ·rw [Xb _ _ _ hxb] at hx; exact h x hx
theorem Xk {D:Heap} {b:Nat} {g:GO} {m:Bool} {X:Heap} (h:(X.del b).le D):(X.del b).le (D.put b g m):=fun x e hx=>by
 have:x≠b:=fun e'=>by rw [e',Xg] at hx; cases hx
 rw [Xb _ _ _ this]; exact h x e hx
theorem Xo {A H:Heap} {b:Nat} (h:A.le H) (f:A b=none):A.le (H.del b):=fun x e hx=>by
 have:x≠b:=fun d=>by rw [d,f] at hx; cases hx
 rw [Xd _ this]; exact h x e hx
theorem Qx2 (x:Qf):∀ u ∈ Qf.c x,u.oneCell' = true:=by
 intro u b
 simp only [Qf.c,List.mem_cons,List.mem_nil_iff,or_false] at b
 rcases b with rfl | rfl <;> rfl
section
variable {C:Ctx} {A:Heap} {E:Value→HP}
theorem Qxx {T:Tl} {m:MoP} {bp bm:Nat} {sl:Sl} {x:Qa} {p:Pl} (hx:x.Name=m.n) (hi:IpL A x.Imports m.im) (hn:m.n.length≤1000) :
 ∀ (v:TyV),tyOk v=true→∀ {t:Qf} {H:Heap} {q:Qk} {K:Qf→HP},Pr H bp bm sl→TlIs H bm T→A.le H→TyIs A v t→q=psP p→
  (∀ r D v',H.le D→tyF T m v=some v'→TyIs (Heap.nw A H D) v' r→K r D)→(∀ D,H.le D→tyF T m v=none→E (flt m.n p 63) D)→Qb8 C E (some (bp,0)) x t q K H:=by
 refine TyV.rec_ fun v ih a3 t H q K hP hT hA ht hq k ke=>?_
 subst hq
 obtain ⟨hN,a3⟩:=(Qn8 v).1 a3
 obtain ⟨i3,f4,i1⟩:=Qn7 hN
 obtain ⟨Q,c3⟩:=Qb7.1 ht
 apply QjL
 unfold Qf4
 refine box1N fun b1 H2 n1 _ l1 h1=>box1N fun b3 H4 n3 _ l3 F=>box1N fun b5 H6 n5 _ l5 h5=>box1N fun b7 H8 n7 _ l7 h7=>?_
 have h1:=l7 _ _ (l5 _ _ (l3 _ _ h1))
 have F:=l7 _ _ (l5 _ _ F)
 have h5:=l7 _ _ h5
 have u:H.le H8:=l1.trans (l3.trans (l5.trans l7))
 have W:=hA.trans u
 have c7:H b3=none:=l1.none n3
 have c6:A b3=none:=hA.none c7
 have a0:H.le (H8.del b3):=Xo u c7
 have c9:b1≠b3:=fun e=>by rw [← e] at n3; rename_i q1 _ _; rw [show H2=H.put b1 _ from ‹H2=_›,Xa] at n3; cases n3
 have d0:b5≠b3:=fun e=>by
  have:=(Heap.le.none l5 ·:H6 b5=none→H4 b5=none)
  rw [e] at n5
  rw [show H4=H2.put b3 _ from ‹H4=_›,Xa] at n5; cases n5
 have d2:b7≠b3:=fun e=>by
  rw [e] at n7
  have:H6 b3=some (true,.row (Qf.c t)):=l5 _ _ ‹H4 b3=some (true,.row (Qf.c t))›
  rw [this] at n7; cases n7
 have d1:(H8.del b3) b1=some (true,.row (Qa.c x)):=by rw [Xd _ c9]; exact h1
 have d5:(H8.del b3) b5=some (true,.row (Qk.c (psP p))):=by rw [Xd _ d0]; exact h5
 have d7:(H8.del b3) b7=some (true,.row (Qf.c Qf.zero)):=by rw [Xd _ d2]; exact h7
 refine ⟨fun _ D=>∃ d,tnF T m v.n=some d∧(H8.del b3).le D∧D b3=some (true,.row [sv d,slv t.Args]),?_,?_⟩
 ·refine fS F rfl ?_
  rw [Q.1]
  refine ⟨fun b D=>H8=D∧b=primS v.n,?_,?_⟩
  ·have e : ∀ w : Str, (v.n == w) = decide (v.n = w) := fun w => by rw [Vn]; simp
   unfold primS
   refine ift.of (fun h=>⟨rfl,?_⟩) fun h=>ift.of (fun o=>⟨rfl,?_⟩) fun o=>ift.of (fun U=>⟨rfl,?_⟩) fun U=>ift.of (fun F=>⟨rfl,?_⟩) fun F=>⟨rfl,?_⟩
   all_goals simp only [e] at *
   ·rw [h,show decide (v.n=boolS)=true from h]; rfl
   ·rw [o,show decide (v.n=intS)=true from o]; simp
   ·rw [U,show decide (v.n=bigS)=true from U]; simp
   ·rw [F,show decide (v.n=textS)=true from F]; simp
   ·rw [show decide (v.n=boolS)=false from h,show decide (v.n=intS)=false from o,show decide (v.n=bigS)=false from U,show decide (v.n=textS)=false from F]; rfl
  ·rintro b _ ⟨rfl,rfl⟩
   have plain:(primS v.n || decide (v.n.headD 0=39))=true→∃ d,tnF T m v.n=some d∧(H8.del b3).le H8∧H8 b3=some (true,.row [sv d,slv t.Args]):=fun h=>by
    refine ⟨v.n,by unfold tnF; rw [if_pos h],Xf _ _,?_⟩
    rw [F,← Q.1]; rfl
   refine ift.of (fun h=>plain (by rw [h]; rfl)) fun h=>?_
   refine fS F rfl ?_
   rw [Q.1]
   obtain ⟨c,cs,hc⟩:=List.exists_cons_of_ne_nil f4
   refine ⟨c,by omega,by rw [hc]; rfl,?_⟩
   have hh:v.n.headD 0=c:=by rw [hc]; rfl
   refine ift.of (fun o=>?_) fun o=>plain ?_
   ·have c0 : (primS v.n || decide (v.n.headD 0 = 39)) = false := by
     rw [h,hh,Bool.false_or,decide_eq_false_iff_not]
     intro e; rw [e] at o; exact absurd o (by decide)
    refine bxT (c:=Qa.c) h1 (fS F rfl (bxT (c:=Qk.c) h5 ?_))
    refine Qq3 (hP.le u) (hT.le u) hx hi W Q.1 rfl (by omega) hn (fun r D R hr=>?_) (fun D R hr=>ke D (u.trans R) ?_)
    ·refine ⟨_, R _ _ F, by simp [Qf.c], r, ?_, Xk ((Xf _ _).trans R), Xa ..⟩
     unfold tnF; rw [c0]; exact hr
    ·rw [Qnr]
     have:tnF T m v.n=none:=by unfold tnF; rw [c0]; exact hr
     rw [this]
   ·have : c = 39 := by
     have o:(c.toNat:Int)=39:=by simpa using o
     have:c.toNat=39:=by omega
     exact UInt8.toNat_inj.1 (by rw [this]; rfl)
    rw [hh,this]; simp
 ·rintro _ D0 ⟨d,f,Z,a1⟩
  have e5:A.le D0:=(hA.trans a0).trans Z
  refine fL a1 (j:=1) rfl ⟨_,a1,by simp,?_⟩
  have b2:∀ b,D0 b=none→H8 b=none:=fun b z=>by
   by_cases e:b=b3
   ·rw [e,a1] at z; cases z
   ·have:=Z.none z; rwa [Xd _ e] at this
  have hR:∀ {X Y:Heap} {v:TyV} {x:Qf},X.le Y→TyIs X v x→TyIs Y v x:=fun h o=>TyIs.le h _ _ o
  have b9:=SlIs.len c3
  refine ⟨fun y D=>(H8.del b3).le D∧∃ (i:Nat) (l':List TyV) (s:Sl),y=(i:Int)∧i≤v.a.length∧mpO (tyF T m) (v.a.take i)=some l'∧Gr TyIs Qf.c 2 A H8 D s l'∧D b3=some (true,.row [sv d,slv s]),fun y _=>v.a.length - y.toNat,?_,?_⟩
  ·refine ⟨Xk Z,0,[],Sl.nil,rfl,Nat.zero_le _,rfl,Gr.nil (Xs b2) ?_,Xa ..⟩
   intro b e z
   have:b≠b3:=fun e'=>by rw [e',c6] at z; cases z
   rw [Xb _ _ _ this]; exact e5 b e z
  ·rintro _ D ⟨R,i,l',s,rfl,f2,P,hG,z⟩
   rw [b9]
   have e6:=hG.al
   have hlen':=QfP P
   rw [List.length_take,Nat.min_eq_left f2] at hlen'
   refine ift.of (fun h=>?_) (fun h=>?_)
   ·have L : i < v.a.length := by have := Vb h; omega
    refine c3.ld e6 (fun _=>rfl) (by omega) rfl L fun y hy=>?_
    intro N c5
    refine nwT rfl ?_
    have a5:=Xc c5 (g:=.row (Qf.c y)) (m:=true)
    have e4:(D.put N (.row (Qf.c y))) N=some (true,.row (Qf.c y)):=Xa ..
    have I:=hG.up a5 hR
    have b6:=R.trans a5
    have b8:=a5 _ _ z
    have S:∀ q,s.p=some q→q.1≠b3:=fun q hq e=>by
     have:=hG.fresh q hq
     rw [e,F] at this; cases this
    have c2:∀ q,s.p=some q→q.1≠N:=fun q hq e=>by
     obtain ⟨e2,U⟩:=hG.has q hq
     rw [e,c5] at U; cases U
    generalize D.put N (.row (Qf.c y))=D2 at *
    have a2:∀ {b:Nat} {e:Bool×GO},(H8.del b3) b=some e→(Heap.off s D2) b=some e:=fun {b e} z=>Xe (b6 b e z) fun q hq e'=>by
     have:=hG.fresh q hq
     rw [e'] at this
     have o:=Xf _ _ _ _ z
     rw [this] at o; cases o
    refine ⟨Heap.off s D2,Xj _ _,?_⟩
    refine fL (Xe b8 S) (j:=1) rfl (bxT (c:=Qa.c) (a2 d1) (bxT (c:=Qf.c) (Xe e4 c2) (bxT (c:=Qk.c) (a2 d5) ?_)))
    have J:H.le D2:=a0.trans b6
    refine ih _ (Vg L) (a3 _ (Vg L)) (hP.le J) (hT.le J) I.al hy rfl (fun r D3 w G hw hr=>?_) (fun D3 G hw=>ke D3 (J.trans G) ?_)
    ·have e8:=I.up G hR
     have f5:TyIs (Heap.off s (Heap.nw A H8 D3)) w r:=hR (Qmi W I.dom I.fresh I.has) hr
     have M:(Heap.off s D2).le (Heap.off s D3):=fun y e hy=>by
      unfold Heap.off at hy ⊢
      split at hy
      ·cases hy
      ·rename_i hn; rw [if_neg hn]; exact G y e hy
     refine ⟨(Xj _ _).trans G,?_⟩
     refine e8.lit W (fun _=>rfl) (by omega) hR rfl (Qx2 r) f5 (by omega) (by omega) M fun r2 D4 e9 h4 i2=>?_
     have f1:D4 b3=some (true,.row [sv d,slv s]):=h4 _ _ (Xe (G _ _ b8) S)
     refine ⟨_,f1,by simp,?_⟩
     rw [Qu (by omega) (by omega)]
     have e7:(H8.del b3).le D4:=fun b e z=>h4 b e (M b e (a2 z))
     refine ⟨⟨Xk e7,i+1,l'++[w],r2,by omega,by omega,QkS L P hw,e9.put F c6,Xa ..⟩,by first | omega | (dsimp only; omega)⟩
    ·rw [Qnr,f]
     dsimp only
     rw [Qi3 (Vg L) hw]
   ·have f3 : i = v.a.length := by have := Vc h; omega
    subst f3
    rw [Vl] at P
    refine bxT (c:=Qf.c) (x:=(⟨d,s⟩:Qf)) z ⟨_,R _ _ d7,by simp [Qf.c,Qf.zero],?_⟩
    have e1:splice (Qf.c Qf.zero) (b7,0).2 (Qf.c (⟨d,s⟩:Qf))=Qf.c (⟨d,s⟩:Qf):=rfl
    rw [e1]
    refine bxT (c:=Qf.c) (x:=(⟨d,s⟩:Qf)) (Xa ..) ?_
    have c8:H b7=none:=l1.none (l3.none (l5.none n7))
    have f0:=hG.put (g:=.row (Qf.c (⟨d,s⟩:Qf))) h7 (hA.none c8)
    refine k _ _ (.mk d l') ?_ ?_ (Qb7.2 ⟨⟨rfl,?_⟩,?_⟩)
    ·intro b e O
     have:b≠(b7,0).1:=fun e'=>by rw [e'] at O; rw [c8] at O; cases O
     rw [Xb _ _ _ this]; exact (a0.trans R) b e O
    ·rw [Qnr,f,P]
    ·have hm : d = v.n ∨ meanF T m v.n 0 = some d := by
      unfold tnF at f
      split at f
      ·injection f with f; exact .inl f.symm
      ·exact .inr f
     rcases hm with e | e
     ·show d.length≤_; rw [e]; omega
     ·have := Qf0 (B := 1000) (by omega) hn e
      show d.length≤_; omega
    ·have := f0.is (fun _ => rfl) (by omega) hR (by omega)
     exact this.le (QuO hA u) fun _ _ _ h=>hR (QuO hA u) h
end
end
section
open Go Go.Proofs
theorem Qq5 {ε α β : Type} {f : α → Except ε β} : ∀ {l : List α} {v : α} {l' : List β}, mpE f l = .ok l' → mpE f (l ++ [v]) = match f v with | .error e => .error e | .ok w => .ok (l' ++ [w])
 | [],v,l',h=>by
  simp only [mpE] at h; injection h with h; subst h
  simp only [List.nil_append,mpE] <;> cases f v <;> rfl
 | u::l,v,l',h=>by
  simp only [List.cons_append,mpE] at h ⊢
  cases hu:f u with
  | error e=>rw [hu] at h; cases h
  | ok w=>
   rw [hu] at h
   cases hl:mpE f l with
   | error e=>rw [hl] at h; cases h
   | ok r=>
    rw [hl] at h
    injection h with h; subst h
    rw [Qq5 hl]
    cases f v <;> rfl
theorem QuK {ε α β:Type} {f:α→Except ε β} {e:ε}:∀ {a:List α} {b:List α},mpE f a=.error e→mpE f (a++b)=.error e
 | [],b,h=>by simp [mpE] at h
 | u::a,b,h=>by
  simp only [List.cons_append,mpE] at h ⊢
  cases hu:f u with
  | error e'=>rw [hu] at h; exact h
  | ok w=>
   rw [hu] at h
   cases hl:mpE f a with
   | error e'=>
    rw [hl] at h
    rw [QuK (b:=b) hl]
    exact h
   | ok r=>rw [hl] at h; cases h
theorem Qgi {ε α β:Type} {f:α→Except ε β} {l:List α} {i:Nat} {l':List β} {e:ε} (hi:i < l.length) (h:mpE f (l.take i)=.ok l') (hw:f l[i]=.error e):mpE f l=.error e:=by
 have:=List.take_append_drop (i+1) l
 rw [← this]
 refine QuK ?_
 rw [Vp,Vf hi,Vo,Qq5 h,hw]
theorem Qeh {ε α β:Type} {f:α→Except ε β} {l:List α} {i:Nat} {b:List β} {w:β} (hi:i < l.length) (h:mpE f (l.take i)=.ok b) (d:f l[i]=.ok w):mpE f (l.take (i+1))=.ok (b++[w]):=by
 rw [Vp,Vf hi,Vo,Qq5 h,d]
theorem Qap {ε α β:Type} {f:α→Except ε β}:∀ {l:List α} {l':List β},mpE f l=.ok l'→l'.length=l.length
 | [],l',h=>by simp only [mpE] at h; injection h with h; subst h; rfl
 | u::l,l',h=>by
  simp only [mpE] at h
  cases hu:f u with
  | error e=>rw [hu] at h; cases h
  | ok w=>
   rw [hu] at h
   cases hl:mpE f l with
   | error e=>rw [hl] at h; cases h
   | ok r=>rw [hl] at h; injection h with h; subst h; simp [Qap hl]
theorem Qnj {T:Tl} {m:MoP} (v:ExP):exF T m v=match enF T m v.k v.n with
 | none=>.error v.p
 | some n' => match mpE (exF T m) v.a with
  | .error q=>.error q
  | .ok a'=>.ok (.mk v.p v.k n' v.v a'):=by
 obtain ⟨p,k,n,u,a⟩:=v
 rw [exF,QqP]; rfl
theorem QoG {p:Bool}:∀ {l:List ExV},exsOk p l=true ↔ ∀ w ∈ l,exOk p w=true
 | []=>by simp [exsOk]
 | v::l=>by simp [exsOk,QoG (l:=l)]
theorem QxF (s:Str):arS s≤2:=by
 unfold arS
 split
 ·omega
 ·split <;> omega
theorem Qun {p:Bool} {v:ExP} (h:exOk p v.e=true):(v.k=5→v.n.length≤65)∧v.a.length≤16∧∀ w ∈ v.a,exOk p w.e=true:=by
 rw [XK,exOk] at h
 split at h
 ·rename_i g
  simp only [Ve,Vj,List.length_map] at h
  have:v.a=[]:=List.length_eq_zero_iff.1 h.1.2
  rw [this]
  exact ⟨fun e=>by rw [g] at e; omega,by simp,fun w d=>by cases d⟩
 ·simp only [Ve,QoG,List.length_map,List.mem_map] at h
  obtain ⟨⟨b,_⟩,f⟩:=h
  refine ⟨fun e=>?_,?_,fun w d=>f _ ⟨w,d,rfl⟩⟩
  ·unfold exN at b
   rw [e] at b
   simp only [show ¬(5:Int)=2 by omega,show ¬(5:Int)=3 by omega,show ¬(5:Int)=4 by omega,if_false,if_true,Ve] at b
   exact (Qka b.1).1
  ·have i:=QxF v.n
   unfold exN at b
   split at b
   ·simp at b; rw [b.2]; simp
   ·split at b
    ·simp at b; rw [b.2]; simp
    ·split at b
     ·simp at b; omega
     ·split at b
      ·simp at b; omega
      ·split at b
       ·simp at b; omega
       ·split at b
        ·simp at b; omega
        ·split at b
         ·simp at b; omega
         ·cases b
def OwS (B X:Heap) (z:Nat) (s:Sl):Prop:=s.len=0∨∃ b c,s.p=some (b,0)∧s.x=none∧X b=some (true,.row c)∧s.len*z≤c.length∧B b=none
theorem OwS.le {B X Y:Heap} {z:Nat} {s:Sl} (h:OwS B X z s) (hle:X.le Y):OwS B Y z s:=by
 rcases h with h | ⟨b,c,d,f,g,i⟩
 ·exact .inl h
 ·exact .inr ⟨b,c,d,f,hle _ _ g,i⟩
theorem OwS.base {B F X:Heap} {z:Nat} {s:Sl} (h:OwS F X z s) (m:∀ b,F b=none→B b=none):OwS B X z s:=by
 rcases h with h | ⟨b,c,d,f,g,i,j⟩
 ·exact .inl h
 ·exact .inr ⟨b,c,d,f,g,i,m b j⟩
section
variable {α β:Type} {R:Heap→α→β→Prop} {c:β→List Value} {z:Nat} {A H H1 D:Heap} {s:Sl} {l:List α}
theorem Gr.ow (h:Gr R c z A H D s l):OwS H (Heap.nw A H D) z s:=by
 obtain ⟨xs,f,i,j⟩:=h.ex
 obtain ⟨g,hx,m,⟨hp,h0⟩ | ⟨b,o,hp,d,_⟩⟩:=f
 ·exact .inl (by omega)
 ·exact .inr ⟨b,_,hp,hx,Qla (h.fresh _ hp) d,by rw [Va,g]; omega,h.fresh _ hp⟩
theorem Gr.base (h:Gr R c z A H1 D s l) (hA:A.le H) (hle:H.le H1) (hR:∀ {X Y:Heap} {v x},X.le Y→R X v x→R Y v x):Gr R c z A H D s l:=by
 obtain ⟨xs,h1,h2,h3⟩:=h.ex
 refine ⟨fun b hb=>hle.none (h.dom b hb),h.al,fun p hp=>hle.none (h.fresh p hp),xs,h1,h2,fun i v x hv hx=>hR (fun b e hb=>?_) (h3 i v x hv hx)⟩
 unfold Heap.off at hb ⊢
 split at hb
 ·cases hb
 ·rename_i hn; rw [if_neg hn]; exact QuO hA hle b e hb
end
theorem Qwj (x:Ql):∀ u ∈ Ql.c x,u.oneCell' = true:=by
 intro u b
 simp only [Ql.c,List.mem_cons,List.mem_nil_iff,or_false] at b
 rcases b with rfl | rfl | rfl <;> rfl
theorem Qmk {s:Sl} {A B:Heap} (h:A.le B):(Heap.off s A).le (Heap.off s B):=fun y e hy=>by
 unfold Heap.off at hy ⊢
 split at hy
 ·cases hy
 ·rename_i hn; rw [if_neg hn]; exact h y e hy
section
variable {A H2 F D D2:Heap} {o:Sl} {b:Nat} {g:GO} {e0:Bool×GO}
theorem Qsw (hA:A.le H2) (hd:∀ b,F b=none→H2 b=none) (hf:Fresh H2 o) (hs:∀ q,o.p=some q→∃ e,F q.1=some e) (hb:F b=some e0) (hAb:A b=none):(Heap.nw A F D2).le (Heap.off o (Heap.nw A H2 (D2.put b g))):=fun x e hx=>by
 have hne:x≠b:=fun e'=>by
  unfold Heap.nw at hx
  rw [e',hb] at hx
  rw [hAb] at hx; cases hx
 have h1:=Qmi hA hd hf hs x e hx
 unfold Heap.off at h1 ⊢
 split at h1
 ·cases h1
 ·rename_i hn
  rw [if_neg hn]
  unfold Heap.nw at h1 ⊢
  rw [Xb _ _ _ hne]; exact h1
theorem QP (h:D.le D2) (f:D b=none) {m:Bool}:D.le (D2.put b g m):=fun x e hx=>by
 have:x≠b:=fun d=>by rw [d,f] at hx; cases hx
 rw [Xb _ _ _ this]; exact h x e hx
theorem QwZ (b:A.le H2) (f:Fresh H2 o):A.le (Heap.off o (Heap.nw A H2 D)):=fun x e hx=>Xe (QrK b x e hx) fun q g d=>by
 have:=f q g
 rw [d,b x e hx] at this; cases this
end
section
variable {C:Ctx} {A:Heap} {E:Value→HP}
theorem QpV {T:Tl} {m:MoP} {bp bm:Nat} {sl:Sl} {x:Qa} {p:Pl} (hx:x.Name=m.n) (hi:IpL A x.Imports m.im) (hn:m.n.length≤1000)
 {l:List FdV} {s:Sl} {H:Heap} {q:Qk} {K:Sl→HP} (a6:∀ f ∈ l,tyOk f.t=true) (c4:l.length≤1000) (hP:Pr H bp bm sl) (hT:TlIs H bm T) (hA:A.le H) (hs:FdL A s l) (P:q=psP p)
 (k:∀ r D l',H.le D→mpO (fdF T m) l=some l'→Gr FdIs Ql.c 3 A H D r l'→K r D) (ke:∀ D,H.le D→mpO (fdF T m) l=none→E (flt m.n p 63) D):Q2 C E (some (bp,0)) x s q K H:=by
 subst P
 apply QhZ
 unfold QeD
 refine box1N fun b1 H2 n1 _ l1 h1=>box1N fun b3 H4 n3 _ l3 h3=>?_
 have h1:=l3 _ _ h1
 have F:H.le H4:=l1.trans l3
 have B:=hA.trans F
 have O:=SlIs.len hs
 have W:∀ {X Y:Heap} {v:FdV} {x:Ql},X.le Y→FdIs X v x→FdIs Y v x:=fun h h'=>FdIs.le h h'
 refine ⟨fun y D=>H4.le D∧∃ (i:Nat) (l':List FdV),y.2=(i:Int)∧i≤l.length∧mpO (fdF T m) (l.take i)=some l'∧Gr FdIs Ql.c 3 A H4 D y.1 l',fun y _=>l.length - y.2.toNat,⟨Heap.le.refl _,0,[],rfl,Nat.zero_le _,rfl,Gr.nil (fun _ h=>h) B⟩,?_⟩
 rintro ⟨o,_⟩ D ⟨hD,i,l',rfl,a4,G,U⟩
 rw [O]
 have hlen':=QfP G
 rw [List.length_take,Nat.min_eq_left a4] at hlen'
 refine ift.of (fun h=>?_) (fun h=>?_)
 ·have I : i < l.length := by have := Vb h; first | omega | (dsimp only at this; omega)
  refine hs.ld (B.trans hD) (fun _=>rfl) (by omega) rfl I fun y hy=>?_
  intro z S
  refine nwT rfl ?_
  have R:=Xc S (g:=.row (Ql.c y)) (m:=true)
  have M:(D.put z (.row (Ql.c y))) z=some (true,.row (Ql.c y)):=Xa ..
  have j:=U.up R W
  have N:=hD.trans R
  have J:∀ q,o.p=some q→q.1≠z:=fun q P e=>by
   obtain ⟨e2,h2⟩:=U.has q P
   rw [e,S] at h2; cases h2
  generalize D.put z (.row (Ql.c y))=D2 at *
  have L:∀ {b:Nat} {e:Bool×GO},H4 b=some e→(Heap.off o D2) b=some e:=fun {b e} Z=>Xe (N b e Z) fun q P e'=>by
   have:=U.fresh q P
   rw [e',Z] at this; cases this
  refine ⟨Heap.off o D2,Xj _ _,?_⟩
  refine fS (Xe M J) rfl (bxT (c:=Qa.c) (L h1) (fT (c:=Qf.c) (x:=y.Type_) (Xe M J) (fun i v Q=>by match i,Q with | 0,Q=>exact Q | 1,Q=>exact Q) (bxT (c:=Qk.c) (L h3) ?_)))
  have u:=F.trans N
  refine Qxx hx hi hn _ (a6 _ (Vg I)) (hP.le u) (hT.le u) j.al hy.2 rfl (fun r D3 w d hw hr=>?_) (fun D3 d hw=>ke D3 (u.trans d) ?_)
  ·have a2:=j.up d W
   have a8:fdF T m l[i]=some ⟨l[i].n,w⟩:=by unfold fdF; rw [hw]
   refine ⟨(Xj _ _).trans d,?_⟩
   refine a2.lit B (x:=(⟨y.Name,r⟩:Ql)) (v:=⟨l[i].n,w⟩) (fun _=>rfl) (by omega) W rfl (Qwj _) ⟨hy.1,TyIs.le (Qmi B j.dom j.fresh j.has) _ _ hr⟩ (by omega) (by omega) (Qmk d) fun r2 D4 a3 h4 c3=>?_
   rw [Qu (by omega) (by omega)]
   exact ⟨⟨fun b e Z=>h4 b e (Qmk d b e (L Z)),i+1,l'++[⟨l[i].n,w⟩],by first | omega | (dsimp only; omega),by omega,QkS I G a8,a3⟩,by first | omega | (dsimp only; omega)⟩
  ·refine Qi3 (Vg I) ?_
   unfold fdF; rw [hw]
 ·have a5 : i = l.length := by have := Vc h; first | omega | (dsimp only at this; omega)
  subst a5
  rw [Vl] at G
  exact k _ _ _ (F.trans hD) G (U.base hA F W)
def EC (C:Ctx) (A:Heap) (E:Value→HP) (T:Tl) (m:MoP) (bp bm:Nat) (sl:Sl) (x:Qa) (l:List ExP):Prop:=
 ∀ {s:Sl} {H:Heap} {K:Sl→HP},Pr H bp bm sl→TlIs H bm T→A.le H→EpL A s l→
  (∀ r D l',H.le D→mpE (exF T m) l=.ok l'→Gr EpIs Qe.c 9 A H D r l'→K r D)→(∀ D p,H.le D→mpE (exF T m) l=.error p→E (flt m.n p 63) D)→Qav C E (some (bp,0)) x s K H
theorem QpS {T:Tl} {m:MoP} {bp bm:Nat} {sl:Sl} {x:Qa} (hx:x.Name=m.n) (hi:IpL A x.Imports m.im) (hn:m.n.length≤1000)
 {l:List ExP} (c6:∀ v ∈ l,∃ p,exOk p v.e=true) (f5:l.length≤1000) (ih:∀ v ∈ l,EC C A E T m bp bm sl x v.a):EC C A E T m bp bm sl x l:=by
 intro s H K hP hT hA hs k ke
 apply QiD
 unfold Qfi
 refine box1N fun b1 H2 n1 _ l1 h1=>?_
 have t:=hA.trans l1
 have a7:=SlIs.len hs
 have hR:∀ {X Y:Heap} {v:ExP} {x:Qe},X.le Y→EpIs X v x→EpIs Y v x:=fun h h'=>EpIs.le h _ _ h'
 refine ⟨fun y D=>H2.le D∧∃ (i:Nat) (l':List ExP),y.2=(i:Int)∧i≤l.length∧mpE (exF T m) (l.take i)=.ok l'∧Gr EpIs Qe.c 9 A H2 D y.1 l',fun y _=>l.length - y.2.toNat,⟨Heap.le.refl _,0,[],rfl,Nat.zero_le _,rfl,Gr.nil (fun _ h=>h) t⟩,?_⟩
 rintro ⟨o,_⟩ D ⟨Z,i,l',rfl,c2,M,S⟩
 rw [a7]
 have hlen':=Qap M
 rw [List.length_take,Nat.min_eq_left c2] at hlen'
 refine ift.of (fun h=>?_) (fun h=>?_)
 ·have N : i < l.length := by have := Vb h; first | omega | (dsimp only at this; omega)
  refine hs.ld (t.trans Z) (fun _=>rfl) (by omega) rfl N fun y hy=>?_
  obtain ⟨e1,e2,e3,e4,e5,e6⟩:=QfQ.1 hy
  obtain ⟨p0,a9⟩:=c6 _ (Vg N)
  obtain ⟨o1,o2,o3⟩:=Qun a9
  have c8:=@ih _ (Vg N)
  have W:=fun q=>Qgi (e:=q) N M
  have c7:=fun w=>Qeh (w:=w) N M
  generalize l[i]=v at *
  intro d z
  refine nwT rfl ?_
  have R:=Xc z (g:=.row (Qe.c y)) (m:=true)
  have J:(D.put d (.row (Qe.c y))) d=some (true,.row (Qe.c y)):=Xa ..
  have d8:∀ q,o.p=some q→q.1≠d:=fun q hq e=>by
   obtain ⟨e2,h2⟩:=S.has q hq
   rw [e,z] at h2; cases h2
  have U:=l1.trans Z
  have d6:∀ g,D.le (D.put d g):=fun g=>Xc z
  generalize f1:D.put d (.row (Qe.c y))=D2 at *
  have f:H.le D2:=U.trans R
  refine ⟨fun _ F=>∃ u,enF T m v.k v.n=some u∧D.le F∧F d=some (true,.row (Qe.c { y with Name:=u }))∧Nm u u,?_,?_⟩
  ·refine fI J rfl ?_
   refine ift.of (fun h=>?_) (fun h=>?_)
   ·have L : v.k = 5 := by rw [← e2]; simpa using h
    refine bxT (c:=Qa.c) (R _ _ (Z _ _ h1)) (fS J rfl (fPs (x:=y.Pos) J rfl rfl ?_))
    have f4:=o1 L
    refine Qq3 (hP.le f) (hT.le f) hx hi (hA.trans f) e3.1 e1 (by omega) hn (fun r F O hr=>?_) (fun F O hr=>ke F _ (f.trans O) (W _ ?_))
    ·have a3:=O _ _ J
     refine ⟨_,a3,by simp [Qe.c],r,by unfold enF; rw [if_pos L]; exact hr,?_,Xa ..,rfl,?_⟩
     ·intro b e I
      have:b≠d:=fun e'=>by rw [e',z] at I; cases I
      rw [Xb _ _ _ this]; exact O _ _ (R _ _ I)
     ·have:=Qf0 (B:=1000) (by omega) hn hr; omega
    ·rw [Qnj]
     have:enF T m v.k v.n=none:=by unfold enF; rw [if_pos L]; exact hr
     rw [this]
   ·have L : ¬ v.k = 5 := fun e => by rw [← e2] at e; rw [e] at h; simp at h
    refine ⟨v.n,by unfold enF; rw [if_neg L],R,?_,rfl,e3.2⟩
    rw [J,← e3.1]
  ·rintro _ F ⟨u,a8,O,I,c4⟩
   have Q:=U.trans O
   refine bxT (c:=Qa.c) (O _ _ (Z _ _ h1)) (fL I (j:=8) rfl ?_)
   refine c8 (hP.le Q) (hT.le Q) (hA.trans Q) e6 (fun r G la P a6 c1=>?_) (fun G q P hq=>ke G q (Q.trans P) (W _ ?_))
   ·have hb':=P _ _ I
    refine ⟨_,hb',by simp [Qe.c],?_⟩
    have hla':=Qap a6
    refine bxT (c:=Qe.c) (x:={ y with Name:=u,Args:=r }) (Xa ..) ?_
    rw [List.append_nil]
    have a1:A d=none:=(t.trans Z).none z
    have c5:∀ q,o.p=some q→∃ e,F q.1=some e:=fun q hq=>by
     obtain ⟨e,he⟩:=S.has q hq
     exact ⟨e,O _ _ he⟩
    have a5:∀ b,F b=none→H2 b=none:=fun b I=>S.dom b (O.none I)
    have b0:=Qsw (D2:=G) (g:=.row (Qe.c { y with Name:=u,Args:=r })) t a5 S.fresh c5 I a1
    have a2:D.le (G.put d (.row (Qe.c { y with Name:=u,Args:=r }))):=QP (O.trans P) z
    have b9:=S.up a2 hR
    have b8:A.le (Heap.off o (Heap.nw A H2 (G.put d (.row (Qe.c { y with Name:=u,Args:=r }))))):=QwZ t S.fresh
    show apd _ 120 o _ 1 _ (G.put d (.row (Qe.c { y with Name:=u,Args:=r })))
    refine b9.addD t (zc:=Qe.c Qe.zero) (bytes:=120) (x:={ y with Name:=u,Args:=r }) (v:=.mk v.p v.k u v.v la) (fun _=>rfl) (by omega) hR rfl (QfQ.2 ⟨e1,e2,c4,e4.le b8,e5,(c1.is (fun _=>rfl) (by omega) hR (by omega)).le b0 fun _ _ _ h=>hR b0 h⟩) (by omega) (by omega) fun r2 D4 c0 h4 f3=>?_
    rw [Qu (by omega) (by omega)]
    have hw:exF T m v=.ok (.mk v.p v.k u v.v la):=by rw [Qnj,a8,a6]
    exact ⟨⟨fun b e I=>h4 b e (Xe (a2 b e (Z b e I)) fun q hq e'=>by have:=S.fresh q hq; rw [e',I] at this; cases this),i+1,_,by first | omega | (dsimp only; omega),by omega,c7 _ hw,c0⟩,by first | omega | (dsimp only; omega)⟩
   ·rw [Qnj,a8]
    dsimp only
    rw [hq]
 ·have c3 : i = l.length := by have := Vc h; first | omega | (dsimp only at this; omega)
  subst c3
  rw [Vl] at M
  exact k _ _ _ (l1.trans Z) M (S.base hA l1 hR)
end
end
section
open Go Go.Proofs
theorem QoF {p:Bool} {a:List ExP} (h:exsOk p (a.map ExP.e)=true):∀ v ∈ a,∃ p,exOk p v.e=true:=fun v b=>⟨p,QoG.1 h _ (List.mem_map_of_mem b)⟩
theorem Qwo {v:LiP} (h:liOk v.e=true):(v.k=1∨v.k=2→v.r.length≤65)∧v.a.length≤16∧∀ w ∈ v.a,∃ p,exOk p w.e=true:=by
 unfold liOk LiP.e at h
 dsimp only at h
 rw [List.length_map] at h
 split at h
 ·simp only [Ve,Vj] at h
  exact ⟨fun _=>(Qka h.1.1).1,by omega,QoF h.2⟩
 ·rename_i hn
  split at h
  ·simp only [Ve,Vj] at h
   exact ⟨fun e=>absurd e hn,by omega,QoF h.2⟩
  ·split at h
   ·simp only [Ve,Vj] at h
    exact ⟨fun e=>absurd e hn,by omega,QoF h.2⟩
   ·cases h
section
variable {C:Ctx} {A:Heap} {E:Value→HP}
theorem Qur {T:Tl} {m:MoP} {g bm:Nat} {sl:Sl} {x:Qa} (hx:x.Name=m.n) (hi:IpL A x.Imports m.im) (hn:m.n.length≤1000) :
 ∀ v:ExP,(∃ p,exOk p v.e=true)→EC C A E T m g bm sl x v.a:=by
 refine ExP.rec_ fun v h b=>?_
 obtain ⟨p,b⟩:=b
 obtain ⟨_,i,f⟩:=Qun b
 exact QpS hx hi hn (fun w d=>⟨p,f w d⟩) (by omega) fun w d=>h w d ⟨p,f w d⟩
theorem QrE {T:Tl} {m:MoP} {f bm:Nat} {sl:Sl} {x:Qa} (hx:x.Name=m.n) (hi:IpL A x.Imports m.im) (hn:m.n.length≤1000)
 {l:List ExP} (b:∀ v ∈ l,∃ p,exOk p v.e=true) (d:l.length≤1000):EC C A E T m f bm sl x l:=
 QpS hx hi hn b d fun v g=>Qur hx hi hn v (b v g)
theorem Qt8 {T:Tl} {m:MoP} {bp bm:Nat} {sl:Sl} {x:Qa} (hx:x.Name=m.n) (hi:IpL A x.Imports m.im) (hn:m.n.length≤1000)
 {l:List LiP} (c6:∀ v ∈ l,liOk v.e=true) (e5:l.length≤1000) {s:Sl} {H:Heap} {K:Sl→HP} (hP:Pr H bp bm sl) (hT:TlIs H bm T) (hA:A.le H) (hs:LpL A s l)
 (k:∀ r D l',H.le D→mpE (liF T m) l=.ok l'→Gr LpIs Qm.c 5 A H D r l'→K r D) (ke:∀ D p,H.le D→mpE (liF T m) l=.error p→E (flt m.n p 63) D):QaD C E (some (bp,0)) x s K H:=by
 apply Qjs
 unfold QfC
 refine box1N fun b1 H2 n1 _ l1 h1=>?_
 have z:=hA.trans l1
 have a6:=SlIs.len hs
 have hR:∀ {X Y:Heap} {v:LiP} {x:Qm},X.le Y→LpIs X v x→LpIs Y v x:=fun h h'=>LpIs.le h h'
 have a2:∀ {X Y:Heap} {v:ExP} {x:Qe},X.le Y→EpIs X v x→EpIs Y v x:=fun h h'=>EpIs.le h _ _ h'
 refine ⟨fun y D=>H2.le D∧∃ (i:Nat) (l':List LiP),y.2=(i:Int)∧i≤l.length∧mpE (liF T m) (l.take i)=.ok l'∧Gr LpIs Qm.c 5 A H2 D y.1 l',fun y _=>l.length - y.2.toNat,⟨Heap.le.refl _,0,[],rfl,Nat.zero_le _,rfl,Gr.nil (fun _ h=>h) z⟩,?_⟩
 rintro ⟨o,_⟩ D ⟨U,i,l',rfl,c2,J,W⟩
 rw [a6]
 have hlen':=Qap J
 rw [List.length_take,Nat.min_eq_left c2] at hlen'
 refine ift.of (fun h=>?_) (fun h=>?_)
 ·have O : i < l.length := by have := Vb h; first | omega | (dsimp only at this; omega)
  refine hs.ld (z.trans U) (fun _=>rfl) (by omega) rfl O fun y hy=>?_
  obtain ⟨e1,e2,e3,e6⟩:=hy
  obtain ⟨o1,o2,o3⟩:=Qwo (c6 _ (Vg O))
  have S:=fun q=>Qgi (e:=q) O J
  have c7:=fun w=>Qeh (w:=w) O J
  generalize l[i]=v at *
  intro d Q
  refine nwT rfl ?_
  have P:=Xc Q (g:=.row (Qm.c y)) (m:=true)
  have t:(D.put d (.row (Qm.c y))) d=some (true,.row (Qm.c y)):=Xa ..
  have R:=l1.trans U
  generalize d8:D.put d (.row (Qm.c y))=D2 at *
  have f:H.le D2:=R.trans P
  refine ⟨fun _ F=>∃ u,lnF T m v.k v.r=some u∧D.le F∧F d=some (true,.row (Qm.c { y with Rel:=u }))∧Nm u u,?_,?_⟩
  ·refine fI t rfl ?_
   refine ⟨fun b F=>F=D2∧(b=true↔v.k=1∨v.k=2),?_,?_⟩
   ·rw [e2]
    refine ift.of (fun h=>⟨rfl,?_⟩) (fun h=>fI t rfl ⟨rfl,?_⟩)
    ·have : v.k = 1 := by simpa using h
     simp [this]
    ·have : ¬ v.k = 1 := by simpa using h
     rw [e2]; simp [this]
   ·rintro b F ⟨b7,I⟩
    subst b7
    refine ift.of (fun h=>?_) (fun h=>?_)
    ·have hk:=I.1 h
     refine bxT (c:=Qa.c) (P _ _ (U _ _ h1)) (fS t rfl (fPs (x:=y.Pos) t rfl rfl ?_))
     have e4:=o1 hk
     refine Qq3 (hP.le f) (hT.le f) hx hi (hA.trans f) e3.1 e1 (by omega) hn (fun r F L hr=>?_) (fun F L hr=>ke F _ (f.trans L) (S _ ?_))
     ·have a1:=L _ _ t
      refine ⟨_,a1,by simp [Qm.c],r,by unfold lnF; rw [if_pos hk]; exact hr,QP (P.trans L) Q,Xa ..,rfl,?_⟩
      have:=Qf0 (B:=1000) (by omega) hn hr; omega
     ·unfold liF
      have:lnF T m v.k v.r=none:=by unfold lnF; rw [if_pos hk]; exact hr
      rw [this]
    ·have hk : ¬ (v.k = 1 ∨ v.k = 2) := fun e => by rw [I.2 e] at h; cases h
     refine ⟨v.r,by unfold lnF; rw [if_neg hk],P,?_,rfl,e3.2⟩
     rw [t,← e3.1]
  ·rintro _ F ⟨u,a7,L,I,c4⟩
   have N:=R.trans L
   refine bxT (c:=Qa.c) (L _ _ (U _ _ h1)) (fL I (j:=4) rfl ?_)
   refine QrE hx hi hn o3 (by omega) (hP.le N) (hT.le N) (hA.trans N) e6 (fun r G la M a5 c0=>?_) (fun G q M hq=>ke G q (N.trans M) (S _ ?_))
   ·have hb':=M _ _ I
    refine ⟨_,hb',by simp [Qm.c],?_⟩
    have hla':=Qap a5
    refine bxT (c:=Qm.c) (x:={ y with Rel:=u,Args:=r }) (Xa ..) ?_
    rw [List.append_nil]
    have Z:A d=none:=(z.trans U).none Q
    have c5:∀ q,o.p=some q→∃ e,F q.1=some e:=fun q hq=>by
     obtain ⟨e,he⟩:=W.has q hq
     exact ⟨e,L _ _ he⟩
    have a3:∀ b,F b=none→H2 b=none:=fun b I=>W.dom b (L.none I)
    have a9:=Qsw (D2:=G) (g:=.row (Qm.c { y with Rel:=u,Args:=r })) z a3 W.fresh c5 I Z
    have a0:D.le (G.put d (.row (Qm.c { y with Rel:=u,Args:=r }))):=QP (L.trans M) Q
    have b8:=W.up a0 hR
    show apd _ 64 o _ 1 _ (G.put d (.row (Qm.c { y with Rel:=u,Args:=r })))
    refine b8.addD z (zc:=Qm.c Qm.zero) (bytes:=64) (x:={ y with Rel:=u,Args:=r }) (v:=⟨v.p,v.k,u,la⟩) (fun _=>rfl) (by omega) hR rfl ⟨e1,e2,c4,(c0.is (fun _=>rfl) (by omega) a2 (by omega)).le a9 fun _ _ _ h=>a2 a9 h⟩ (by omega) (by omega) fun r2 D4 b9 h4 e0=>?_
    rw [Qu (by omega) (by omega)]
    have hw:liF T m v=.ok ⟨v.p,v.k,u,la⟩:=by unfold liF; rw [a7]; dsimp only; rw [a5]
    exact ⟨⟨fun b e I=>h4 b e (Xe (a0 b e (U b e I)) fun q hq e'=>by have:=W.fresh q hq; rw [e',I] at this; cases this),i+1,_,by first | omega | (dsimp only; omega),by omega,c7 _ hw,b9⟩,by first | omega | (dsimp only; omega)⟩
   ·unfold liF
    rw [a7]
    dsimp only
    rw [hq]
 ·have c3 : i = l.length := by have := Vc h; first | omega | (dsimp only at this; omega)
  subst c3
  rw [Vl] at J
  exact k _ _ _ (l1.trans U) J (W.base hA l1 hR)
end
end
section
open Go Go.Proofs
def bk (s:Sl):List Nat:=match s.p with
 | none=>[]
 | some p=>[p.1]
theorem Qgn {s:Sl} {b:Nat}:b ∈ bk s ↔ ∃ p,s.p=some p∧p.1=b:=by
 unfold bk
 cases s.p with
 | none=>simp
 | some p=>simp [eq_comm]
def offB (X:List Nat) (H:Heap):Heap:=fun b=>if X.contains b=true then none else H b
theorem Qi5 (X:List Nat) (H:Heap):(offB X H).le H:=fun b e h=>by
 unfold offB at h
 split at h
 ·cases h
 ·exact h
theorem Qq7 {X:List Nat} {H:Heap} {b:Nat} {e:Bool×GO} (h:offB X H b=some e):b ∉ X:=fun hm=>by
 unfold offB at h
 rw [if_pos (List.contains_iff_mem.2 hm)] at h; cases h
theorem Qmj {X:List Nat} {H:Heap} {b:Nat} {e:Bool×GO} (h:H b=some e) (d:b ∉ X):offB X H b=some e:=by
 unfold offB
 rw [if_neg (fun hm=>d (List.contains_iff_mem.1 hm))]; exact h
section
variable {A B F G D D2:Heap} {X X2:List Nat}
theorem QdT (h:D.le D2):(offB X (Heap.nw A B D)).le (offB X (Heap.nw A B D2)):=fun b e d=>Qmj (QtJ h b e (Qi5 _ _ b e d)) (Qq7 d)
theorem QlW (hA:A.le B) (hd:∀ b,F b=none→B b=none) (hX:∀ b ∈ X,(∃ e,F b=some e)∧A b=none):(Heap.nw A F G).le (offB X (Heap.nw A B G)):=fun b e hb=>by
 refine Qmj ?_ fun hm=>?_
 ·rcases QgK hb with ⟨q,q2⟩ | q
  ·exact Qla (hd b q) q2
  ·exact QrK hA b e q
 ·obtain ⟨⟨e2,h2⟩,h3⟩:=hX b hm
  rcases QgK hb with ⟨q,_⟩ | q
  ·rw [h2] at q; cases q
  ·rw [h3] at q; cases q
theorem Qi4 {b:Nat} {g:GO} {e0:Bool×GO} (hA:A.le B) (hd:∀ b,F b=none→B b=none) (hX:∀ b ∈ X,(∃ e,F b=some e)∧A b=none) (hb:F b=some e0) (hAb:A b=none):(Heap.nw A F G).le (offB X (Heap.nw A B (G.put b g))):=fun x e hx=>by
 have hne:x≠b:=fun e'=>by
  unfold Heap.nw at hx
  rw [e',hb] at hx
  rw [hAb] at hx; cases hx
 have h1:=QlW hA hd hX x e hx
 have h2:=Qq7 h1
 have h3:=Qi5 _ _ _ _ h1
 refine Qmj ?_ h2
 unfold Heap.nw at h3 ⊢
 rw [Xb _ _ _ hne]; exact h3
end
def Gq {α β:Type} (R:Heap→α→β→Prop) (c:β→List Value) (z:Nat) (Z D:Heap) (s:Sl) (l:List α):Prop:=
 ∃ xs:List β,Own D z s (xs.flatMap c)∧l.length=xs.length∧∀ (i:Nat) (v:α) (x:β),l[i]? = some v→xs[i]? = some x→R Z v x
section
variable {α β:Type} {R:Heap→α→β→Prop} {c:β→List Value} {z:Nat} {Z Z2 A B D D2:Heap} {s r t:Sl} {l:List α} {v:α} {x:β}
theorem QoH {xs:List β} (b:∀ x,(c x).length=z):(xs.flatMap c).length=xs.length*z:=by
 induction xs with
 | nil=>simp
 | cons a xs d=>simp only [List.flatMap_cons,Va,d,b,Vd,Nat.add_mul]; omega
theorem Gq.len (h:Gq R c z Z D s l) (f:∀ x,(c x).length=z) (b:0 < z):s.len=l.length:=by
 obtain ⟨xs,d,g,i⟩:=h
 have:=d.1
 rw [QoH f] at this
 have:=Nat.eq_of_mul_eq_mul_right b this
 omega
theorem Gq.has (h:Gq R c z Z D s l):∀ b ∈ bk s,∃ e,D b=some e:=fun b f=>by
 obtain ⟨p,hp,rfl⟩:=Qgn.1 f
 obtain ⟨xs,d,_⟩:=h
 obtain ⟨g,hg⟩:=d.mine hp
 exact ⟨_,hg⟩
theorem Gq.mono (h:Gq R c z Z D s l) (j:∀ b ∈ bk s,∀ e,D b=some e→D2 b=some e) (o:Z.le Z2) (m:∀ {X Y:Heap} {v x},X.le Y→R X v x→R Y v x):Gq R c z Z2 D2 s l:=by
 obtain ⟨xs,⟨t,hx,r,h0⟩,f,g⟩:=h
 refine ⟨xs,⟨t,hx,r,?_⟩,f,fun i v x u hx=>m o (g i v x u hx)⟩
 rcases h0 with h0 | ⟨b,y,hp,q,d⟩
 ·exact .inl h0
 ·exact .inr ⟨b,y,hp,j b (Qgn.2 ⟨_,hp,rfl⟩) _ q,d⟩
theorem Gq.nil {Z D:Heap}:Gq R c z Z D Sl.nil ([]:List α):=⟨[],Own.nil _ _,rfl,fun i v x h=>by simp at h⟩
theorem Gq.add (h:Gq R c z Z D s l) (hz:∀ x,(c x).length=z) (hz0:0 < z) {zc:List Value} (hzc:zc.length=z) {bytes:Nat} {K:Sl→HP} (hb:(l.length+1)*bytes≤140737488355328) (hl:l.length+1≤140737488355328)
 (k:∀ r D2,(∀ Z2,(∀ (i:Nat) (v:α) (x:β),R Z v x→R Z2 v x)→R Z2 v x→Gq R c z Z2 D2 r (l++[v]))→(Heap.off s D).le D2→Fresh (Heap.off s D) r→K r D2):apd zc bytes s (c x) 1 K D:=by
 have hlen:=h.len hz hz0
 obtain ⟨xs,g1,g2,g3⟩:=h
 subst hzc
 refine Qmb g1.off (by rw [hz,Nat.one_mul]) (by rw [hlen]; exact hb) (by rw [hlen]; omega) fun r D2 ho hr=>?_
 refine k r D2 (fun Z2 hZ hv=>⟨xs++[x],?_,by simp [g2],fun i v' x' hv' hx'=>?_⟩) ho.le ho.fresh
 ·have e : (xs ++ [x]).flatMap c = xs.flatMap c ++ c x := by simp
  rw [e]; exact ho.own
 ·by_cases hi:i < l.length
  ·rw [List.getElem?_append_left hi] at hv'
   rw [List.getElem?_append_left (by omega)] at hx'
   exact hZ i _ _ (g3 i v' x' hv' hx')
  ·have hl1:=(List.getElem?_eq_some_iff.1 hv').1
   simp only [Va,Vd,Vk] at hl1
   have:i=l.length:=by omega
   subst this
   rw [List.getElem?_append_right (Nat.le_refl _)] at hv'
   rw [List.getElem?_append_right (by omega)] at hx'
   simp at hv'
   rw [show l.length - xs.length=0 by omega] at hx'
   simp at hx'
   subst hv'; subst hx'
   exact hv
end
def TpO (B Z:Heap) (v:TdP) (x:Qd):Prop:=TpIs Z v x∧OwS B Z 1 x.Params∧OwS B Z 2 x.Cons
def RpO (B Z:Heap) (v:RdP) (x:Qh):Prop:=RpIs Z v x∧OwS B Z 3 x.Fields
def UpO (B Z:Heap) (v:RuP) (x:Qi):Prop:=UpIs Z v x∧OwS B Z 9 x.Args∧OwS B Z 1 x.Aggs∧OwS B Z 5 x.Body
theorem TpO.le {B X Y:Heap} {v x} (h:X.le Y) (b:TpO B X v x):TpO B Y v x:=⟨TpIs.le h b.1,b.2.1.le h,b.2.2.le h⟩
theorem RpO.le {B X Y:Heap} {v x} (h:X.le Y) (b:RpO B X v x):RpO B Y v x:=⟨RpIs.le h b.1,b.2.le h⟩
theorem UpO.le {B X Y:Heap} {v x} (h:X.le Y) (b:UpO B X v x):UpO B Y v x:=⟨UpIs.le h b.1,b.2.1.le h,b.2.2.1.le h,b.2.2.2.le h⟩
abbrev blks (q:Qa):List Nat:=bk q.Types++(bk q.Rels++(bk q.Rules++bk q.Nevers))
structure Out (A B W D:Heap) (bo:Nat) (q:Qa) (o:MoP):Prop where
 dom:∀ b,D b=none→B b=none
 ab:A.le B
 aw:A.le W
 wle:W.le D
 at_:D bo=some (true,.row (Qa.c q))
 bB:∃ e,B bo=some e
 wo:W bo=none
 nd:(blks q).Nodup
 fr:∀ b ∈ blks q,B b=none∧W b=none
 nm:q.Name=o.n∧q.Imports=Sl.nil∧o.im=[]
 gt:Gq (TpO B) Qd.c 6 (offB (blks q) (Heap.nw A B D)) D q.Types o.ty
 gr:Gq (RpO B) Qh.c 6 (offB (blks q) (Heap.nw A B D)) D q.Rels o.re
 gu:Gq (UpO B) Qi.c 6 (offB (blks q) (Heap.nw A B D)) D q.Rules o.ru
 gn:Gq NpIs Qo.c 4 (offB (blks q) (Heap.nw A B D)) D q.Nevers o.ne
section
variable {A B W W2 D D2:Heap} {bo:Nat} {q:Qa} {o:MoP}
theorem Out.has (h:Out A B W D bo q o):∀ b ∈ blks q,∃ e,D b=some e:=fun b d=>by
 rcases List.mem_append.1 d with d | d
 ·exact h.gt.has b d
 rcases List.mem_append.1 d with d | d
 ·exact h.gr.has b d
 rcases List.mem_append.1 d with d | d
 ·exact h.gu.has b d
 ·exact h.gn.has b d
theorem Out.al (h:Out A B W D bo q o):A.le D:=h.aw.trans h.wle
theorem Out.bx (h:Out A B W D bo q o):bo ∉ blks q:=fun hm=>by
 obtain ⟨e,b⟩:=h.bB
 rw [(h.fr _ hm).1] at b; cases b
theorem Out.xA (h:Out A B W D bo q o):∀ b ∈ blks q,A b=none:=fun b d=>h.ab.none (h.fr b d).1
theorem Out.up (h:Out A B W D bo q o) (hle:D.le D2):Out A B W D2 bo q o:=
 ⟨fun b hb => h.dom b (hle.none hb), h.ab, h.aw, h.wle.trans hle, hle _ _ h.at_, h.bB, h.wo, h.nd, h.fr, h.nm,
  h.gt.mono (fun b _ e hb=>hle b e hb) (QdT hle) TpO.le,h.gr.mono (fun b _ e hb=>hle b e hb) (QdT hle) RpO.le,h.gu.mono (fun b _ e hb=>hle b e hb) (QdT hle) UpO.le,h.gn.mono (fun b _ e hb=>hle b e hb) (QdT hle) (fun h h'=>NpIs.le h h')⟩
theorem Out.keep (h:Out A B W D bo q o) {W2:Heap} (h1:A.le W2) (h2:W2.le D) (h3:W2 bo=none) (h4:∀ b ∈ blks q,W2 b=none):Out A B W2 D bo q o:=
 ⟨h.dom,h.ab,h1,h2,h.at_,h.bB,h3,h.nd,fun b hb=>⟨(h.fr b hb).1,h4 b hb⟩,h.nm,h.gt,h.gr,h.gu,h.gn⟩
structure Turn (q q2:Qa) (s r:Sl) (D D2:Heap):Prop where
 le:(Heap.off s D).le D2
 fr:Fresh (Heap.off s D) r
 sub:∀ b ∈ bk s,b ∈ blks q
 old:∀ b ∈ blks q2,b ∈ bk r∨b ∈ blks q∧b ∉ bk s
 new:∀ b ∈ bk r,b ∈ blks q2
theorem Xv {s r:Sl} {m:Qa} (h:Out A B W D bo q o) (g:Turn q m s r D D2):(offB (blks q) (Heap.nw A B D)).le (offB (blks m) (Heap.nw A B D2)):=fun b e j=>by
 have hx:=Qq7 j
 have f:=Qi5 _ _ _ _ j
 have u:D b=some e:=Qk9 h.al b e f
 have z:b ∉ bk s:=fun hm=>hx (g.sub b hm)
 have d:(Heap.off s D) b=some e:=Xe u fun p hp t=>z (Qgn.2 ⟨p,hp,t⟩)
 refine Qmj ?_ fun hm=>?_
 ·rcases QgK f with ⟨i,_⟩ | i
  ·exact Qla i (g.le b e d)
  ·exact QrK h.ab b e i
 ·rcases g.old b hm with y | ⟨x,_⟩
  ·obtain ⟨p,hp,rfl⟩:=Qgn.1 y
   have:=g.fr p hp
   rw [d] at this; cases this
  ·exact hx x
theorem Turn.keeps {s r:Sl} {i:Qa} (g:Turn q i s r D D2) {b:Nat} {e:Bool×GO} (f:b ∉ bk s) (h:D b=some e):D2 b=some e:=
 g.le b e (Xe h fun p hp d=>f (Qgn.2 ⟨p,hp,d⟩))
theorem Turn.fresh {s r:Sl} {g:Qa} (h:Out A B W D bo q o) (f:Turn q g s r D D2):∀ b ∈ blks g,B b=none∧W b=none:=fun b j=>by
 rcases f.old b j with t | ⟨m,_⟩
 ·obtain ⟨p,hp,rfl⟩:=Qgn.1 t
  have h0:=f.fr p hp
  by_cases hs:p.1 ∈ bk s
  ·exact h.fr _ (f.sub _ hs)
  ·cases hd:D p.1 with
   | none=>exact ⟨h.dom _ hd,h.wle.none hd⟩
   | some e=>
    rw [Xe hd fun u d i=>hs (Qgn.2 ⟨u,d,i⟩)] at h0; cases h0
 ·exact h.fr b m
theorem Turn.dom {s r:Sl} {g:Qa} (h:Out A B W D bo q o) (f:Turn q g s r D D2):∀ b,D2 b=none→B b=none:=fun b d=>by
 by_cases hs:b ∈ bk s
 ·exact (h.fr b (f.sub b hs)).1
 ·cases hd:D b with
  | none=>exact h.dom b hd
  | some e=>rw [f.keeps hs hd] at d; cases d
theorem Turn.w {s r:Sl} {i:Qa} (h:Out A B W D bo q o) (f:Turn q i s r D D2):W.le D2:=fun b e d=>f.keeps (fun g=>by rw [(h.fr b (f.sub b g)).2] at d; cases d) (h.wle b e d)
theorem Qq6 {a b c d r s:List Nat} {D:Heap} (hr:r.length≤1) (h:(a++(b++(c++d))).Nodup) (hf:∀ x ∈ r,x ∈ s∨(x ∉ a∧x ∉ b∧x ∉ c∧x ∉ d)):(s=a→(r++(b++(c++d))).Nodup)∧(s=b→(a++(r++(c++d))).Nodup)∧(s=c→(a++(b++(r++d))).Nodup)∧(s=d→(a++(b++(c++r))).Nodup):=by
 have hrn:r.Nodup:=by
  match r,hr with
  | [],_=>exact List.nodup_nil
  | [x],_=>simp
 simp only [List.nodup_append,List.mem_append] at h ⊢
 obtain ⟨ha,⟨hb,⟨hc,hd,h1⟩,h2⟩,h3⟩:=h
 refine ⟨fun e=>?_,fun e=>?_,fun e=>?_,fun e=>?_⟩ <;> subst e
 ·refine ⟨hrn, ⟨hb, ⟨hc, hd, h1⟩, h2⟩, fun x hx y hy => ?_⟩
  rcases hf x hx with hs | hs
  ·exact h3 x hs y hy
  ·intro e; subst e; rcases hy with hy | hy | hy
   ·exact hs.2.1 hy
   ·exact hs.2.2.1 hy
   ·exact hs.2.2.2 hy
 ·refine ⟨ha, ⟨hrn, ⟨hc, hd, h1⟩, fun x hx y hy => ?_⟩, fun x hx y hy => ?_⟩
  ·rcases hf x hx with hs | hs
   ·exact h2 x hs y hy
   ·intro e; subst e; rcases hy with hy | hy
    ·exact hs.2.2.1 hy
    ·exact hs.2.2.2 hy
  ·rcases hy with hy | hy
   ·rcases hf y hy with hs | hs
    ·exact h3 x hx y (.inl hs)
    ·intro e; subst e; exact hs.1 hx
   ·exact h3 x hx y (.inr hy)
 ·refine ⟨ha, ⟨hb, ⟨hrn, hd, fun x hx y hy => ?_⟩, fun x hx y hy => ?_⟩, fun x hx y hy => ?_⟩
  ·rcases hf x hx with hs | hs
   ·exact h1 x hs y hy
   ·intro e; subst e; exact hs.2.2.2 hy
  ·rcases hy with hy | hy
   ·rcases hf y hy with hs | hs
    ·exact h2 x hx y (.inl hs)
    ·intro e; subst e; exact hs.2.1 hx
   ·exact h2 x hx y (.inr hy)
  ·rcases hy with hy | hy | hy
   ·exact h3 x hx y (.inl hy)
   ·rcases hf y hy with hs | hs
    ·exact h3 x hx y (.inr (.inl hs))
    ·intro e; subst e; exact hs.1 hx
   ·exact h3 x hx y (.inr (.inr hy))
 ·refine ⟨ha, ⟨hb, ⟨hc, hrn, fun x hx y hy => ?_⟩, fun x hx y hy => ?_⟩, fun x hx y hy => ?_⟩
  ·rcases hf y hy with hs | hs
   ·exact h1 x hx y hs
   ·intro e; subst e; exact hs.2.2.1 hx
  ·rcases hy with hy | hy
   ·exact h2 x hx y (.inl hy)
   ·rcases hf y hy with hs | hs
    ·exact h2 x hx y (.inr hs)
    ·intro e; subst e; exact hs.2.1 hx
  ·rcases hy with hy | hy | hy
   ·exact h3 x hx y (.inl hy)
   ·exact h3 x hx y (.inr (.inl hy))
   ·rcases hf y hy with hs | hs
    ·exact h3 x hx y (.inr (.inr hs))
    ·intro e; subst e; exact hs.1 hx
end
end
section
open Go Go.Proofs
theorem QhR {A B D:Heap} {bo:Nat} {g:GO} (h:∃ e,B bo=some e):Heap.nw A B (D.put bo g)=Heap.nw A B D:=by
 funext x
 unfold Heap.nw
 cases hh:B x with
 | none=>
  obtain ⟨e,d⟩:=h
  have:x≠bo:=fun b=>by rw [b,d] at hh; cases hh
  exact Xb _ _ _ this
 | some _=>rfl
theorem QsO (s:Sl):(bk s).length≤1:=by unfold bk; cases s.p <;> simp
section
variable {A B W D D2:Heap} {bo:Nat} {q:Qa} {o:MoP}
theorem Out.ndf {s r:Sl} (h:Out A B W D bo q o) (g:Fresh (Heap.off s D) r) (j:bk s=bk q.Types∨bk s=bk q.Rels∨bk s=bk q.Rules∨bk s=bk q.Nevers) :
 ∀ x ∈ bk r,x ∈ bk s∨(x ∉ bk q.Types∧x ∉ bk q.Rels∧x ∉ bk q.Rules∧x ∉ bk q.Nevers):=fun x hx=>by
 by_cases hxs:x ∈ bk s
 ·exact .inl hxs
 ·refine .inr ?_
  obtain ⟨p,hp,rfl⟩:=Qgn.1 hx
  have h0:=g p hp
  have hn:D p.1=none:=by
   cases hd:D p.1 with
   | none=>rfl
   | some e=>rw [Xe hd fun i d f=>hxs (Qgn.2 ⟨i,d,f⟩)] at h0; cases h0
  refine ⟨fun hm=>?_,fun hm=>?_,fun hm=>?_,fun hm=>?_⟩
  ·obtain ⟨e,b⟩:=h.gt.has _ hm; rw [hn] at b; cases b
  ·obtain ⟨e,b⟩:=h.gr.has _ hm; rw [hn] at b; cases b
  ·obtain ⟨e,b⟩:=h.gu.has _ hm; rw [hn] at b; cases b
  ·obtain ⟨e,b⟩:=h.gn.has _ hm; rw [hn] at b; cases b
theorem Out.turnT (h:Out A B W D bo q o) {r:Sl} (hle:(Heap.off q.Types D).le D2) (g:Fresh (Heap.off q.Types D) r):Turn q { q with Types:=r } q.Types r D D2:=by
 have f:=h.nd
 refine ⟨hle,g,fun b d=>Vi _ d,fun b d=>?_,fun b d=>Vi _ d⟩
 simp only [List.nodup_append,List.mem_append] at f
 obtain ⟨_,⟨_,⟨_,_,n1⟩,n2⟩,n3⟩:=f
 simp only [blks,List.mem_append] at d ⊢
 rcases d with d | d | d | d
 ·exact .inl d
 ·exact .inr ⟨.inr (.inl d),fun hm=>n3 b hm b (.inl d) rfl⟩
 ·exact .inr ⟨.inr (.inr (.inl d)),fun hm=>n3 b hm b (.inr (.inl d)) rfl⟩
 ·exact .inr ⟨.inr (.inr (.inr d)),fun hm=>n3 b hm b (.inr (.inr d)) rfl⟩
theorem QrP {D Hs : Heap} {s : Sl} {zc cs : List Value} {bytes : Nat} {K : Sl → Heap → Prop} (i : Hs.le (Heap.off s D)) (f : ∀ u ∈ cs, u.oneCell' = true) (k : ∀ D1, D.le D1 → (Heap.off s D).le (Heap.off s D1) → apd zc bytes s cs 1 (fun r H97 => Heap.le Hs H97 ∧ K r H97) D1) :
 nw (cs++[]) (fun b H94=>Heap.le Hs H94∧apS zc bytes s (Sl.of (some (b,0)) 1 1) (fun r H97=>Heap.le Hs H97∧K r H97) H94) D:=by
 intro b n
 rw [List.append_nil]
 have d:=Xc n (g:=.row cs) (m:=true)
 exact ⟨(i.trans (Xj _ _)).trans d,_,.inr ⟨rfl,(b,0),rfl,QhT (Xa ..) fun j u h=>by rw [Nat.zero_add]; exact h⟩,f,k _ d (Qmk d)⟩
theorem Out.setT (h:Out A B W D bo q o) {r:Sl} {l:List TdP} {K:HP} (hle:(Heap.off q.Types D).le D2) (hf:Fresh (Heap.off q.Types D) r) (hadd:∀ Z2,(offB (blks q) (Heap.nw A B D)).le Z2→Gq (TpO B) Qd.c 6 Z2 D2 r l)
 (k:∀ D3,Out A B W D3 bo { q with Types:=r } { o with ty:=l }→(offB (blks q) (Heap.nw A B D)).le (offB (blks { q with Types:=r }) (Heap.nw A B D3))→K D3):st (bo,2) (slv r) K D2:=by
 have ht:=h.turnT hle hf
 refine ⟨_,ht.keeps (fun hm=>h.bx (ht.sub _ hm)) h.at_,by simp [Qa.c],k _ ?_ (by rw [QhR h.bB]; exact Xv h ht)⟩
 have hreg:=Xv h ht
 have hfr:=Turn.fresh h ht
 have hbo:bo ∉ blks { q with Types:=r }:=fun hm=>by
  obtain ⟨e,he⟩:=h.bB
  rw [(hfr _ hm).1] at he; cases he
 have hput:∀ {b:Nat} {e:Bool×GO} {g:GO},b ∈ blks { q with Types:=r }→D2 b=some e→(D2.put bo g) b=some e:=fun {b e g} hm hb=>by
  have hne:b≠bo:=fun e'=>hbo (by rw [← e']; exact hm)
  rw [Xb _ _ _ hne]; exact hb
 refine ⟨Xs (Turn.dom h ht),h.ab,h.aw,QP (Turn.w h ht) h.wo,Xa ..,h.bB,h.wo,(Qq6 (D:=D) (QsO r) h.nd (h.ndf hf (.inl rfl))).1 rfl,hfr,h.nm,?_,?_,?_,?_⟩
 ·show Gq _ _ _ (offB _ (Heap.nw A B (D2.put bo _))) _ _ _
  rw [QhR h.bB]
  exact (hadd _ hreg).mono (fun b hb e he=>hput (Vi _ hb) he) (Heap.le.refl _) TpO.le
 ·show Gq _ _ _ (offB _ (Heap.nw A B (D2.put bo _))) _ _ _
  rw [QhR h.bB]
  refine h.gr.mono (fun b hb e he=>hput (Vh _ (Vi _ hb)) (ht.keeps (fun hm=>?_) he)) hreg RpO.le
  have hnd:=h.nd
  simp only [List.nodup_append,List.mem_append] at hnd
  obtain ⟨_,⟨_,⟨_,_,n1⟩,n2⟩,n3⟩:=hnd
  exact n3 b hm b (.inl hb) rfl
 ·show Gq _ _ _ (offB _ (Heap.nw A B (D2.put bo _))) _ _ _
  rw [QhR h.bB]
  refine h.gu.mono (fun b hb e he=>hput (Vh _ (Vh _ (Vi _ hb))) (ht.keeps (fun hm=>?_) he)) hreg UpO.le
  have hnd:=h.nd
  simp only [List.nodup_append,List.mem_append] at hnd
  obtain ⟨_,⟨_,⟨_,_,n1⟩,n2⟩,n3⟩:=hnd
  exact n3 b hm b (.inr (.inl hb)) rfl
 ·show Gq _ _ _ (offB _ (Heap.nw A B (D2.put bo _))) _ _ _
  rw [QhR h.bB]
  refine h.gn.mono (fun b hb e he=>hput (Vh _ (Vh _ (Vh _ hb))) (ht.keeps (fun hm=>?_) he)) hreg (fun h h'=>NpIs.le h h')
  have hnd:=h.nd
  simp only [List.nodup_append,List.mem_append] at hnd
  obtain ⟨_,⟨_,⟨_,_,n1⟩,n2⟩,n3⟩:=hnd
  exact n3 b hm b (.inr (.inr hb)) rfl
theorem Out.addTd (h:Out A B W D bo q o) {v:TdP} {x:Qd} {K:Sl→HP} (g:TpO B (offB (blks q) (Heap.nw A B D)) v x) (j:o.ty.length≤1000000)
 (k:∀ r D2,(Heap.off q.Types D).le D2→(∀ {K:HP},(∀ D3,Out A B W D3 bo { q with Types:=r } { o with ty:=o.ty++[v] }→K D3)→st (bo,2) (slv r) K D2)→K r D2):apd (Qd.c Qd.zero) 88 q.Types (Qd.c x) 1 K D:=
 h.gt.add (v:=v) (fun _=>rfl) (by omega) rfl (by omega) (by omega) fun r D2 b hle f=>k r D2 hle fun k=>h.setT hle f (fun Z2 d=>b Z2 (fun i v x=>TpO.le d) (TpO.le d g)) fun D3 hO _=>k D3 hO
theorem Out.addT (h:Out A B W D bo q o) {v:TdP} {x:Qd} {Hs:Heap} {K:HP} (g:Hs.le (Heap.off q.Types D)) (j:∀ u ∈ Qd.c x,u.oneCell' = true) (t:TpO B (offB (blks q) (Heap.nw A B D)) v x) (m:o.ty.length≤1000000)
 (k:∀ r D3,Out A B W D3 bo { q with Types:=r } { o with ty:=o.ty++[v] }→K D3) :
 nw (Qd.c x++[]) (fun b H94=>Heap.le Hs H94∧apS (Qd.c Qd.zero) 88 q.Types (Sl.of (some (b,0)) 1 1) (fun r H97=>Heap.le Hs H97∧nck (some (bo,0)) fun p98=>st (p98.1,p98.2+2) (slv r) (fun H100=>K H100) H97) H94) D:=
 QrP g j fun y i d=>(h.up i).addTd (TpO.le (QdT i) t) m fun r D2 hle f=>⟨(g.trans d).trans hle,_,rfl,f fun D3 hO=>k r D3 hO⟩
theorem Out.turnR (h:Out A B W D bo q o) {r:Sl} (hle:(Heap.off q.Rels D).le D2) (g:Fresh (Heap.off q.Rels D) r):Turn q { q with Rels:=r } q.Rels r D D2:=by
 have f:=h.nd
 refine ⟨hle,g,fun b d=>Vh _ (Vi _ d),fun b d=>?_,fun b d=>Vh _ (Vi _ d)⟩
 simp only [List.nodup_append,List.mem_append] at f
 obtain ⟨_,⟨_,⟨_,_,n1⟩,n2⟩,n3⟩:=f
 simp only [blks,List.mem_append] at d ⊢
 rcases d with d | d | d | d
 ·exact .inr ⟨.inl d,fun hm=>n3 b d b (.inl hm) rfl⟩
 ·exact .inl d
 ·exact .inr ⟨.inr (.inr (.inl d)),fun hm=>n2 b hm b (.inl d) rfl⟩
 ·exact .inr ⟨.inr (.inr (.inr d)),fun hm=>n2 b hm b (.inr d) rfl⟩
theorem Out.setR (h:Out A B W D bo q o) {r:Sl} {l:List RdP} {K:HP} (hle:(Heap.off q.Rels D).le D2) (hf:Fresh (Heap.off q.Rels D) r) (hadd:∀ Z2,(offB (blks q) (Heap.nw A B D)).le Z2→Gq (RpO B) Qh.c 6 Z2 D2 r l)
 (k:∀ D3,Out A B W D3 bo { q with Rels:=r } { o with re:=l }→(offB (blks q) (Heap.nw A B D)).le (offB (blks { q with Rels:=r }) (Heap.nw A B D3))→K D3):st (bo,3) (slv r) K D2:=by
 have ht:=h.turnR hle hf
 refine ⟨_,ht.keeps (fun hm=>h.bx (ht.sub _ hm)) h.at_,by simp [Qa.c],k _ ?_ (by rw [QhR h.bB]; exact Xv h ht)⟩
 have hreg:=Xv h ht
 have hfr:=Turn.fresh h ht
 have hbo:bo ∉ blks { q with Rels:=r }:=fun hm=>by
  obtain ⟨e,he⟩:=h.bB
  rw [(hfr _ hm).1] at he; cases he
 have hput:∀ {b:Nat} {e:Bool×GO} {g:GO},b ∈ blks { q with Rels:=r }→D2 b=some e→(D2.put bo g) b=some e:=fun {b e g} hm hb=>by
  have hne:b≠bo:=fun e'=>hbo (by rw [← e']; exact hm)
  rw [Xb _ _ _ hne]; exact hb
 refine ⟨Xs (Turn.dom h ht),h.ab,h.aw,QP (Turn.w h ht) h.wo,Xa ..,h.bB,h.wo,(Qq6 (D:=D) (QsO r) h.nd (h.ndf hf (.inr (.inl rfl)))).2.1 rfl,hfr,h.nm,?_,?_,?_,?_⟩
 ·show Gq _ _ _ (offB _ (Heap.nw A B (D2.put bo _))) _ _ _
  rw [QhR h.bB]
  refine h.gt.mono (fun b hb e he=>hput (Vi _ hb) (ht.keeps (fun hm=>?_) he)) hreg TpO.le
  have hnd:=h.nd
  simp only [List.nodup_append,List.mem_append] at hnd
  obtain ⟨_,⟨_,⟨_,_,n1⟩,n2⟩,n3⟩:=hnd
  exact n3 b hb b (.inl hm) rfl
 ·show Gq _ _ _ (offB _ (Heap.nw A B (D2.put bo _))) _ _ _
  rw [QhR h.bB]
  exact (hadd _ hreg).mono (fun b hb e he=>hput (Vh _ (Vi _ hb)) he) (Heap.le.refl _) RpO.le
 ·show Gq _ _ _ (offB _ (Heap.nw A B (D2.put bo _))) _ _ _
  rw [QhR h.bB]
  refine h.gu.mono (fun b hb e he=>hput (Vh _ (Vh _ (Vi _ hb))) (ht.keeps (fun hm=>?_) he)) hreg UpO.le
  have hnd:=h.nd
  simp only [List.nodup_append,List.mem_append] at hnd
  obtain ⟨_,⟨_,⟨_,_,n1⟩,n2⟩,n3⟩:=hnd
  exact n2 b hm b (.inl hb) rfl
 ·show Gq _ _ _ (offB _ (Heap.nw A B (D2.put bo _))) _ _ _
  rw [QhR h.bB]
  refine h.gn.mono (fun b hb e he=>hput (Vh _ (Vh _ (Vh _ hb))) (ht.keeps (fun hm=>?_) he)) hreg (fun h h'=>NpIs.le h h')
  have hnd:=h.nd
  simp only [List.nodup_append,List.mem_append] at hnd
  obtain ⟨_,⟨_,⟨_,_,n1⟩,n2⟩,n3⟩:=hnd
  exact n2 b hm b (.inr hb) rfl
theorem Out.addRd (h:Out A B W D bo q o) {v:RdP} {x:Qh} {K:Sl→HP} (g:RpO B (offB (blks q) (Heap.nw A B D)) v x) (j:o.re.length≤1000000)
 (k:∀ r D2,(Heap.off q.Rels D).le D2→(∀ {K:HP},(∀ D3,Out A B W D3 bo { q with Rels:=r } { o with re:=o.re++[v] }→K D3)→st (bo,3) (slv r) K D2)→K r D2):apd (Qh.c Qh.zero) 64 q.Rels (Qh.c x) 1 K D:=
 h.gr.add (v:=v) (fun _=>rfl) (by omega) rfl (by omega) (by omega) fun r D2 b hle f=>k r D2 hle fun k=>h.setR hle f (fun Z2 d=>b Z2 (fun i v x=>RpO.le d) (RpO.le d g)) fun D3 hO _=>k D3 hO
theorem Out.addR (h:Out A B W D bo q o) {v:RdP} {x:Qh} {Hs:Heap} {K:HP} (g:Hs.le (Heap.off q.Rels D)) (j:∀ u ∈ Qh.c x,u.oneCell' = true) (t:RpO B (offB (blks q) (Heap.nw A B D)) v x) (m:o.re.length≤1000000)
 (k:∀ r D3,Out A B W D3 bo { q with Rels:=r } { o with re:=o.re++[v] }→K D3) :
 nw (Qh.c x++[]) (fun b H94=>Heap.le Hs H94∧apS (Qh.c Qh.zero) 64 q.Rels (Sl.of (some (b,0)) 1 1) (fun r H97=>Heap.le Hs H97∧nck (some (bo,0)) fun p98=>st (p98.1,p98.2+3) (slv r) (fun H100=>K H100) H97) H94) D:=
 QrP g j fun y i d=>(h.up i).addRd (RpO.le (QdT i) t) m fun r D2 hle f=>⟨(g.trans d).trans hle,_,rfl,f fun D3 hO=>k r D3 hO⟩
theorem Out.turnU (h:Out A B W D bo q o) {r:Sl} (hle:(Heap.off q.Rules D).le D2) (g:Fresh (Heap.off q.Rules D) r):Turn q { q with Rules:=r } q.Rules r D D2:=by
 have f:=h.nd
 refine ⟨hle,g,fun b d=>Vh _ (Vh _ (Vi _ d)),fun b d=>?_,fun b d=>Vh _ (Vh _ (Vi _ d))⟩
 simp only [List.nodup_append,List.mem_append] at f
 obtain ⟨_,⟨_,⟨_,_,n1⟩,n2⟩,n3⟩:=f
 simp only [blks,List.mem_append] at d ⊢
 rcases d with d | d | d | d
 ·exact .inr ⟨.inl d,fun hm=>n3 b d b (.inr (.inl hm)) rfl⟩
 ·exact .inr ⟨.inr (.inl d),fun hm=>n2 b d b (.inl hm) rfl⟩
 ·exact .inl d
 ·exact .inr ⟨.inr (.inr (.inr d)),fun hm=>n1 b hm b d rfl⟩
theorem Out.setU (h:Out A B W D bo q o) {r:Sl} {l:List RuP} {K:HP} (hle:(Heap.off q.Rules D).le D2) (hf:Fresh (Heap.off q.Rules D) r) (hadd:∀ Z2,(offB (blks q) (Heap.nw A B D)).le Z2→Gq (UpO B) Qi.c 6 Z2 D2 r l)
 (k:∀ D3,Out A B W D3 bo { q with Rules:=r } { o with ru:=l }→(offB (blks q) (Heap.nw A B D)).le (offB (blks { q with Rules:=r }) (Heap.nw A B D3))→K D3):st (bo,4) (slv r) K D2:=by
 have ht:=h.turnU hle hf
 refine ⟨_,ht.keeps (fun hm=>h.bx (ht.sub _ hm)) h.at_,by simp [Qa.c],k _ ?_ (by rw [QhR h.bB]; exact Xv h ht)⟩
 have hreg:=Xv h ht
 have hfr:=Turn.fresh h ht
 have hbo:bo ∉ blks { q with Rules:=r }:=fun hm=>by
  obtain ⟨e,he⟩:=h.bB
  rw [(hfr _ hm).1] at he; cases he
 have hput:∀ {b:Nat} {e:Bool×GO} {g:GO},b ∈ blks { q with Rules:=r }→D2 b=some e→(D2.put bo g) b=some e:=fun {b e g} hm hb=>by
  have hne:b≠bo:=fun e'=>hbo (by rw [← e']; exact hm)
  rw [Xb _ _ _ hne]; exact hb
 refine ⟨Xs (Turn.dom h ht),h.ab,h.aw,QP (Turn.w h ht) h.wo,Xa ..,h.bB,h.wo,(Qq6 (D:=D) (QsO r) h.nd (h.ndf hf (.inr (.inr (.inl rfl))))).2.2.1 rfl,hfr,h.nm,?_,?_,?_,?_⟩
 ·show Gq _ _ _ (offB _ (Heap.nw A B (D2.put bo _))) _ _ _
  rw [QhR h.bB]
  refine h.gt.mono (fun b hb e he=>hput (Vi _ hb) (ht.keeps (fun hm=>?_) he)) hreg TpO.le
  have hnd:=h.nd
  simp only [List.nodup_append,List.mem_append] at hnd
  obtain ⟨_,⟨_,⟨_,_,n1⟩,n2⟩,n3⟩:=hnd
  exact n3 b hb b (.inr (.inl hm)) rfl
 ·show Gq _ _ _ (offB _ (Heap.nw A B (D2.put bo _))) _ _ _
  rw [QhR h.bB]
  refine h.gr.mono (fun b hb e he=>hput (Vh _ (Vi _ hb)) (ht.keeps (fun hm=>?_) he)) hreg RpO.le
  have hnd:=h.nd
  simp only [List.nodup_append,List.mem_append] at hnd
  obtain ⟨_,⟨_,⟨_,_,n1⟩,n2⟩,n3⟩:=hnd
  exact n2 b hb b (.inl hm) rfl
 ·show Gq _ _ _ (offB _ (Heap.nw A B (D2.put bo _))) _ _ _
  rw [QhR h.bB]
  exact (hadd _ hreg).mono (fun b hb e he=>hput (Vh _ (Vh _ (Vi _ hb))) he) (Heap.le.refl _) UpO.le
 ·show Gq _ _ _ (offB _ (Heap.nw A B (D2.put bo _))) _ _ _
  rw [QhR h.bB]
  refine h.gn.mono (fun b hb e he=>hput (Vh _ (Vh _ (Vh _ hb))) (ht.keeps (fun hm=>?_) he)) hreg (fun h h'=>NpIs.le h h')
  have hnd:=h.nd
  simp only [List.nodup_append,List.mem_append] at hnd
  obtain ⟨_,⟨_,⟨_,_,n1⟩,n2⟩,n3⟩:=hnd
  exact n1 b hm b hb rfl
theorem Out.addUd (h:Out A B W D bo q o) {v:RuP} {x:Qi} {K:Sl→HP} (g:UpO B (offB (blks q) (Heap.nw A B D)) v x) (j:o.ru.length≤1000000)
 (k:∀ r D2,(Heap.off q.Rules D).le D2→(∀ {K:HP},(∀ D3,Out A B W D3 bo { q with Rules:=r } { o with ru:=o.ru++[v] }→K D3)→st (bo,4) (slv r) K D2)→K r D2):apd (Qi.c Qi.zero) 104 q.Rules (Qi.c x) 1 K D:=
 h.gu.add (v:=v) (fun _=>rfl) (by omega) rfl (by omega) (by omega) fun r D2 b hle f=>k r D2 hle fun k=>h.setU hle f (fun Z2 d=>b Z2 (fun i v x=>UpO.le d) (UpO.le d g)) fun D3 hO _=>k D3 hO
theorem Out.addU (h:Out A B W D bo q o) {v:RuP} {x:Qi} {Hs:Heap} {K:HP} (g:Hs.le (Heap.off q.Rules D)) (j:∀ u ∈ Qi.c x,u.oneCell' = true) (t:UpO B (offB (blks q) (Heap.nw A B D)) v x) (m:o.ru.length≤1000000)
 (k:∀ r D3,Out A B W D3 bo { q with Rules:=r } { o with ru:=o.ru++[v] }→K D3) :
 nw (Qi.c x++[]) (fun b H94=>Heap.le Hs H94∧apS (Qi.c Qi.zero) 104 q.Rules (Sl.of (some (b,0)) 1 1) (fun r H97=>Heap.le Hs H97∧nck (some (bo,0)) fun p98=>st (p98.1,p98.2+4) (slv r) (fun H100=>K H100) H97) H94) D:=
 QrP g j fun y i d=>(h.up i).addUd (UpO.le (QdT i) t) m fun r D2 hle f=>⟨(g.trans d).trans hle,_,rfl,f fun D3 hO=>k r D3 hO⟩
theorem Out.turnN (h:Out A B W D bo q o) {r:Sl} (hle:(Heap.off q.Nevers D).le D2) (g:Fresh (Heap.off q.Nevers D) r):Turn q { q with Nevers:=r } q.Nevers r D D2:=by
 have f:=h.nd
 refine ⟨hle,g,fun b d=>Vh _ (Vh _ (Vh _ d)),fun b d=>?_,fun b d=>Vh _ (Vh _ (Vh _ d))⟩
 simp only [List.nodup_append,List.mem_append] at f
 obtain ⟨_,⟨_,⟨_,_,n1⟩,n2⟩,n3⟩:=f
 simp only [blks,List.mem_append] at d ⊢
 rcases d with d | d | d | d
 ·exact .inr ⟨.inl d,fun hm=>n3 b d b (.inr (.inr hm)) rfl⟩
 ·exact .inr ⟨.inr (.inl d),fun hm=>n2 b d b (.inr hm) rfl⟩
 ·exact .inr ⟨.inr (.inr (.inl d)),fun hm=>n1 b d b hm rfl⟩
 ·exact .inl d
theorem Out.setN (h:Out A B W D bo q o) {r:Sl} {l:List NeP} {K:HP} (hle:(Heap.off q.Nevers D).le D2) (hf:Fresh (Heap.off q.Nevers D) r) (hadd:∀ Z2,(offB (blks q) (Heap.nw A B D)).le Z2→Gq (NpIs) Qo.c 4 Z2 D2 r l)
 (k:∀ D3,Out A B W D3 bo { q with Nevers:=r } { o with ne:=l }→(offB (blks q) (Heap.nw A B D)).le (offB (blks { q with Nevers:=r }) (Heap.nw A B D3))→K D3):st (bo,5) (slv r) K D2:=by
 have ht:=h.turnN hle hf
 refine ⟨_,ht.keeps (fun hm=>h.bx (ht.sub _ hm)) h.at_,by simp [Qa.c],k _ ?_ (by rw [QhR h.bB]; exact Xv h ht)⟩
 have hreg:=Xv h ht
 have hfr:=Turn.fresh h ht
 have hbo:bo ∉ blks { q with Nevers:=r }:=fun hm=>by
  obtain ⟨e,he⟩:=h.bB
  rw [(hfr _ hm).1] at he; cases he
 have hput:∀ {b:Nat} {e:Bool×GO} {g:GO},b ∈ blks { q with Nevers:=r }→D2 b=some e→(D2.put bo g) b=some e:=fun {b e g} hm hb=>by
  have hne:b≠bo:=fun e'=>hbo (by rw [← e']; exact hm)
  rw [Xb _ _ _ hne]; exact hb
 refine ⟨Xs (Turn.dom h ht),h.ab,h.aw,QP (Turn.w h ht) h.wo,Xa ..,h.bB,h.wo,(Qq6 (D:=D) (QsO r) h.nd (h.ndf hf (.inr (.inr (.inr rfl))))).2.2.2 rfl,hfr,h.nm,?_,?_,?_,?_⟩
 ·show Gq _ _ _ (offB _ (Heap.nw A B (D2.put bo _))) _ _ _
  rw [QhR h.bB]
  refine h.gt.mono (fun b hb e he=>hput (Vi _ hb) (ht.keeps (fun hm=>?_) he)) hreg TpO.le
  have hnd:=h.nd
  simp only [List.nodup_append,List.mem_append] at hnd
  obtain ⟨_,⟨_,⟨_,_,n1⟩,n2⟩,n3⟩:=hnd
  exact n3 b hb b (.inr (.inr hm)) rfl
 ·show Gq _ _ _ (offB _ (Heap.nw A B (D2.put bo _))) _ _ _
  rw [QhR h.bB]
  refine h.gr.mono (fun b hb e he=>hput (Vh _ (Vi _ hb)) (ht.keeps (fun hm=>?_) he)) hreg RpO.le
  have hnd:=h.nd
  simp only [List.nodup_append,List.mem_append] at hnd
  obtain ⟨_,⟨_,⟨_,_,n1⟩,n2⟩,n3⟩:=hnd
  exact n2 b hb b (.inr hm) rfl
 ·show Gq _ _ _ (offB _ (Heap.nw A B (D2.put bo _))) _ _ _
  rw [QhR h.bB]
  refine h.gu.mono (fun b hb e he=>hput (Vh _ (Vh _ (Vi _ hb))) (ht.keeps (fun hm=>?_) he)) hreg UpO.le
  have hnd:=h.nd
  simp only [List.nodup_append,List.mem_append] at hnd
  obtain ⟨_,⟨_,⟨_,_,n1⟩,n2⟩,n3⟩:=hnd
  exact n1 b hb b hm rfl
 ·show Gq _ _ _ (offB _ (Heap.nw A B (D2.put bo _))) _ _ _
  rw [QhR h.bB]
  exact (hadd _ hreg).mono (fun b hb e he=>hput (Vh _ (Vh _ (Vh _ hb))) he) (Heap.le.refl _) (fun h h'=>NpIs.le h h')
theorem Out.addNd (h:Out A B W D bo q o) {v:NeP} {x:Qo} {K:Sl→HP} (g:NpIs (offB (blks q) (Heap.nw A B D)) v x) (j:o.ne.length≤1000000)
 (k:∀ r D2,(Heap.off q.Nevers D).le D2→(∀ {K:HP},(∀ D3,Out A B W D3 bo { q with Nevers:=r } { o with ne:=o.ne++[v] }→K D3)→st (bo,5) (slv r) K D2)→K r D2):apd (Qo.c Qo.zero) 56 q.Nevers (Qo.c x) 1 K D:=
 h.gn.add (v:=v) (fun _=>rfl) (by omega) rfl (by omega) (by omega) fun r D2 b hle f=>k r D2 hle fun k=>h.setN hle f (fun Z2 d=>b Z2 (fun i v x=>NpIs.le d) (NpIs.le d g)) fun D3 hO _=>k D3 hO
theorem Out.addN (h:Out A B W D bo q o) {v:NeP} {x:Qo} {Hs:Heap} {K:HP} (g:Hs.le (Heap.off q.Nevers D)) (j:∀ u ∈ Qo.c x,u.oneCell' = true) (t:NpIs (offB (blks q) (Heap.nw A B D)) v x) (m:o.ne.length≤1000000)
 (k:∀ r D3,Out A B W D3 bo { q with Nevers:=r } { o with ne:=o.ne++[v] }→K D3) :
 nw (Qo.c x++[]) (fun b H94=>Heap.le Hs H94∧apS (Qo.c Qo.zero) 56 q.Nevers (Sl.of (some (b,0)) 1 1) (fun r H97=>Heap.le Hs H97∧nck (some (bo,0)) fun p98=>st (p98.1,p98.2+5) (slv r) (fun H100=>K H100) H97) H94) D:=
 QrP g j fun y i d=>(h.up i).addNd (NpIs.le (QdT i) t) m fun r D2 hle f=>⟨(g.trans d).trans hle,_,rfl,f fun D3 hO=>k r D3 hO⟩
end
end
section
open Go Go.Proofs
theorem Qwf (x:Qj):∀ u ∈ Qj.c x,u.oneCell' = true:=by
 intro u b
 simp only [Qj.c,List.mem_cons,List.mem_nil_iff,or_false] at b
 rcases b with rfl | rfl <;> rfl
theorem QwB (x:Qd):∀ u ∈ Qd.c x,u.oneCell' = true:=by
 intro u b
 simp only [Qd.c,List.mem_cons,List.mem_nil_iff,or_false] at b
 rcases b with rfl | rfl | rfl | rfl | rfl | rfl <;> rfl
theorem Qww (x:Qh):∀ u ∈ Qh.c x,u.oneCell' = true:=by
 intro u b
 simp only [Qh.c,List.mem_cons,List.mem_nil_iff,or_false] at b
 rcases b with rfl | rfl | rfl | rfl | rfl | rfl <;> rfl
theorem Qwy (x:Qi):∀ u ∈ Qi.c x,u.oneCell' = true:=by
 intro u b
 simp only [Qi.c,List.mem_cons,List.mem_nil_iff,or_false] at b
 rcases b with rfl | rfl | rfl | rfl | rfl | rfl <;> rfl
theorem QuM (x:Qo):∀ u ∈ Qo.c x,u.oneCell' = true:=by
 intro u b
 simp only [Qo.c,List.mem_cons,List.mem_nil_iff,or_false] at b
 rcases b with rfl | rfl | rfl | rfl <;> rfl
theorem cat1 {a:Str} (h:a.length≤1000):catOk a ([46]:Str):=by show _ < _; simp only [Vd,Vk]; omega
theorem cat2 {a b:Str} (h:a.length≤1000) (d:b.length≤1000):catOk (a++([46]:Str)) b:=by show _ < _; simp only [Va,Vd,Vk]; omega
theorem Qj5 {a b:Str} (h:a.length≤1000) (d:b.length≤1000):(dotS a b).length≤140737488355328:=by simp only [dotS,Va,Vd,Vk]; omega
theorem QlT {d:Bool} {l:List FdV} (h:fdsOk d l=true):l.length≤1000∧∀ f ∈ l,tyOk f.t=true:=by
 unfold fdsOk at h
 simp only [Ve,Vj,List.all_eq_true] at h
 refine ⟨by omega,fun f b=>?_⟩
 have:=h.2 f b
 unfold fdOk at this
 simp only [Ve] at this
 exact this.2
section
variable {C:Ctx} {A:Heap} {E:Value→HP}
theorem uCons {T:Tl} {m:MoP} {bp bm:Nat} {sl:Sl} {x:Qa} (hx:x.Name=m.n) (hi:IpL A x.Imports m.im) (hn:m.n.length≤1000) {b1 K d:Nat} {H0:Heap} {y y1:Qd} {p:Pl}
 (N:A.le (H0.del d)) (h1:(H0.del d) b1=some (true,.row (Qa.c x))) (a9:(H0.del d) K=some (true,.row (Qd.c y))) (hp:y.Pos=psP p) (hP:Pr (H0.del d) bp bm sl) (hT:TlIs (H0.del d) bm T)
 (L:H0 d=some (true,.row (Qd.c y1))) (c4:y1.Cons=Sl.nil) {s:Sl} {l:List CnV} (hs:CnL A s l) (c2:∀ c ∈ l,cnOk c=true) (d7:l.length≤1000) {REST:HP}
 (k:∀ D l' s',mpO (cnF T m) l=some l'→(H0.del d).le D→Gr CnIs Qj.c 2 A H0 D s' l'→D d=some (true,.row (Qd.c { y1 with Cons:=s' }))→REST D)
 (ke:∀ D,(H0.del d).le D→mpO (cnF T m) l=none→E (flt m.n p 63) D) :
 lp (α:=Int) 0 H0 (fun I J43 H44=>
 ift (decide ((I:Int) < (Sl.len s:Int)))
 (ixa s I fun p46=>
 ldT H44 Qj.c (p46.1,p46.2+(I:Int).toNat*2) fun x51=>
 nw (Qj.c Qj.zero) (fun b53 H54=>
 stT (b53,0) (Qj.c x51) (fun H55=>
 dr H55 fun Hs56=>
 ldL Hs56 ((d,0).1,(d,0).2+5) fun x58=>
 ldS Hs56 ((b1,0).1,(b1,0).2+0) fun x60=>
 catOk x60 ([46]:Str)∧
 ldS Hs56 ((b53,0).1,(b53,0).2+0) fun x63=>
 catOk (x60++([46]:Str)) x63∧
 ldT Hs56 Qa.c (b1,0) fun x66=>
 ldL Hs56 ((b53,0).1,(b53,0).2+1) fun x68=>
 ldT Hs56 Qk.c ((K,0).1,(K,0).2+0) fun x70=>
 Q2 C E (some (bp,0)) x66 x68 x70 (fun r73 H74=>
 Heap.le Hs56 H74∧
 nw ((Qj.c (⟨((x60++([46]:Str))++x63),r73⟩:Qj))++[]) (fun b76 H77=>
 Heap.le Hs56 H77∧
 apS (Qj.c Qj.zero) 40 x58 (Sl.of (some (b76,0)) 1 1) (fun r79 H80=>
 Heap.le Hs56 H80∧
 st ((d,0).1,(d,0).2+5) (slv r79) (fun H81=>
 J43 (w .i64 (I+1)) H81) H80) H77) H74) H55) H54) H44)
 (REST H44)):=by
 have a0:=SlIs.len hs
 have nA:A d=none:=by
  cases ha:A d with
  | none=>rfl
  | some e=>have:=N _ _ ha; rw [Xg] at this; cases this
 have M:A.le H0:=N.trans (Xf _ _)
 have hR:∀ {X Y:Heap} {v:CnV} {x:Qj},X.le Y→CnIs X v x→CnIs Y v x:=fun h S=>CnIs.le h S
 refine ⟨fun y D=>(H0.del d).le D∧∃ (i:Nat) (l':List CnV) (s':Sl),y=(i:Int)∧i≤l.length∧mpO (cnF T m) (l.take i)=some l'∧Gr CnIs Qj.c 2 A H0 D s' l'∧D d=some (true,.row (Qd.c { y1 with Cons:=s' })),fun y _=>l.length - y.toNat,⟨Xf _ _,0,[],Sl.nil,rfl,Nat.zero_le _,rfl,Gr.nil (fun _ h=>h) M,?_⟩,?_⟩
 ·rw [L,← c4]
 rintro _ D ⟨hD,i,l',s',rfl,c0,F,W,O⟩
 rw [a0]
 have hlen':=QfP F
 rw [List.length_take,Nat.min_eq_left c0] at hlen'
 refine ift.of (fun h=>?_) (fun h=>?_)
 ·have G : i < l.length := by have := Vb h; omega
  refine hs.ld (N.trans hD) (fun _=>rfl) (by omega) rfl G fun y2 Q=>?_
  have t:=c2 _ (Vg G)
  have P:=Qi3 (f:=cnF T m) (Vg G)
  have c3:=fun w=>QkS (w:=w) G F
  generalize l[i]=c at *
  unfold cnOk at t
  rw [Ve] at t
  obtain ⟨b8,b9⟩:=QlT t.2
  have d5:=(QbL t.1).1
  intro b53 a4
  refine nwT rfl ?_
  have R:=Xc a4 (g:=.row (Qj.c y2)) (m:=true)
  have U:(D.put b53 (.row (Qj.c y2))) b53=some (true,.row (Qj.c y2)):=Xa ..
  have u:=W.up R hR
  have z:=hD.trans R
  have Z:=R _ _ O
  have a2:∀ q,s'.p=some q→q.1≠d:=fun q hq e=>by
   have:=W.fresh q hq
   rw [e,L] at this; cases this
  have J:∀ q,s'.p=some q→q.1≠b53:=fun q hq e=>by
   obtain ⟨e2,h2⟩:=W.has q hq
   rw [e,a4] at h2; cases h2
  generalize D.put b53 (.row (Qj.c y2))=D2 at *
  have H:∀ {b:Nat} {e:Bool×GO},(H0.del d) b=some e→(Heap.off s' D2) b=some e:=fun {b e} O=>Xe (z b e O) fun q hq e'=>by
   have:=W.fresh q hq
   rw [e'] at this
   have S:=Xf _ _ _ _ O
   rw [this] at S; cases S
  refine ⟨Heap.off s' D2,Xj _ _,?_⟩
  refine fL (Xe Z a2) (j:=5) rfl (fS (H h1) rfl ⟨?_,fS (Xe U J) rfl ⟨?_,bxT (c:=Qa.c) (H h1) (fL (Xe U J) (j:=1) rfl (fPs (x:=y.Pos) (H a9) rfl rfl ?_))⟩⟩)
  ·rw [hx]; exact cat1 hn
  ·rw [hx,Q.1.1]; exact cat2 hn (by omega)
  refine QpV hx hi hn b9 b8 (hP.le z) (hT.le z) u.al Q.2 hp (fun r D3 fl o B b5=>?_) (fun D3 o B=>ke D3 (z.trans o) (P ?_))
  ·have b3:=u.up o hR
   have hw:cnF T m c=some ⟨dotS m.n c.n,fl⟩:=by unfold cnF; rw [B]
   have c9:=QfP B
   have a3:=Qmi (D2:=D3) M u.dom u.fresh u.has
   refine ⟨(Xj _ _).trans o,?_⟩
   rw [hx,Q.1.1]
   refine b3.lit M (x:=(⟨dotS m.n c.n,r⟩:Qj)) (v:=⟨dotS m.n c.n,fl⟩) (fun _=>rfl) (by omega) hR rfl (Qwf _) ⟨⟨rfl,Qj5 hn (by omega)⟩,(b5.is (fun _=>rfl) (by omega) (fun h S=>FdIs.le h S) (by omega)).le a3 fun _ _ _ h=>FdIs.le a3 h⟩ (by omega) (by omega) (Qmk o) fun r2 D4 b4 h4 d6=>?_
   have b7:=h4 _ _ (Xe (o _ _ Z) a2)
   refine ⟨_,b7,by simp [Qd.c],?_⟩
   rw [Qu (by omega) (by omega)]
   have b2:(H0.del d).le D4:=fun b e O=>h4 b e (Qmk o b e (H O))
   exact ⟨⟨Xk b2,i+1,l'++[⟨dotS m.n c.n,fl⟩],r2,by omega,by omega,c3 _ hw,b4.put L nA,Xa ..⟩,by first | omega | (dsimp only; omega)⟩
  ·unfold cnF; rw [B]
 ·have c1 : i = l.length := by have := Vc h; omega
  subst c1
  rw [Vl] at F
  exact k _ _ _ F hD W O
theorem uTypes {T:Tl} {m:MoP} {bp bm:Nat} {sl:Sl} {x:Qa} (hx:x.Name=m.n) (hi:IpL A x.Imports m.im) (hn:m.n.length≤1000) {b1:Nat} {B W H0:Heap} {bo:Nat} {q:Qa} {o:MoP} (hO:Out A B W H0 bo q o)
 (h1:W b1=some (true,.row (Qa.c x))) (hP:Pr W bp bm sl) (hT:TlIs W bm T) {s:Sl} {l:List TdP} (hs:TpL A s l) (b9:∀ t ∈ l,tdOk t.e=true) (F:o.ty.length+l.length≤1000000) {REST:HP}
 (k:∀ D q' a,mpE (tdF T m) l=.ok a→Out A B W D bo q' { o with ty:=o.ty++a }→REST D)
 (ke:∀ D q' o' p,Out A B W D bo q' o'→mpE (tdF T m) l=.error p→E (flt m.n p 63) D) :
 lp (α:=Int) 0 H0 (fun x5 J6 H7=>
 ift (decide ((x5:Int) < (Sl.len s:Int)))
 (ixa s x5 fun p9=>
 ldT H7 Qd.c (p9.1,p9.2+(x5:Int).toNat*6) fun x14=>
 nw (Qd.c Qd.zero) (fun b16 H17=>
 stT (b16,0) (Qd.c x14) (fun H18=>
 ldT H18 Qd.c (b16,0) fun x19=>
 nw (Qd.c Qd.zero) (fun b21 H22=>
 stT (b21,0) (Qd.c x19) (fun H23=>
 dr H23 fun Hs24=>
 ldS Hs24 ((b1,0).1,(b1,0).2+0) fun x26=>
 catOk x26 ([46]:Str)∧
 ldS Hs24 ((b16,0).1,(b16,0).2+3) fun x29=>
 catOk (x26++([46]:Str)) x29∧
 ldL Hs24 ((b16,0).1,(b16,0).2+4) fun x32=>
 QW C x32 (fun r35 H36=>
 Heap.le Hs24 H36∧
 st ((b21,0).1,(b21,0).2+3) (sv ((x26++([46]:Str))++x29)) (fun H37=>
 st ((b21,0).1,(b21,0).2+4) (slv r35) (fun H38=>
 st ((b21,0).1,(b21,0).2+5) (slv Sl.nil) (fun H39=>
 ldL H39 ((b16,0).1,(b16,0).2+5) fun x40=>
 lp (α:=Int) 0 H39 (fun R J43 H44=>
 ift (decide ((R:Int) < (Sl.len x40:Int)))
 (ixa x40 R fun p46=>
 ldT H44 Qj.c (p46.1,p46.2+(R:Int).toNat*2) fun x51=>
 nw (Qj.c Qj.zero) (fun b53 H54=>
 stT (b53,0) (Qj.c x51) (fun H55=>
 dr H55 fun Hs56=>
 ldL Hs56 ((b21,0).1,(b21,0).2+5) fun x58=>
 ldS Hs56 ((b1,0).1,(b1,0).2+0) fun x60=>
 catOk x60 ([46]:Str)∧
 ldS Hs56 ((b53,0).1,(b53,0).2+0) fun x63=>
 catOk (x60++([46]:Str)) x63∧
 ldT Hs56 Qa.c (b1,0) fun x66=>
 ldL Hs56 ((b53,0).1,(b53,0).2+1) fun x68=>
 ldT Hs56 Qk.c ((b16,0).1,(b16,0).2+0) fun x70=>
 Q2 C E (some (bp,0)) x66 x68 x70 (fun r73 H74=>
 Heap.le Hs56 H74∧
 nw ((Qj.c (⟨((x60++([46]:Str))++x63),r73⟩:Qj))++[]) (fun b76 H77=>
 Heap.le Hs56 H77∧
 apS (Qj.c Qj.zero) 40 x58 (Sl.of (some (b76,0)) 1 1) (fun r79 H80=>
 Heap.le Hs56 H80∧
 st ((b21,0).1,(b21,0).2+5) (slv r79) (fun H81=>
 J43 (w .i64 (R+1)) H81) H80) H77) H74) H55) H54) H44)
 (dr H44 fun Hs82=>
 nck (some (bo,0)) fun p84=>
 ldL Hs82 (p84.1,p84.2+2) fun x86=>
 ldT Hs82 Qd.c (b21,0) fun x88=>
 nw ((Qd.c x88)++[]) (fun b91 H92=>
 Heap.le Hs82 H92∧
 apS (Qd.c Qd.zero) 88 x86 (Sl.of (some (b91,0)) 1 1) (fun r94 H95=>
 Heap.le Hs82 H95∧
 nck (some (bo,0)) fun p96=>
 st (p96.1,p96.2+2) (slv r94) (fun H98=>
 J6 (w .i64 (x5+1)) H98) H95) H92) H44))) H38) H37) H36) H23) H22) H18) H17) H7)
 (REST H7)):=by
 have b2:=SlIs.len hs
 refine ⟨fun y D=>∃ (i:Nat) (a:List TdP) (q':Qa),y=(i:Int)∧i≤l.length∧mpE (tdF T m) (l.take i)=.ok a∧Out A B W D bo q' { o with ty:=o.ty++a },fun y _=>l.length - y.toNat,⟨0,[],q,rfl,Nat.zero_le _,rfl,by rw [List.append_nil]; exact hO⟩,?_⟩
 clear hO
 rintro _ D ⟨i,a,q',rfl,b6,ha,hO⟩
 rw [b2]
 have b8:=Qap ha
 rw [List.length_take,Nat.min_eq_left b6] at b8
 refine ift.of (fun h=>?_) (fun h=>?_)
 ·have P : i < l.length := by have := Vb h; omega
  refine hs.ld hO.al (fun _=>rfl) (by omega) rfl P fun y hy=>?_
  have Z:=b9 _ (Vg P)
  have a9:=fun q=>Qgi (e:=q) P ha
  have c0:=fun w=>Qeh (w:=w) P ha
  generalize l[i]=v at *
  obtain ⟨e1,e2,e3,e4,e5⟩:=hy
  unfold tdOk TdP.e at Z
  simp only [Ve,Vj,List.all_eq_true] at Z
  obtain ⟨⟨⟨⟨⟨t1,t2⟩,t3⟩,t4⟩,t5⟩,t6⟩:=Z
  have e0:=(QbL t1).1
  refine boxZ rfl fun b16 D1 e7 c2 H=>?_
  refine bxT (c:=Qd.c) H ?_
  refine boxZ rfl fun b21 D2 M Q a2=>?_
  have f:=hO.up c2
  have u:=f.up Q
  refine ⟨D1,Q,?_⟩
  refine fS (f.wle _ _ h1) rfl ⟨?_,fS H (j:=3) rfl ⟨?_,fL H (j:=4) rfl ?_⟩⟩
  ·rw [hx]; exact cat1 hn
  ·rw [hx,e3.1]; exact cat2 hn (by omega)
  rw [hx,e3.1]
  refine cloneS e4.1 u.al (by omega) fun r35 H36 z I=>?_
  have h21':=z _ _ a2
  refine ⟨Q.trans z,_,h21',by simp [Qd.c],_,Xa ..,by simp [Qd.c],_,Xa ..,by simp [Qd.c],?_⟩
  rw [Xh,Xh]
  have a3:A b21=none:=f.al.none M
  have b0:D1.le H36:=Q.trans z
  have d:D1.le ((H36.put b21 (.row (Qd.c { y with Name:=dotS m.n v.n,Params:=r35,Cons:=Sl.nil }))).del b21):=Xo (QP b0 M) M
  have hF:(H36.put b21 (.row (Qd.c { y with Name:=dotS m.n v.n,Params:=r35,Cons:=Sl.nil }))) b21=some (true,.row (Qd.c { y with Name:=dotS m.n v.n,Params:=r35,Cons:=Sl.nil })):=Xa ..
  have c1:∀ (g:GO) (G:Heap),((H36.put b21 (.row (Qd.c { y with Name:=dotS m.n v.n,Params:=r35,Cons:=Sl.nil }))).del b21).le G→G b21=some (true,g)→(H36.put b21 g).le G:=fun g G hd hg b e K=>by
   by_cases hbb:b=b21
   ·rw [hbb,Xa] at K; rw [hbb,hg]; exact K
   ·rw [Xb _ _ _ hbb] at K
    exact hd b e (by rw [Xd _ hbb,Xb _ _ _ hbb]; exact K)
  have a1:(H36.put b21 (.row (Qd.c { y with Name:=dotS m.n v.n,Params:=r35,Cons:=Sl.nil }))) b16=some (true,.row (Qd.c y)):=Xf _ _ _ _ (d _ _ H)
  rw [show Heap.put H36 ((b21,0).1,(b21,0).2+3).1 (GO.row (List.set (List.set (List.set (Qd.c y) ((b21,0).1,(b21,0).2+3).2 (sv (m.n++[46]++v.n))) ((b21,0).1,(b21,0).2+4).2 (slv r35)) ((b21,0).1,(b21,0).2+5).2 (slv Sl.nil)))=H36.put b21 (.row (Qd.c { y with Name:=dotS m.n v.n,Params:=r35,Cons:=Sl.nil })) from rfl]
  have J:∀ b,(H36.put b21 (.row (Qd.c { y with Name:=dotS m.n v.n,Params:=r35,Cons:=Sl.nil }))) b=none→D1 b=none:=fun b F=>(d.trans (Xf _ _)).none F
  generalize d6:H36.put b21 (.row (Qd.c { y with Name:=dotS m.n v.n,Params:=r35,Cons:=Sl.nil }))=F0 at *
  refine fL a1 (j:=5) rfl ?_
  refine uCons (y:=y) (y1:={ y with Name:=dotS m.n v.n,Params:=r35,Cons:=Sl.nil }) hx hi hn (f.al.trans d) (d _ _ (f.wle _ _ h1)) (d _ _ H) e1 ((hP.le f.wle).le d) ((hT.le f.wle).le d) hF rfl e5 t6 (by omega) (fun G cs s' O N a4 a8=>?_) (fun G N O=>ke G _ _ _ (f.up (d.trans N)) (a9 _ ?_))
  ·have hO':=f.up (d.trans N)
   have c7:=QfP O
   have hw:tdF T m v=.ok ⟨v.p,v.b,dotS m.n v.n,v.ps,cs⟩:=by unfold tdF; rw [O]
   have b3:b21 ∉ blks q':=fun hm=>by
    obtain ⟨e,K⟩:=f.has b21 hm
    rw [M] at K; cases K
   have e8:bo≠b21:=fun e=>by have:=f.at_; rw [e,M] at this; cases this
   have S:∀ {b:Nat} {e:Bool×GO},b ∉ blks q'→G b=some e→(Heap.off q'.Types G) b=some e:=fun {b e} F K=>Xe K fun p hp e'=>F (Vi _ (Qgn.2 ⟨p,hp,e'⟩))
   refine ⟨Heap.off q'.Types G,Xj _ _,_,rfl,fL (S hO'.bx hO'.at_) (j:=2) rfl (bxT (c:=Qd.c) (S b3 a8) ?_)⟩
   have U:(Heap.nw A D2 H36).le (offB (blks q') (Heap.nw A B G)):=(Qi4 (g:=.row (Qd.c { y with Name:=dotS m.n v.n,Params:=r35,Cons:=s' })) u.ab u.dom (fun b F=>⟨u.has b F,u.xA b F⟩) a2 a3).trans (QdT (c1 _ _ N a8))
   have L:(Heap.nw A F0 G).le (offB (blks q') (Heap.nw A B G)):=QlW u.ab (fun b F=>f.dom b (J b F)) fun b F=>⟨by
    obtain ⟨e,K⟩:=f.has b F
    exact ⟨e,Xf _ _ _ _ (d _ _ K)⟩,f.xA b F⟩
   have a6:∀ {X Y:Heap} {v:CnV} {x:Qj},X.le Y→CnIs X v x→CnIs Y v x:=fun h h'=>CnIs.le h h'
   refine hO'.addT (v:=⟨v.p,v.b,dotS m.n v.n,v.ps,cs⟩) (Heap.le.refl _) (QwB _) ⟨⟨e1,e2,⟨rfl,Qj5 hn (by omega)⟩,⟨?_,by obtain ⟨_,_,_,xs,h,_⟩:=I; exact h.2.2.1⟩,?_⟩,(I.ow.le U).base u.dom,(a4.ow.le L).base fun b F=>f.dom b (J b F)⟩ (by simp only [Va]; omega) fun r D3 b5=>?_
   ·exact (I.is (fun _=>rfl) (by omega) (fun _ h=>h) (by omega)).le U fun _ _ _ h=>h
   ·exact (a4.is (fun _=>rfl) (by omega) a6 (by omega)).le L fun _ _ _ h=>a6 L h
   ·rw [Qu (by omega) (by omega)]
    have a5:Out A B W D3 bo _ { o with ty:=(o.ty++a)++[⟨v.p,v.b,dotS m.n v.n,v.ps,cs⟩] }:=b5
    rw [List.append_assoc] at a5
    exact ⟨⟨i+1,a++[⟨v.p,v.b,dotS m.n v.n,v.ps,cs⟩],_,by omega,by omega,c0 _ hw,a5⟩,by first | omega | (dsimp only; omega)⟩
  ·unfold tdF; rw [O]
 ·have b7 : i = l.length := by have := Vc h; omega
  subst b7
  rw [Vl] at ha
  exact k _ _ _ ha hO
theorem uRels {T:Tl} {m:MoP} {bp bm:Nat} {sl:Sl} {x:Qa} (hx:x.Name=m.n) (hi:IpL A x.Imports m.im) (hn:m.n.length≤1000) {b1:Nat} {B W H0:Heap} {bo:Nat} {q:Qa} {o:MoP} (hO:Out A B W H0 bo q o)
 (h1:W b1=some (true,.row (Qa.c x))) (hP:Pr W bp bm sl) (hT:TlIs W bm T) {s:Sl} {l:List RdP} (hs:RpL A s l) (a8:∀ t ∈ l,rdOk t.e=true) (S:o.re.length+l.length≤1000000) {REST:HP}
 (k:∀ D q' a,mpE (rdF T m) l=.ok a→Out A B W D bo q' { o with re:=o.re++a }→REST D)
 (ke:∀ D q' o' p,Out A B W D bo q' o'→mpE (rdF T m) l=.error p→E (flt m.n p 63) D) :
 lp (α:=Int) 0 H0 (fun z J102 H103=>
 ift (decide ((z:Int) < (Sl.len s:Int)))
 (ixa s z fun p105=>
 ldT H103 Qh.c (p105.1,p105.2+(z:Int).toNat*6) fun x110=>
 nw (Qh.c Qh.zero) (fun b112 H113=>
 stT (b112,0) (Qh.c x110) (fun H114=>
 dr H114 fun Hs115=>
 ldS Hs115 ((b1,0).1,(b1,0).2+0) fun x117=>
 catOk x117 ([46]:Str)∧
 ldS Hs115 ((b112,0).1,(b112,0).2+4) fun x120=>
 catOk (x117++([46]:Str)) x120∧
 ldT Hs115 Qa.c (b1,0) fun x123=>
 ldL Hs115 ((b112,0).1,(b112,0).2+5) fun x125=>
 ldT Hs115 Qk.c ((b112,0).1,(b112,0).2+0) fun x127=>
 Q2 C E (some (bp,0)) x123 x125 x127 (fun r130 H131=>
 Heap.le Hs115 H131∧
 st ((b112,0).1,(b112,0).2+4) (sv ((x117++([46]:Str))++x120)) (fun H132=>
 st ((b112,0).1,(b112,0).2+5) (slv r130) (fun H133=>
 dr H133 fun Hs134=>
 nck (some (bo,0)) fun p136=>
 ldL Hs134 (p136.1,p136.2+3) fun x138=>
 ldT Hs134 Qh.c (b112,0) fun x140=>
 nw ((Qh.c x140)++[]) (fun b143 H144=>
 Heap.le Hs134 H144∧
 apS (Qh.c Qh.zero) 64 x138 (Sl.of (some (b143,0)) 1 1) (fun r146 H147=>
 Heap.le Hs134 H147∧
 nck (some (bo,0)) fun p148=>
 st (p148.1,p148.2+3) (slv r146) (fun H150=>
 J102 (w .i64 (z+1)) H150) H147) H144) H133) H132) H131) H114) H113) H103)
 (REST H103)):=by
 have X:=SlIs.len hs
 refine ⟨fun y D=>∃ (i:Nat) (a:List RdP) (q':Qa),y=(i:Int)∧i≤l.length∧mpE (rdF T m) (l.take i)=.ok a∧Out A B W D bo q' { o with re:=o.re++a },fun y _=>l.length - y.toNat,⟨0,[],q,rfl,Nat.zero_le _,rfl,by rw [List.append_nil]; exact hO⟩,?_⟩
 clear hO
 rintro _ D ⟨i,a,q',rfl,a5,R,hO⟩
 rw [X]
 have a7:=Qap R
 rw [List.length_take,Nat.min_eq_left a5] at a7
 refine ift.of (fun h=>?_) (fun h=>?_)
 ·have J : i < l.length := by have := Vb h; omega
  refine hs.ld hO.al (fun _=>rfl) (by omega) rfl J fun y hy=>?_
  have K:=a8 _ (Vg J)
  have U:=fun q=>Qgi (e:=q) J R
  have a9:=fun w=>Qeh (w:=w) J R
  generalize l[i]=v at *
  obtain ⟨e1,e2,e3,e4,e5⟩:=hy
  unfold rdOk RdP.e at K
  rw [Ve] at K
  obtain ⟨M,a4⟩:=QlT K.2
  have c6:v.n.length≤32:=(QbL K.1).1
  have M:v.f.length≤1000:=M
  refine boxZ rfl fun d D1 O Y F=>?_
  have u:=hO.up Y
  refine ⟨D1,Heap.le.refl _,?_⟩
  refine fS (u.wle _ _ h1) rfl ⟨?_,fS F (j:=4) rfl ⟨?_,bxT (c:=Qa.c) (u.wle _ _ h1) (fL F (j:=5) rfl (fPs (x:=y.Pos) F rfl rfl ?_))⟩⟩
  ·rw [hx]; exact cat1 hn
  ·rw [hx,e4.1]; exact cat2 hn (by omega)
  rw [hx,e4.1]
  refine QpV hx hi hn a4 M (hP.le u.wle) (hT.le u.wle) u.al e5 e1 (fun r D2 fl H I P=>?_) (fun D2 H I=>ke D2 _ _ _ (u.up H) (U _ ?_))
  ·have b6:=QfP I
   have hw:rdF T m v=.ok ⟨v.p,v.b,v.i,dotS m.n v.n,fl⟩:=by unfold rdF; rw [I]
   refine ⟨H,_,H _ _ F,by simp [Qh.c],_,Xa ..,by simp [Qh.c],?_⟩
   rw [Xh]
   have hO':=hO.up (QP (m:=true) (g:=.row (Qh.c { y with Name:=dotS m.n v.n,Fields:=r })) (Y.trans H) O)
   have hb':(D2.put d (.row (Qh.c { y with Name:=dotS m.n v.n,Fields:=r }))) d=some (true,.row (Qh.c { y with Name:=dotS m.n v.n,Fields:=r })):=Xa ..
   have N:(Heap.nw A D1 D2).le (offB (blks q') (Heap.nw A B (D2.put d (.row (Qh.c { y with Name:=dotS m.n v.n,Fields:=r }))))):=Qi4 u.ab u.dom (fun b S=>⟨u.has b S,u.xA b S⟩) F (hO.al.none O)
   have Z:d ∉ blks q':=fun hm=>by
    obtain ⟨e,he⟩:=hO.has d hm
    rw [O] at he; cases he
   rw [show Heap.put D2 ((d,0).1,(d,0).2+4).1 (GO.row (List.set (List.set (Qh.c y) ((d,0).1,(d,0).2+4).2 (sv (m.n++[46]++v.n))) ((d,0).1,(d,0).2+5).2 (slv r)))=D2.put d (.row (Qh.c { y with Name:=dotS m.n v.n,Fields:=r })) from rfl]
   generalize D2.put d (.row (Qh.c { y with Name:=dotS m.n v.n,Fields:=r }))=G at *
   have L:∀ {b:Nat} {e:Bool×GO},b ∉ blks q'→G b=some e→(Heap.off q'.Rels G) b=some e:=fun {b e} S he=>Xe he fun p hp e'=>S (Vh _ (Vi _ (Qgn.2 ⟨p,hp,e'⟩)))
   refine ⟨Heap.off q'.Rels G,Xj _ _,_,rfl,fL (L hO'.bx hO'.at_) (j:=3) rfl (bxT (c:=Qh.c) (L Z hb') ?_)⟩
   refine hO'.addR (x:={ y with Name:=dotS m.n v.n,Fields:=r }) (v:=⟨v.p,v.b,v.i,dotS m.n v.n,fl⟩) (Heap.le.refl _) (Qww _) ⟨⟨e1,e2,e3,⟨rfl,Qj5 hn (by omega)⟩,?_⟩,(P.ow.le N).base u.dom⟩ (by simp only [Va]; omega) fun r D3 a3=>?_
   ·exact (P.is (fun _=>rfl) (by omega) (fun h h'=>FdIs.le h h') (by omega)).le N fun _ _ _ h=>FdIs.le N h
   ·rw [Qu (by omega) (by omega)]
    have Q:Out A B W D3 bo _ { o with re:=(o.re++a)++[⟨v.p,v.b,v.i,dotS m.n v.n,fl⟩] }:=a3
    rw [List.append_assoc] at Q
    exact ⟨⟨i+1,a++[⟨v.p,v.b,v.i,dotS m.n v.n,fl⟩],_,by omega,by omega,a9 _ hw,Q⟩,by first | omega | (dsimp only; omega)⟩
  ·unfold rdF; rw [I]
 ·have a6 : i = l.length := by have := Vc h; omega
  subst a6
  rw [Vl] at R
  exact k _ _ _ R hO
theorem uNevers {T:Tl} {m:MoP} {bp bm:Nat} {sl:Sl} {x:Qa} (hx:x.Name=m.n) (hi:IpL A x.Imports m.im) (hn:m.n.length≤1000) {X:Nat} {B W H0:Heap} {bo:Nat} {q:Qa} {o:MoP} (hO:Out A B W H0 bo q o)
 (h1:W X=some (true,.row (Qa.c x))) (hP:Pr W bp bm sl) (hT:TlIs W bm T) {s:Sl} {l:List NeP} (hs:NpL A s l) (a5:∀ t ∈ l,neOk t.e=true∧t.b.length≤12) (O:o.ne.length+l.length≤1000000) {REST:HP}
 (k:∀ D q' a,mpE (neF T m) l=.ok a→Out A B W D bo q' { o with ne:=o.ne++a }→REST D)
 (ke:∀ D q' o' p,Out A B W D bo q' o'→mpE (neF T m) l=.error p→E (flt m.n p 63) D) :
 lp (α:=Int) 0 H0 (fun u J236 H237=>
 ift (decide ((u:Int) < (Sl.len s:Int)))
 (ixa s u fun p239=>
 ldT H237 Qo.c (p239.1,p239.2+(u:Int).toNat*4) fun x244=>
 nw (Qo.c Qo.zero) (fun b246 H247=>
 stT (b246,0) (Qo.c x244) (fun H248=>
 dr H248 fun Hs249=>
 ldS Hs249 ((X,0).1,(X,0).2+0) fun x251=>
 catOk x251 ([46]:Str)∧
 ldS Hs249 ((b246,0).1,(b246,0).2+2) fun x254=>
 catOk (x251++([46]:Str)) x254∧
 ldT Hs249 Qa.c (X,0) fun x257=>
 ldL Hs249 ((b246,0).1,(b246,0).2+3) fun x259=>
 QaD C E (some (bp,0)) x257 x259 (fun r262 H263=>
 Heap.le Hs249 H263∧
 st ((b246,0).1,(b246,0).2+2) (sv ((x251++([46]:Str))++x254)) (fun H264=>
 st ((b246,0).1,(b246,0).2+3) (slv r262) (fun H265=>
 dr H265 fun Hs266=>
 nck (some (bo,0)) fun p268=>
 ldL Hs266 (p268.1,p268.2+5) fun x270=>
 ldT Hs266 Qo.c (b246,0) fun x272=>
 nw ((Qo.c x272)++[]) (fun b275 H276=>
 Heap.le Hs266 H276∧
 apS (Qo.c Qo.zero) 56 x270 (Sl.of (some (b275,0)) 1 1) (fun r278 H279=>
 Heap.le Hs266 H279∧
 nck (some (bo,0)) fun p280=>
 st (p280.1,p280.2+5) (slv r278) (fun H282=>
 J236 (w .i64 (u+1)) H282) H279) H276) H265) H264) H263) H248) H247) H237)
 (REST H237)):=by
 have Q:=SlIs.len hs
 refine ⟨fun y D=>∃ (i:Nat) (a:List NeP) (q':Qa),y=(i:Int)∧i≤l.length∧mpE (neF T m) (l.take i)=.ok a∧Out A B W D bo q' { o with ne:=o.ne++a },fun y _=>l.length - y.toNat,⟨0,[],q,rfl,Nat.zero_le _,rfl,by rw [List.append_nil]; exact hO⟩,?_⟩
 clear hO
 rintro _ D ⟨i,a,q',rfl,a2,N,hO⟩
 rw [Q]
 have a4:=Qap N
 rw [List.length_take,Nat.min_eq_left a2] at a4
 refine ift.of (fun h=>?_) (fun h=>?_)
 ·have J : i < l.length := by have := Vb h; omega
  refine hs.ld hO.al (fun _=>rfl) (by omega) rfl J fun y hy=>?_
  have z:=a5 _ (Vg J)
  have P:=fun q=>Qgi (e:=q) J N
  have a6:=fun w=>Qeh (w:=w) J N
  generalize l[i]=v at *
  obtain ⟨e1,e4,e5⟩:=hy
  obtain ⟨z,c1⟩:=z
  unfold neOk NeP.e at z
  simp only [Ve,Vj,List.all_map,List.all_eq_true,Function.comp_def] at z
  have c2:=(QbL z.1.1).1
  refine boxZ rfl fun d D1 L S H=>?_
  have f:=hO.up S
  refine ⟨D1,Heap.le.refl _,?_⟩
  refine fS (f.wle _ _ h1) rfl ⟨?_,fS H (j:=2) rfl ⟨?_,bxT (c:=Qa.c) (f.wle _ _ h1) (fL H (j:=3) rfl ?_)⟩⟩
  ·rw [hx]; exact cat1 hn
  ·rw [hx,e4.1]; exact cat2 hn (by omega)
  rw [hx,e4.1]
  refine Qt8 hx hi hn z.2 (by omega) (hP.le f.wle) (hT.le f.wle) f.al e5 (fun r D2 Y F I a0=>?_) (fun D2 q F I=>ke D2 _ _ _ (f.up F) (P _ ?_))
  ·have b2:=Qap I
   have hw:neF T m v=.ok ⟨v.p,dotS m.n v.n,Y⟩:=by unfold neF; rw [I]
   refine ⟨F,_,F _ _ H,by simp [Qo.c],_,Xa ..,by simp [Qo.c],?_⟩
   rw [Xh]
   have hO':=hO.up (QP (m:=true) (g:=.row (Qo.c { y with Name:=dotS m.n v.n,Body:=r })) (S.trans F) L)
   have hb':(D2.put d (.row (Qo.c { y with Name:=dotS m.n v.n,Body:=r }))) d=some (true,.row (Qo.c { y with Name:=dotS m.n v.n,Body:=r })):=Xa ..
   have R:(Heap.nw A D1 D2).le (offB (blks q') (Heap.nw A B (D2.put d (.row (Qo.c { y with Name:=dotS m.n v.n,Body:=r }))))):=Qi4 f.ab f.dom (fun b O=>⟨f.has b O,f.xA b O⟩) H (hO.al.none L)
   have U:d ∉ blks q':=fun hm=>by
    obtain ⟨e,Z⟩:=hO.has d hm
    rw [L] at Z; cases Z
   rw [show Heap.put D2 ((d,0).1,(d,0).2+2).1 (GO.row (List.set (List.set (Qo.c y) ((d,0).1,(d,0).2+2).2 (sv (m.n++[46]++v.n))) ((d,0).1,(d,0).2+3).2 (slv r)))=D2.put d (.row (Qo.c { y with Name:=dotS m.n v.n,Body:=r })) from rfl]
   generalize D2.put d (.row (Qo.c { y with Name:=dotS m.n v.n,Body:=r }))=G at *
   have K:∀ {b:Nat} {e:Bool×GO},b ∉ blks q'→G b=some e→(Heap.off q'.Nevers G) b=some e:=fun {b e} O Z=>Xe Z fun p hp e'=>O (Vh _ (Vh _ (Vh _ (Qgn.2 ⟨p,hp,e'⟩))))
   refine ⟨Heap.off q'.Nevers G,Xj _ _,_,rfl,fL (K hO'.bx hO'.at_) (j:=5) rfl (bxT (c:=Qo.c) (K U hb') ?_)⟩
   refine hO'.addN (x:={ y with Name:=dotS m.n v.n,Body:=r }) (v:=⟨v.p,dotS m.n v.n,Y⟩) (Heap.le.refl _) (QuM _) ⟨e1,⟨rfl,Qj5 hn (by omega)⟩,?_⟩ (by simp only [Va]; omega) fun r D3 a1=>?_
   ·exact (a0.is (fun _=>rfl) (by omega) (fun h h'=>LpIs.le h h') (by omega)).le R fun _ _ _ h=>LpIs.le R h
   ·rw [Qu (by omega) (by omega)]
    have M:Out A B W D3 bo _ { o with ne:=(o.ne++a)++[⟨v.p,dotS m.n v.n,Y⟩] }:=a1
    rw [List.append_assoc] at M
    exact ⟨⟨i+1,a++[⟨v.p,dotS m.n v.n,Y⟩],_,by omega,by omega,a6 _ hw,M⟩,by first | omega | (dsimp only; omega)⟩
  ·unfold neF; rw [I]
 ·have a3 : i = l.length := by have := Vc h; omega
  subst a3
  rw [Vl] at N
  exact k _ _ _ N hO
theorem uRules {T:Tl} {m:MoP} {bp bm:Nat} {sl:Sl} {x:Qa} (hx:x.Name=m.n) (hi:IpL A x.Imports m.im) (hn:m.n.length≤1000) {b1:Nat} {B W H0:Heap} {bo:Nat} {q:Qa} {o:MoP} (hO:Out A B W H0 bo q o)
 (h1:W b1=some (true,.row (Qa.c x))) (hP:Pr W bp bm sl) (hT:TlIs W bm T) {s:Sl} {l:List RuP} (hs:UpL A s l) (f4:∀ t ∈ l,ruOk t.e=true∧t.b.length≤12) (hb:o.ru.length+l.length≤1000000) {REST:HP}
 (k:∀ D q' a,mpE (ruF T m) l=.ok a→Out A B W D bo q' { o with ru:=o.ru++a }→REST D)
 (ke:∀ D q' o' p,Out A B W D bo q' o'→mpE (ruF T m) l=.error p→E (flt m.n p 63) D) :
 lp (α:=Int) 0 H0 (fun L J154 H155=>
 ift (decide ((L:Int) < (Sl.len s:Int)))
 (ixa s L fun p157=>
 ldT H155 Qi.c (p157.1,p157.2+(L:Int).toNat*6) fun x162=>
 nw (Qi.c Qi.zero) (fun b164 H165=>
 stT (b164,0) (Qi.c x162) (fun H166=>
 jn (α:=Unit) (fun x168 H169=>
 dr H169 fun Hs193=>
 ldT Hs193 Qa.c (b1,0) fun x195=>
 ldL Hs193 ((b164,0).1,(b164,0).2+3) fun x197=>
 ldL Hs193 ((b164,0).1,(b164,0).2+4) fun x199=>
 Qav C E (some (bp,0)) x195 x197 (fun r202 H203=>
 Heap.le Hs193 H203∧
 QW C x199 (fun r205 H206=>
 Heap.le Hs193 H206∧
 st ((b164,0).1,(b164,0).2+3) (slv r202) (fun H207=>
 st ((b164,0).1,(b164,0).2+4) (slv r205) (fun H208=>
 ldT H208 Qa.c (b1,0) fun x209=>
 ldL H208 ((b164,0).1,(b164,0).2+5) fun x211=>
 QaD C E (some (bp,0)) x209 x211 (fun r213 H214=>
 st ((b164,0).1,(b164,0).2+5) (slv r213) (fun H215=>
 dr H215 fun Hs216=>
 nck (some (bo,0)) fun p218=>
 ldL Hs216 (p218.1,p218.2+4) fun x220=>
 ldT Hs216 Qi.c (b164,0) fun x222=>
 nw ((Qi.c x222)++[]) (fun b225 H226=>
 Heap.le Hs216 H226∧
 apS (Qi.c Qi.zero) 104 x220 (Sl.of (some (b225,0)) 1 1) (fun r228 H229=>
 Heap.le Hs216 H229∧
 nck (some (bo,0)) fun p230=>
 st (p230.1,p230.2+4) (slv r228) (fun H232=>
 J154 (w .i64 (L+1)) H232) H229) H226) H215) H214) H208) H207) H206) H203) H169)
 (fun J167=>ldT H166 Qa.c (b1,0) fun x171=>
 ldS H166 ((b164,0).1,(b164,0).2+2) fun x173=>
 ldT H166 Qk.c ((b164,0).1,(b164,0).2+0) fun x175=>
 Qaj C E (some (bp,0)) x171 x173 2 x175 (fun r177 H178=>
 st ((b164,0).1,(b164,0).2+2) (sv r177) (fun H179=>
 ldS H179 ((b164,0).1,(b164,0).2+2) fun x180=>
 ldS H179 ((b1,0).1,(b1,0).2+0) fun x182=>
 catOk x182 ([46]:Str)∧
 Qcw C x180 (x182++([46]:Str)) (fun r185 H186=>
 ift (!r185)
 (ldT H186 Qa.c (b1,0) fun x188=>
 ldT H186 Qk.c ((b164,0).1,(b164,0).2+0) fun x190=>
 QH C E x188 x190 63 (fun H192=>
 J167 () H192) H186)
 (J167 () H186)) H179) H178) H166)) H165) H155)
 (REST H155)):=by
 have c9:=SlIs.len hs
 refine ⟨fun y D=>∃ (i:Nat) (a:List RuP) (q':Qa),y=(i:Int)∧i≤l.length∧mpE (ruF T m) (l.take i)=.ok a∧Out A B W D bo q' { o with ru:=o.ru++a },fun y _=>l.length - y.toNat,⟨0,[],q,rfl,Nat.zero_le _,rfl,by rw [List.append_nil]; exact hO⟩,?_⟩
 clear hO
 rintro _ D ⟨i,a,q',rfl,f0,ha,hO⟩
 rw [c9]
 have f2:=Qap ha
 rw [List.length_take,Nat.min_eq_left f0] at f2
 refine ift.of (fun h=>?_) (fun h=>?_)
 ·have a6 : i < l.length := by have := Vb h; omega
  refine hs.ld hO.al (fun _=>rfl) (by omega) rfl a6 fun y hy=>?_
  have a1:=f4 _ (Vg a6)
  have K:=fun q=>Qgi (e:=q) a6 ha
  have f6:=fun w=>Qeh (w:=w) a6 ha
  generalize l[i]=v at *
  obtain ⟨e1,e2,e3,e4,e5⟩:=hy
  obtain ⟨a1,g6⟩:=a1
  unfold ruOk RuP.e at a1
  simp only [Ve,Vj,List.all_map,List.all_eq_true,Function.comp_def,List.length_map] at a1
  obtain ⟨⟨⟨⟨⟨t1,t2⟩,t3⟩,t4⟩,t5⟩,t6⟩:=a1
  have g8:=(Qka t1).1
  refine boxZ rfl fun d D1 a4 d2 b2=>?_
  have U:=hO.up d2
  have R:=hO.al.none a4
  have d3:d ∉ blks q':=fun hm=>by
   obtain ⟨e,O⟩:=hO.has d hm
   rw [a4] at O; cases O
  refine ⟨fun _ F=>∃ f,meanF T m v.r 2=some f∧(m.n++[46]).isPrefixOf f=true∧D.le F∧F d=some (true,.row (Qi.c { y with Rel:=f }))∧Nm f f,?_,?_⟩
  ·refine bxT (c:=Qa.c) (U.wle _ _ h1) (fS b2 (j:=2) rfl (fPs (x:=y.Pos) b2 rfl rfl ?_))
   refine Qq3 (hP.le U.wle) (hT.le U.wle) hx hi U.al e2.1 e1 (by omega) hn (fun r F hF hr=>?_) (fun F hF hr=>ke F _ _ _ (U.up hF) (K _ ?_))
   ·have c1:=hF _ _ b2
    have g7:=Qf0 (B:=1000) (by omega) hn hr
    refine ⟨_,c1,by simp [Qi.c],?_⟩
    rw [show Heap.put F ((d,0).1,(d,0).2+2).1 (GO.row (List.set (Qi.c y) ((d,0).1,(d,0).2+2).2 (sv r)))=F.put d (.row (Qi.c { y with Rel:=r })) from rfl]
    have c0:D.le (F.put d (.row (Qi.c { y with Rel:=r }))):=QP (d2.trans hF) a4
    have z:(F.put d (.row (Qi.c { y with Rel:=r }))) d=some (true,.row (Qi.c { y with Rel:=r })):=Xa ..
    generalize F.put d (.row (Qi.c { y with Rel:=r }))=G at *
    have b5:=hO.up c0
    refine fS z (j:=2) rfl (fS (b5.wle _ _ h1) rfl ⟨?_,?_⟩)
    ·rw [hx]; exact cat1 hn
    rw [hx]
    apply Qgm
    unfold QdU
    refine Qj8 (ift.of (fun h=>?_) (fun h=>?_))
    ·refine bxT (c:=Qa.c) (b5.wle _ _ h1) (fPs (x:=y.Pos) z rfl rfl ?_)
     refine Qei hx e1 fun D2 e6=>ke D2 _ _ _ (b5.up e6) (K _ ?_)
     unfold ruF
     rw [hr]
     dsimp only
     rw [if_pos (by simpa using h)]
    ·exact ⟨r,hr,by simpa using h,c0,z,rfl,by omega⟩
   ·unfold ruF; rw [hr]
  ·rintro _ F ⟨f,b7,a0,J,z,f3⟩
   have M:=hO.up J
   refine ⟨F,Heap.le.refl _,?_⟩
   refine bxT (c:=Qa.c) (M.wle _ _ h1) (fL z (j:=3) rfl (fL z (j:=4) rfl ?_))
   have f5:∀ q,mpE (exF T m) v.a=.error q→ruF T m v=.error q:=fun q hq=>by
    unfold ruF
    rw [b7]
    dsimp only
    rw [if_neg (by rw [a0]; decide),hq]
   refine QrE hx hi hn (QoF t4) (by omega) (hP.le M.wle) (hT.le M.wle) M.al e3 (fun H H3 la u Z c2=>?_) (fun H3 q u hq=>ke H3 _ _ _ (M.up u) (K _ (f5 _ hq)))
   refine ⟨u,?_⟩
   have b4:=M.up u
   refine cloneS e4 b4.al (by omega) fun I H4 b9 c3=>?_
   have b3:=u.trans b9
   refine ⟨b3,_,b3 _ _ z,by simp [Qi.c],_,Xa ..,by simp [Qi.c],?_⟩
   rw [Xh]
   have S:D.le (H4.put d (.row (Qi.c { y with Rel:=f,Args:=H,Aggs:=I }))):=QP (J.trans b3) a4
   have b6:(H4.put d (.row (Qi.c { y with Rel:=f,Args:=H,Aggs:=I }))) d=some (true,.row (Qi.c { y with Rel:=f,Args:=H,Aggs:=I })):=Xa ..
   have e0:∀ {b:Nat} {e:Bool×GO},b≠d→H4 b=some e→(H4.put d (.row (Qi.c { y with Rel:=f,Args:=H,Aggs:=I }))) b=some e:=fun {b e} hb O=>by rw [Xb _ _ _ hb]; exact O
   rw [show Heap.put H4 ((d,0).1,(d,0).2+3).1 (GO.row (List.set (List.set (Qi.c { y with Rel:=f }) ((d,0).1,(d,0).2+3).2 (slv H)) ((d,0).1,(d,0).2+4).2 (slv I)))=H4.put d (.row (Qi.c { y with Rel:=f,Args:=H,Aggs:=I })) from rfl]
   generalize H4.put d (.row (Qi.c { y with Rel:=f,Args:=H,Aggs:=I }))=H5 at *
   have Y:=hO.up S
   refine bxT (c:=Qa.c) (Y.wle _ _ h1) (fL b6 (j:=5) rfl ?_)
   refine Qt8 hx hi hn t5 (by omega) (hP.le Y.wle) (hT.le Y.wle) Y.al e5 (fun P H6 lb Q c8 c4=>?_) (fun H6 q Q hq=>ke H6 _ _ _ (Y.up Q) (K _ ?_))
   ·have f7:=Qap Z
    have f8:=Qap c8
    have hw:ruF T m v=.ok ⟨v.p,f,la,v.g,lb⟩:=by
     unfold ruF
     rw [b7]
     dsimp only
     rw [if_neg (by rw [a0]; decide),Z]
     dsimp only
     rw [c8]
    refine ⟨_,Q _ _ b6,by simp [Qi.c],?_⟩
    rw [show Heap.put H6 ((d,0).1,(d,0).2+5).1 (GO.row (List.set (Qi.c { y with Rel:=f,Args:=H,Aggs:=I }) ((d,0).1,(d,0).2+5).2 (slv P)))=H6.put d (.row (Qi.c { y with Rel:=f,Args:=H,Aggs:=I,Body:=P })) from rfl]
    have hO':=hO.up (QP (m:=true) (g:=.row (Qi.c { y with Rel:=f,Args:=H,Aggs:=I,Body:=P })) (S.trans Q) a4)
    have e9:(H6.put d (.row (Qi.c { y with Rel:=f,Args:=H,Aggs:=I,Body:=P }))) d=some (true,.row (Qi.c { y with Rel:=f,Args:=H,Aggs:=I,Body:=P })):=Xa ..
    have up:∀ {X:Heap},X.le H4→(X.put d (.row (Qi.c { y with Rel:=f,Args:=H,Aggs:=I,Body:=P }))).le (H6.put d (.row (Qi.c { y with Rel:=f,Args:=H,Aggs:=I,Body:=P }))):=fun {X} hX b e O=>by
     by_cases hbb:b=d
     ·subst hbb; rw [Xa] at O ⊢; exact O
     ·rw [Xb _ _ _ hbb] at O ⊢
      exact Q b e (e0 hbb (hX b e O))
    have hX:∀ {F:Heap},D.le F→∀ b ∈ blks q',(∃ e,F b=some e)∧A b=none:=fun {F} hF b hb=>⟨by obtain ⟨e,O⟩:=hO.has b hb; exact ⟨e,hF _ _ O⟩,hO.xA b hb⟩
    have N:∀ {F:Heap},D.le F→∀ b,F b=none→B b=none:=fun {F} hF b hb=>hO.dom b (hF.none hb)
    have a2:=(Qi4 (G:=H3) (g:=.row (Qi.c { y with Rel:=f,Args:=H,Aggs:=I,Body:=P })) hO.ab (N J) (hX J) z R).trans (QdT (up b9))
    have a9:=(Qi4 (G:=H4) (g:=.row (Qi.c { y with Rel:=f,Args:=H,Aggs:=I,Body:=P })) hO.ab (N (J.trans u)) (hX (J.trans u)) (u _ _ z) R).trans (QdT (up (Heap.le.refl _)))
    have a3:=Qi4 (G:=H6) (g:=.row (Qi.c { y with Rel:=f,Args:=H,Aggs:=I,Body:=P })) hO.ab (N S) (hX S) b6 R
    generalize H6.put d (.row (Qi.c { y with Rel:=f,Args:=H,Aggs:=I,Body:=P }))=G at *
    have a8:∀ {b:Nat} {e:Bool×GO},b ∉ blks q'→G b=some e→(Heap.off q'.Rules G) b=some e:=fun {b e} hb O=>Xe O fun p hp e'=>hb (Vh _ (Vh _ (Vi _ (Qgn.2 ⟨p,hp,e'⟩))))
    refine ⟨Heap.off q'.Rules G,Xj _ _,_,rfl,fL (a8 hO'.bx hO'.at_) (j:=4) rfl (bxT (c:=Qi.c) (a8 d3 e9) ?_)⟩
    refine hO'.addU (x:={ y with Rel:=f,Args:=H,Aggs:=I,Body:=P }) (v:=⟨v.p,f,la,v.g,lb⟩) (Heap.le.refl _) (Qwy _) ⟨⟨e1,f3,?_,?_,?_⟩,(c2.ow.le a2).base (N J),(c3.ow.le a9).base (N (J.trans u)),(c4.ow.le a3).base (N S)⟩ (by simp only [Va]; omega) fun r D3 b4=>?_
    ·exact (c2.is (fun _=>rfl) (by omega) (fun h h'=>EpIs.le h _ _ h') (by omega)).le a2 fun _ _ _ h=>EpIs.le a2 _ _ h
    ·exact (c3.is (fun _=>rfl) (by omega) (fun _ h=>h) (by omega)).le a9 fun _ _ _ h=>h
    ·exact (c4.is (fun _=>rfl) (by omega) (fun h h'=>LpIs.le h h') (by omega)).le a3 fun _ _ _ h=>LpIs.le a3 h
    ·rw [Qu (by omega) (by omega)]
     have c5:Out A B W D3 bo _ { o with ru:=(o.ru++a)++[⟨v.p,f,la,v.g,lb⟩] }:=b4
     rw [List.append_assoc] at c5
     exact ⟨⟨i+1,a++[⟨v.p,f,la,v.g,lb⟩],_,by omega,by omega,f6 _ hw,c5⟩,by first | omega | (dsimp only; omega)⟩
   ·unfold ruF
    rw [b7]
    dsimp only
    rw [if_neg (by rw [a0]; decide),Z]
    dsimp only
    rw [hq]
 ·have f1 : i = l.length := by have := Vc h; omega
  subst f1
  rw [Vl] at ha
  exact k _ _ _ ha hO
end
end
section
open Go Go.Proofs
theorem moC0 {m:MoV} (h:moC m=0):moD m≤64∧moOk m=true∧moFew m=true:=by
 unfold moC at h
 split at h
 ·cases h
 ·split at h
  ·cases h
  ·split at h
   ·cases h
   ·rename_i f b d
    exact ⟨by omega,by simpa using b,by simpa using d⟩
structure MoG (m:MoP):Prop where
 n:m.n.length≤32
 im:∀ x ∈ m.im,x.n.length≤32
 ty:∀ t ∈ m.ty,tdOk t.e=true
 re:∀ t ∈ m.re,rdOk t.e=true
 ru:∀ t ∈ m.ru,ruOk t.e=true∧t.b.length≤12
 ne:∀ t ∈ m.ne,neOk t.e=true∧t.b.length≤12
 li:m.im.length≤8
 lt:m.ty.length≤64
 lr:m.re.length≤64
 lu:m.ru.length≤256
 ln:m.ne.length≤256
theorem moG {m:MoP} (h:moC m.e=0):MoG m:=by
 obtain ⟨_,d,f⟩:=moC0 h
 unfold moOk moFew MoP.e at *
 simp only [Ve,Vj,List.all_map,List.all_eq_true,Function.comp_def,List.length_map,RuP.e,NeP.e] at d f
 obtain ⟨⟨⟨⟨⟨g,i⟩,j⟩,o⟩,q⟩,r⟩:=d
 obtain ⟨⟨⟨⟨⟨⟨u,y⟩,b3⟩,z⟩,b5⟩,A⟩,B⟩:=f
 exact ⟨(QbL g).1,fun x hx=>(QbL (i x hx)).1,j,o,fun t b=>⟨q t b,A t b⟩,fun t b=>⟨r t b,B t b⟩,u,y,b3,z,b5⟩
section
variable {C:Ctx} {A B W H:Heap} {E:Value→HP}
theorem Qxy {T:Tl} {m o:MoP} {S bm bo:Nat} {sl:Sl} {x q:Qa} {K:HP} (hO:Out A B W H bo q o) (hP:Pr W S bm sl) (hT:TlIs W bm T) (hm:MpIs A m x) (hg:MoG m)
 (r:o.ty.length≤900000∧o.re.length≤900000∧o.ru.length≤900000∧o.ne.length≤900000)
 (k:∀ D q' o',usedF T o m=.ok o'→Out A B W D bo q' o'→K D) (ke:∀ D q' o' p,Out A B W D bo q' o'→usedF T o m=.error p→E (flt m.n p 63) D):Qc8 C E (some (S,0)) (some (bo,0)) x K H:=by
 obtain ⟨N,O,m3,m4,m5,m6⟩:=hm
 have hn:=hg.n
 have gt:=hg.lt
 have gr:=hg.lr
 have gu:=hg.lu
 have gn:=hg.ln
 apply Qjw
 unfold QfG
 refine box1N fun t H2 n1 e1 l1 h1=>fL h1 (j:=2) rfl ?_
 have F:=hO.up l1
 have R:W t=none:=hO.wle.none n1
 have i:W.le (W.put t (.row (Qa.c x))):=Xc R
 have f:(W.put t (.row (Qa.c x))) t=some (true,.row (Qa.c x)):=Xa ..
 have M:∀ b,(∃ e,H b=some e)→b≠t:=fun b ⟨e,X⟩ Z=>by rw [Z,n1] at X; cases X
 have P:Out A B (W.put t (.row (Qa.c x))) H2 bo q o:=F.keep (F.aw.trans i) (by
  rw [e1]
  intro b e r
  by_cases hbb:b=t
  ·subst hbb; rw [Xa] at r ⊢; exact r
  ·rw [Xb _ _ _ hbb] at r ⊢; exact hO.wle b e r) (by rw [Xb _ _ _ (M bo ⟨_,hO.at_⟩)]; exact hO.wo) fun b r=>by rw [Xb _ _ _ (M b (hO.has b r))]; exact (hO.fr b r).2
 have back:∀ {D q' o'},Out A B (W.put t (.row (Qa.c x))) D bo q' o'→Out A B W D bo q' o':=fun h=>h.keep hO.aw (i.trans h.wle) hO.wo fun b r=>i.none (h.fr b r).2
 have u:=hP.le i
 have y:=hT.le i
 generalize W.put t (.row (Qa.c x))=W1 at *
 refine uTypes N.1 O.1 (by omega) P f u y m3 hg.ty (by omega) (fun D1 q1 a L G=>?_) (fun D q' o' p g hp=>ke D q' o' p (back g) (by unfold usedF; rw [hp]))
 have la:=Qap L
 refine fL (G.wle _ _ f) (j:=3) rfl ?_
 refine uRels N.1 O.1 (by omega) G f u y m4 hg.re (by dsimp only; omega) (fun D2 q2 b z I=>?_) (fun D q' o' p g hp=>ke D q' o' p (back g) (by unfold usedF; rw [L]; dsimp only; rw [hp]))
 refine fL (I.wle _ _ f) (j:=4) rfl ?_
 refine uRules N.1 O.1 (by omega) I f u y m5 hg.ru (by dsimp only; omega) (fun D3 q3 c U J=>?_) (fun D q' o' p g hp=>ke D q' o' p (back g) (by unfold usedF; rw [L]; dsimp only; rw [z]; dsimp only; rw [hp]))
 refine fL (J.wle _ _ f) (j:=5) rfl ?_
 refine uNevers N.1 O.1 (by omega) J f u y m6 hg.ne (by dsimp only; omega) (fun Y q4 d hd Q=>?_) (fun D q' o' p g hp=>ke D q' o' p (back g) (by unfold usedF; rw [L]; dsimp only; rw [z]; dsimp only; rw [U]; dsimp only; rw [hp]))
 exact k Y q4 _ (by unfold usedF; rw [L]; dsimp only; rw [z]; dsimp only; rw [U]; dsimp only; rw [hd]) (back Q)
end
end
section
open Go Go.Proofs
theorem QoK (ps:List Str):∀ l:List TyV,freeTys ps l=l.any (freeTy ps)
 | []=>rfl
 | v::l=>by rw [freeTys,QoK ps l,List.any_cons]
theorem QtA (ps:List Str) (v:TyV):freeTy ps v=if v.n.headD 0=39 then !ps.contains v.n else v.a.any (freeTy ps):=by
 obtain ⟨n,a⟩:=v
 rw [freeTy,QoK]; rfl
theorem SlIs.nil {α β:Type} {R:α→β→Prop} {c:β→List Value} {A:Heap}:SlIs R c A Sl.nil ([]:List α):=⟨[],.inl rfl,rfl,rfl,by simp,fun i v x h=>by simp at h⟩
theorem Qs1 {β:Type} {c:β→List Value} {z:Nat} (hz:∀ x,(c x).length=z):∀ (n:Nat) (xs:List β),(xs.take n).flatMap c=(xs.flatMap c).take (n*z)
 | 0,xs=>by simp
 | n+1,[]=>by simp
 | n+1,x::xs=>by
  rw [List.take_succ_cons,List.flatMap_cons,List.flatMap_cons,Qs1 hz n xs,List.take_append,hz,List.take_of_length_le (l:=c x) (by rw [hz,Nat.succ_mul]; omega),Nat.succ_mul,Nat.add_sub_cancel]
theorem X4 {α β:Type} {R:α→β→Prop} {c:β→List Value} {z:Nat} {A:Heap} {s:Sl} {l:List α} {i:Nat} {e:Int} {K:Sl→Prop} (h:SlIs R c A s l) (hz:∀ x,(c x).length=z) (hc:s.len≤s.cap) (he:e=(i:Int)) (hi:i≤l.length) (k:∀ t,SlIs R c A t (l.take i)→K t):slL s 0 e (s.cap:Int) z K:=by
 subst he
 obtain ⟨xs,h1,h2,h3,h4,h5⟩:=h
 have r1:=QtM h1 (lo:=0) (hi:=(i:Int)) (mx:=(s.cap:Int)) (z:=z) (by omega) (by omega) (by omega) (by simp)
 rw [show (0:Int).toNat*z=0 by simp,List.drop_zero,show ((i:Int) - 0).toNat=i by omega,← Qs1 hz] at r1
 simp only [show ((s.cap:Int) - 0).toNat=s.cap by omega] at r1
 refine ⟨by omega,by omega,by omega,by omega,_,rfl,k _ ⟨xs.take i,?_,?_,?_,?_,?_⟩⟩
 ·simpa using r1
 ·simp only [List.length_take]; omega
 ·simp only [List.length_take]; omega
 ·simp only [List.length_take]; omega
 ·intro j v x hv hx
  rw [List.getElem?_take] at hv hx
  split at hv
  ·rename_i hj
   rw [if_pos hj] at hx
   exact h5 j v x hv hx
  ·cases hv
section
variable {C:Ctx} {A:Heap} {E:Value→HP}
theorem QwY:∀ (v:TyV),tyOk v=true→∀ {t:Qf} {H:Heap} {s:Sl} {ps:List Str} {K:Bool→HP},A.le H→TyIs A v t→StL A s ps→(∀ D,H.le D→K (freeTy ps v) D)→QgG C t s K H:=by
 refine TyV.rec_ fun v O f t H s ps K m M z k=>?_
 obtain ⟨G,f⟩:=(Qn8 v).1 f
 obtain ⟨L,q,I⟩:=Qn7 G
 obtain ⟨i,r⟩:=Qb7.1 M
 rw [QtA] at k
 apply Qpj
 unfold Qln
 refine box1N fun T H2 n1 _ P g=>box1N fun b3 S n3 _ E u=>?_
 have g:=E _ _ g
 have b:=P.trans E
 refine fS g rfl ?_
 rw [i.1]
 obtain ⟨c,cs,x⟩:=List.exists_cons_of_ne_nil q
 refine ⟨c,by omega,by rw [x]; rfl,?_⟩
 have J:v.n.headD 0=c:=by rw [x]; rfl
 rw [J] at k
 refine ift.of (fun h=>?_) (fun h=>?_)
 ·have d : c = 39 := by
   have h':(c.toNat:Int)=39:=by simpa using h
   have:c.toNat=39:=by omega
   exact UInt8.toNat_inj.1 (by rw [this]; rfl)
  rw [if_pos d] at k
  refine ⟨s,by rw [Qaq u]; rfl,fS g rfl ?_⟩
  rw [i.1]
  exact contS z (m.trans b) (k _ b)
 ·have d : c ≠ 39 := fun e => by rw [e] at h; exact absurd h (by decide)
  rw [if_neg d] at k
  refine fL g rfl ?_
  refine cfType (R:=TyIs A) (ok:=freeTy ps) r (m.trans b) ?_ fun D j=>k D (b.trans j)
  intro w B y D Φ j hy N
  refine ⟨203,[],[pv (some (b3,0))],rfl,Qjd,QnP C y (b3,0) Φ D ?_⟩
  unfold Qjj
  refine box1N fun U Q _ _ l2 F=>bxT (c:=Qf.c) F ⟨s,by rw [Qaq (l2 _ _ (j _ _ u))]; rfl,?_⟩
  exact O w B (f w B) ((m.trans b).trans (j.trans l2)) hy z fun D2 o=>N D2 (l2.trans o)
theorem QuP {H:Heap} {s q:Sl} {ps:List Str} {l:List FdV} {K:Bool→HP} (o:A.le H) (z:FdL A q l) (h:∀ f ∈ l,tyOk f.t=true) (B:StL A s ps) (k:∀ D,H.le D→K (openF ps l) D):QgH C q s K H:=by
 apply Qpk
 unfold Qlo
 refine box1N fun m H2 n1 _ j r=>?_
 refine cfFieldDef (R:=FdIs A) (ok:=fun f=>freeTy ps f.t) z (o.trans j) ?_ fun D d=>k D (j.trans d)
 intro w E y D Φ d hy F
 refine ⟨153,[],[pv (some (m,0))],rfl,Qje,QnQ C y (m,0) Φ D ?_⟩
 unfold Qjk
 refine box1N fun I G _ _ l2 u=>fT (c:=Qf.c) (x:=y.Type_) u (fun i v b=>by match i,b with | 0,b=>exact b | 1,b=>exact b) ⟨s,by rw [Qaq (l2 _ _ (d _ _ r))]; rfl,?_⟩
 exact QwY w.t (h w E) ((o.trans j).trans (d.trans l2)) hy.2 B fun D2 g=>F D2 (l2.trans g)
end
def Kp (bm:Nat) (H D:Heap):Prop:=(H.del bm).le D
section
variable {bm:Nat} {A H D D2:Heap}
theorem Kp.of (h:H.le D):Kp bm H D:=(Xf _ _).trans h
theorem Kp.refl:Kp bm H H:=Xf _ _
theorem Kp.at_ (h:Kp bm H D) {b:Nat} {e:Bool×GO} (d:b≠bm) (f:H b=some e):D b=some e:=h b e (by rw [Xd _ d]; exact f)
theorem Kp.trans (h:Kp bm H D) (i:Kp bm D D2):Kp bm H D2:=fun b e f=>by
 have d:b≠bm:=fun g=>by rw [g,Xg] at f; cases f
 rw [Xd _ d] at f
 exact i.at_ d (h.at_ d f)
theorem Kp.al (h:Kp bm H D) (g:A.le H) (hn:A bm=none):A.le D:=fun b e d=>h.at_ (fun f=>by rw [f,hn] at d; cases d) (g b e d)
theorem Kp.pr {b bq:Nat} {sl:Sl} (h:Kp bm H D) (hn:b≠bm) (d:Pr H b bq sl):Pr D b bq sl:=by
 obtain ⟨m,d⟩:=d.at_
 exact ⟨m,h.at_ hn d⟩
theorem TlIs.has {T:Tl} (h:TlIs H bm T):∃ e,H bm=some e:=by
 obtain ⟨l,⟨f,d,b⟩,_⟩:=h
 exact ⟨_,b.at_⟩
end
theorem Qn3 {κ α:Type} [DecidableEq κ] {k k2:κ} {b:α}:∀ {T:List (κ×α)},lkL k T=none→lkL k2 (T++[(k,b)])=if k2=k then some b else lkL k2 T
 | [],_=>by
  by_cases h:k2=k
  ·simp [lkL,h]
  ·simp [lkL,h,Ne.symm h,eq_comm]
 | p::T,hn=>by
  simp only [lkL] at hn
  by_cases hp:p.1=k
  ·rw [if_pos hp] at hn; cases hn
  ·rw [if_neg hp] at hn
   simp only [List.cons_append,lkL,Qn3 hn]
   by_cases h2:p.1=k2
   ·rw [if_pos h2,if_pos h2,if_neg fun e=>hp (h2.trans e)]
   ·rw [if_neg h2,if_neg h2]
section
variable {C:Ctx} {A:Heap} {E:Value→HP}
theorem Qrc {H:Heap} {T:Tl} {q bm:Nat} {sl:Sl} {x:Qa} {own:Str} {kind:Int} {d:Bool} {K:Bool→HP} (N:Pr H q bm sl) (t:q≠bm) (E:TlIs H bm T)
 (k:∀ D,Kp bm H D→TlIs D bm (tellF T (x.Name,own,kind) d).2→K (tellF T (x.Name,own,kind) d).1 D):QaG C (some (q,0)) x own kind d K H:=by
 apply Qjv
 unfold QfF
 refine box1N fun P H2 n1 _ I r=>fS r rfl ?_
 refine boxZ rfl fun b5 H7 L O B=>?_
 have f:=I.trans O
 obtain ⟨e0,j⟩:=E.has
 have A:b5≠bm:=fun e=>by rw [e,I _ _ j] at L; cases L
 obtain ⟨_,m⟩:=(N.le f).at_
 obtain ⟨J,hm,o⟩:=E.le f
 refine ⟨_,rfl,some bm,by rw [Qaq m]; rfl,bxT (c:=Qy.c) B ?_⟩
 show lkM kp3 encB false (some bm) ((x.Name,own,kind):Ky) _ H7
 refine hm.is.lk (fun b G=>?_) (fun i=>?_)
 ·rw [o] at G
  have u:tellF T (x.Name,own,kind) d=(false,T):=by unfold tellF; rw [G]
  rw [u] at k
  refine ⟨fun _ F=>F=H7,ift.of (fun h=>by simp at h) (fun _=>rfl),?_⟩
  rintro _ _ rfl
  exact k _ (Kp.of f) ⟨J,hm,o⟩
 ·rw [o] at i
  have u:tellF T (x.Name,own,kind) d=(true,T++[((x.Name,own,kind),d)]):=by unfold tellF; rw [i]
  rw [u] at k
  refine ⟨fun _ F=>Kp bm H F∧TlIs F bm (T++[((x.Name,own,kind),d)]),ift.of (fun _=>?_) (fun h=>by simp at h),?_⟩
  ·refine ⟨H7.del bm, Xf _ _, _, rfl, some bm, by rw [Qaq (by rw [Xd _ t]; exact m)]; rfl, bxT (c := Qy.c) (by rw [Xd _ A]; exact B) ?_⟩
   refine ⟨bm,J,rfl,hm,fun g l2 z y _=>⟨Xk (Xf _ _),?_,l2,z,fun k2=>?_⟩⟩
   ·exact Xk ((Kp.of f:Kp bm H H7))
   ·rw [y,Qn3 i,o]
  ·rintro _ F ⟨r,M⟩
   exact k F r M
end
end
section
open Go Go.Proofs
theorem QbK {α:Type} {l:List α} {i:Nat} (h:i < l.length):l.drop i=l[i]::l.drop (i+1):=List.drop_eq_getElem_cons h
theorem QtH {l:List Str} {i:Nat} (h:i < l.length):decide (l.take (i+1)).Nodup=(decide (l.take i).Nodup && !(l.take i).contains l[i]):=by
 rw [Vp,Vf h,Vo,Vn]
 simp only [Vj,Ve,Bool.not_eq_true',List.nodup_append,List.nodup_cons,List.mem_singleton]
 constructor
 ·rintro ⟨f,_,d⟩
  refine ⟨f,?_⟩
  cases hc:(l.take i).contains l[i] with
  | false=>rfl
  | true=>exact absurd rfl (d _ (List.contains_iff_mem.1 hc) _ rfl)
 ·rintro ⟨f,d⟩
  refine ⟨f,by simp,fun a g b j e=>?_⟩
  subst j; subst e
  rw [List.contains_iff_mem.2 g] at d; cases d
theorem QxH {c:CnV} (h:cnOk c=true):∀ f ∈ c.f,tyOk f.t=true:=by
 unfold cnOk at h
 rw [Ve] at h
 exact (QlT h.2).2
section
variable {C:Ctx} {A:Heap} {E:Value→HP}
theorem QvL {H:Heap} {T:Tl} {m:MoP} {bp bm:Nat} {sl:Sl} {x:Qa} {K:HP} (hA:A.le H) (a3:A bm=none) (hP:Pr H bp bm sl) (P:bp≠bm) (hT:TlIs H bm T) (hm:MpIs A m x) (hg:MoG m)
 (k:∀ D T',namesF m T=.ok T'→Kp bm H D→TlIs D bm T'→K D) (ke:∀ D e,namesF m T=.error e→Kp bm H D→E (flt e.1 e.2.1 e.2.2) D):QcU C E (some (bp,0)) x K H:=by
 obtain ⟨m1,m2,m3,m4,m5,m6⟩:=hm
 apply QiE
 unfold Qfj
 refine box1N fun b1 H2 n1 _ l1 X=>fL X (j:=2) rfl ?_
 have a2:=hA.trans l1
 have b5:=hP.le l1
 have e6:=hT.le l1
 obtain ⟨e0,c7⟩:=hT.has
 have I:b1≠bm:=fun e=>by rw [e,c7] at n1; cases n1
 have f0:=SlIs.len m3
 have g7:=SlIs.bd m3
 have k:∀ D T',namesF m T=.ok T'→Kp bm H2 D→TlIs D bm T'→K D:=fun D T' X h2=>k D T' X ((Kp.of l1).trans h2)
 have ke:∀ D e,namesF m T=.error e→Kp bm H2 D→E (flt e.1 e.2.1 e.2.2) D:=fun D e X h2=>ke D e X ((Kp.of l1).trans h2)
 clear hA hP hT
 refine ⟨fun y D=>Kp bm H2 D∧∃ (i:Nat) (L:Tl),y=(i:Int)∧i≤m.ty.length∧TlIs D bm L∧namesTy m.n m.ty T=namesTy m.n (m.ty.drop i) L,fun y _=>m.ty.length - y.toNat,⟨Kp.refl,0,T,rfl,Nat.zero_le _,e6,by rw [List.drop_zero]⟩,?_⟩
 rintro _ D ⟨O,i,L,rfl,hi,q,hn⟩
 rw [f0]
 refine ift.of (fun h=>?_) (fun h=>?_)
 ·have J : i < m.ty.length := by have := Vb h; omega
  refine jn.inl ?_
  refine m3.ld (O.al a2 a3) (fun _=>rfl) (by omega) rfl J fun y hy=>?_
  have a1:=hg.ty _ (Vg J)
  rw [QbK J] at hn
  generalize m.ty[i]=t at *
  obtain ⟨e1,e2,e3,e4,e5⟩:=hy
  unfold tdOk TdP.e at a1
  simp only [Ve,Vj,List.all_eq_true] at a1
  have e8:∀ c ∈ t.cs,cnOk c=true:=a1.2
  refine boxZ rfl fun Y D1 W U G=>?_
  obtain ⟨e',Q⟩:=q.has
  have M:Y≠bm:=fun e=>by rw [e,Q] at W; cases W
  have u:=O.trans (Kp.of U)
  refine bxT (c:=Qa.c) (u.at_ I X) (fS G (j:=3) rfl (fB G (j:=2) rfl ?_))
  rw [e3.1,e2]
  refine Qrc (u.pr P b5) P (q.le U) fun D2 B o=>?_
  rw [m1.1] at o ⊢
  have d:=u.trans B
  have h20':=B.at_ M G
  refine fL h20' (j:=4) rfl ?_
  have f4:=SlIs.len e4.1
  have g6:=SlIs.bd e4.1
  refine ⟨fun y' D'=>D' = D2∧∃ j:Nat,y' = ((tellF L (m.n,t.n,0) t.b).1 && decide (t.ps.take j).Nodup,(j:Int))∧j≤t.ps.length,fun y' _=>t.ps.length - y'.2.toNat,⟨rfl,0,by simp,Nat.zero_le _⟩,?_⟩
  rintro _ D3 ⟨d7,j,rfl,hj⟩
  subst d7
  rw [f4]
  have Z:=d.al a2 a3
  refine ift.of (fun h=>?_) (fun h=>?_)
  ·have a9 : j < t.ps.length := by have := Vb h; omega
   refine SlIs.at_ e4.1 Z (z:=1) (fun _=>rfl) (by omega) rfl a9 fun p y1 c2 hr=>⟨y1,hr 0 _ rfl,?_⟩
   rw [c2.1]
   refine ⟨fun b F=>F=D3∧b=((tellF L (m.n,t.n,0) t.b).1 && decide (t.ps.take (j+1)).Nodup),?_,?_⟩
   ·rw [QtH a9]
    refine ift.of (fun h=>?_) (fun h=>?_)
    ·refine fL h20' (j:=4) rfl ?_
     refine X4 e4.1 (z:=1) (fun _=>rfl) e4.2 rfl (by omega) fun h5 c8=>?_
     refine contS c8 Z ⟨rfl,?_⟩
     have h:((tellF L (m.n,t.n,0) t.b).1 && decide (t.ps.take j).Nodup)=true:=h
     rw [← Bool.and_assoc,h,Bool.true_and]
    ·have h:((tellF L (m.n,t.n,0) t.b).1 && decide (t.ps.take j).Nodup)=false:=h
     exact ⟨rfl,by rw [← Bool.and_assoc,h]; rfl⟩
   ·rintro b _ ⟨rfl,rfl⟩
    rw [Qu (by dsimp only; omega) (by dsimp only; omega)]
    exact ⟨⟨rfl,j+1,rfl,by omega⟩,by first | omega | (dsimp only; omega)⟩
  ·have c0 : j = t.ps.length := by have := Vc h; omega
   subst c0
   rw [Vl]
   refine fL h20' (j:=5) rfl ?_
   have f3:=SlIs.len e5
   have g5:=SlIs.bd e5
   have N:tyNm m.n t L=csNm m.n t.b ((tellF L (m.n,t.n,0) t.b).1 && decide t.ps.Nodup,(tellF L (m.n,t.n,0) t.b).2) t.cs:=rfl
   generalize ((tellF L (m.n,t.n,0) t.b).1 && decide t.ps.Nodup)=ok0 at *
   generalize ((tellF L (m.n,t.n,0) t.b).2)=T2 at *
   refine ⟨fun y' D'=>Kp bm D1 D'∧∃ (j:Nat) (ok:Bool) (T3:Tl),y' = (ok,(j:Int))∧j≤t.cs.length∧TlIs D' bm T3∧tyNm m.n t L=csNm m.n t.b (ok,T3) (t.cs.drop j),fun y' _=>t.cs.length - y'.2.toNat,⟨B,0,ok0,T2,rfl,Nat.zero_le _,o,by rw [List.drop_zero]; exact N⟩,?_⟩
   clear B d h20' o N Z
   rintro _ D3 ⟨a0,j,ok,T3,rfl,hj,c5,N⟩
   have g:=u.trans a0
   have Z:=g.al a2 a3
   have h20':=a0.at_ M G
   rw [f3]
   refine ift.of (fun h=>?_) (fun h=>?_)
   ·have a9 : j < t.cs.length := by have := Vb h; omega
    refine e5.ld Z (fun _=>rfl) (by omega) rfl a9 fun y1 c2=>?_
    rw [QbK a9] at N
    generalize t.cs[j]=c at *
    refine boxZ rfl fun g4 D4 h4 b6 d5=>?_
    have a4:=g.trans (Kp.of b6)
    refine bxT (c:=Qa.c) (a4.at_ I X) (fS d5 (j:=0) rfl (fB (b6 _ _ h20') (j:=2) rfl ?_))
    rw [c2.1.1,e2]
    refine Qrc (a4.pr P b5) P (c5.le b6) fun D5 d6 c6=>?_
    rw [m1.1] at c6 ⊢
    rw [Qu (by dsimp only; omega) (by dsimp only; omega)]
    exact ⟨⟨(a0.trans (Kp.of b6)).trans d6,j+1,_,_,rfl,by omega,c6,N⟩,by first | omega | (dsimp only; omega)⟩
   ·have c0 : j = t.cs.length := by have := Vc h; omega
    subst c0
    rw [List.drop_length] at N
    have N:tyNm m.n t L=(ok,T3):=N
    have f1:namesTy m.n (t::m.ty.drop (i+1)) L=if ok=false then .error (m.n,t.p,6) else if t.cs.any (fun c=>openF t.ps c.f)=true then .error (m.n,t.p,63) else namesTy m.n (m.ty.drop (i+1)) T3:=by rw [namesTy,N]
    rw [f1] at hn
    have a6:∀ e,namesTy m.n m.ty T=.error e→namesF m T=.error e:=fun e h=>by unfold namesF; rw [h]
    refine ⟨fun _ F=>F=D3∧ok=true,?_,?_⟩
    ·refine ift.of (fun h => ?_) (fun h => ?_)
     ·have h : ok = false := by simpa using h
      rw [if_pos h] at hn
      refine bxT (c:=Qa.c) (g.at_ I X) (fPs (x:=y.Pos) h20' rfl rfl ?_)
      exact Qei m1.1 e1 fun F hF=>ke F _ (a6 _ hn) (g.trans (Kp.of hF))
     ·exact ⟨rfl,by simpa using h⟩
    ·rintro _ _ ⟨rfl,f2⟩
     rw [if_neg (by rw [f2]; decide)] at hn
     refine fL h20' (j:=5) rfl ?_
     refine cfConsDef (R:=CnIs A) (ok:=fun c=>openF t.ps c.f) e5 Z ?_ fun D4 a4=>?_
     ·intro c hc y1 D Φ O hy hΦ
      refine ⟨64,[],[pv (some (Y,0))],rfl,Qd0,QhA C y1 (Y,0) Φ D ?_⟩
      unfold Qd7
      refine box1N fun b2 H3 _ _ l2 h2=>fL h2 rfl (fL (l2 _ _ (O _ _ h20')) (j:=4) rfl ?_)
      exact QuP (Z.trans (O.trans l2)) hy.2 (QxH (e8 c hc)) e4.1 fun D2 B=>hΦ D2 (l2.trans B)
     ·have a7:=g.trans (Kp.of a4)
      refine ift.of (fun h=>?_) (fun h=>?_)
      ·rw [if_pos h] at hn
       refine bxT (c:=Qa.c) (a7.at_ I X) (fPs (x:=y.Pos) (a4 _ _ h20') rfl rfl ?_)
       exact Qei m1.1 e1 fun F hF=>ke F _ (a6 _ hn) (a7.trans (Kp.of hF))
      ·rw [if_neg (by rw [h]; decide)] at hn
       rw [Qu (by omega) (by omega)]
       exact ⟨⟨a7,i+1,T3,rfl,by omega,c5.le a4,hn⟩,by first | omega | (dsimp only; omega)⟩
 ·have a8 : i = m.ty.length := by have := Vc h; omega
  subst a8
  rw [List.drop_length] at hn
  have hn:namesTy m.n m.ty T=.ok L:=hn
  refine fL (O.at_ I X) (j:=3) rfl ?_
  have c1:=SlIs.len m4
  have e7:=SlIs.bd m4
  refine ⟨fun y D=>Kp bm H2 D∧∃ (i:Nat) (T2:Tl),y=(i:Int)∧i≤m.re.length∧TlIs D bm T2∧namesRe m.n m.re L=namesRe m.n (m.re.drop i) T2,fun y _=>m.re.length - y.toNat,⟨O,0,L,rfl,Nat.zero_le _,q,by rw [List.drop_zero]⟩,?_⟩
  clear O q
  rintro _ D ⟨O,i,T2,rfl,hi,q,r⟩
  rw [c1]
  refine ift.of (fun h=>?_) (fun h=>?_)
  ·have J : i < m.re.length := by have := Vb h; omega
   refine jn.inl ?_
   refine m4.ld (O.al a2 a3) (fun _=>rfl) (by omega) rfl J fun y hy=>?_
   have a1:=hg.re _ (Vg J)
   rw [QbK J] at r
   generalize m.re[i]=t at *
   obtain ⟨e1,e2,e3,e4,e5⟩:=hy
   unfold rdOk RdP.e at a1
   rw [Ve] at a1
   have e9:∀ f ∈ t.f,tyOk f.t=true:=(QlT a1.2).2
   refine boxZ rfl fun Y D1 W U G=>?_
   obtain ⟨e',Q⟩:=q.has
   have M:Y≠bm:=fun e=>by rw [e,Q] at W; cases W
   have u:=O.trans (Kp.of U)
   refine bxT (c:=Qa.c) (u.at_ I X) (fS G (j:=4) rfl (fB G (j:=2) rfl ?_))
   rw [e4.1,e2]
   refine Qrc (u.pr P b5) P (q.le U) fun D2 B o=>?_
   rw [m1.1] at o ⊢
   have d:=u.trans B
   have h20':=B.at_ M G
   have a6:∀ e,namesRe m.n m.re L=.error e→namesF m T=.error e:=fun e h=>by unfold namesF; rw [hn]; dsimp only; rw [h]
   rw [namesRe] at r
   refine ift.of (fun h=>?_) (fun h=>?_)
   ·rw [if_pos (by simpa using h)] at r
    refine bxT (c:=Qa.c) (d.at_ I X) (fPs (x:=y.Pos) h20' rfl rfl ?_)
    exact Qei m1.1 e1 fun F hF=>ke F _ (a6 _ r) (d.trans (Kp.of hF))
   ·rw [if_neg (by simpa using h)] at r
    refine fL h20' (j:=5) rfl ?_
    refine QuP (ps:=[]) (d.al a2 a3) e5 e9 SlIs.nil fun D3 a0=>?_
    have g:=d.trans (Kp.of a0)
    refine ift.of (fun h=>?_) (fun h=>?_)
    ·rw [if_pos h] at r
     refine bxT (c:=Qa.c) (g.at_ I X) (fPs (x:=y.Pos) (a0 _ _ h20') rfl rfl ?_)
     exact Qei m1.1 e1 fun F hF=>ke F _ (a6 _ r) (g.trans (Kp.of hF))
    ·rw [if_neg (by rw [h]; decide)] at r
     rw [Qu (by omega) (by omega)]
     exact ⟨⟨g,i+1,_,rfl,by omega,o.le a0,r⟩,by first | omega | (dsimp only; omega)⟩
  ·have a8 : i = m.re.length := by have := Vc h; omega
   subst a8
   rw [List.drop_length] at r
   have r:namesRe m.n m.re L=.ok T2:=r
   refine fL (O.at_ I X) (j:=5) rfl ?_
   have c1:=SlIs.len m6
   have e7:=SlIs.bd m6
   refine ⟨fun y D=>Kp bm H2 D∧∃ (i:Nat) (T3:Tl),y=(i:Int)∧i≤m.ne.length∧TlIs D bm T3∧namesNe m.n m.ne T2=namesNe m.n (m.ne.drop i) T3,fun y _=>m.ne.length - y.toNat,⟨O,0,T2,rfl,Nat.zero_le _,q,by rw [List.drop_zero]⟩,?_⟩
   clear O q
   rintro _ D ⟨O,i,T3,rfl,hi,q,S⟩
   have hF:namesF m T=namesNe m.n m.ne T2:=by unfold namesF; rw [hn]; dsimp only; rw [r]
   rw [c1]
   refine ift.of (fun h=>?_) (fun h=>?_)
   ·have J : i < m.ne.length := by have := Vb h; omega
    refine jn.inl ?_
    refine m6.ld (O.al a2 a3) (fun _=>rfl) (by omega) rfl J fun y hy=>?_
    rw [QbK J] at S
    generalize m.ne[i]=t at *
    obtain ⟨e1,e4,e5⟩:=hy
    refine boxZ rfl fun Y D1 W U G=>?_
    obtain ⟨e',Q⟩:=q.has
    have M:Y≠bm:=fun e=>by rw [e,Q] at W; cases W
    have u:=O.trans (Kp.of U)
    refine bxT (c:=Qa.c) (u.at_ I X) (fS G (j:=2) rfl ?_)
    rw [e4.1]
    refine Qrc (u.pr P b5) P (q.le U) fun D2 B o=>?_
    rw [m1.1] at o ⊢
    have d:=u.trans B
    have h20':=B.at_ M G
    rw [namesNe] at S
    refine ift.of (fun h=>?_) (fun h=>?_)
    ·rw [if_pos (by simpa using h)] at S
     refine bxT (c:=Qa.c) (d.at_ I X) (fPs (x:=y.Pos) h20' rfl rfl ?_)
     exact Qei m1.1 e1 fun F d8=>ke F _ (hF.trans S) (d.trans (Kp.of d8))
    ·rw [if_neg (by simpa using h)] at S
     rw [Qu (by omega) (by omega)]
     exact ⟨⟨d,i+1,_,rfl,by omega,o,S⟩,by first | omega | (dsimp only; omega)⟩
   ·have a8 : i = m.ne.length := by have := Vc h; omega
    subst a8
    rw [List.drop_length] at S
    exact k D T3 (hF.trans S) O q
end
end
section
open Go Go.Proofs
theorem QoA {α:Type} {p q:α→Bool}:∀ {l:List α} {a:α},(∀ x ∈ l,p x=true→q x=true)→a ∈ l→p a=false→q a=true→l.countP p < l.countP q
 | [],a,_,h,_,_=>by cases h
 | x::l,a,hpq,ha,hp,hq=>by
  rw [List.countP_cons,List.countP_cons]
  have hle:l.countP p≤l.countP q:=List.countP_mono_left fun y hy h=>hpq y (List.mem_cons_of_mem _ hy) h
  rcases List.mem_cons.1 ha with rfl | ha
  ·rw [hp,hq]
   simp only [Bool.false_eq_true,if_false,if_true]; omega
  ·have := QoA (l := l) (fun y hy h => hpq y (List.mem_cons_of_mem _ hy) h) ha hp hq
   have b:=hpq x (List.mem_cons_self ..)
   cases h2:p x with
   | false=>simp only [Bool.false_eq_true,if_false]; split <;> omega
   | true=>rw [b h2]; simp only [if_true]; omega
inductive Rc (l:List MoP) (a:Nat):Nat→Prop
 | refl:Rc l a a
 | step {i j:Nat}:Rc l a i→j ∈ adj l i→Rc l a j
theorem Rc.head {l:List MoP} {a b c:Nat} (h:b ∈ adj l a) (d:Rc l b c):Rc l a c:=by
 induction d with
 | refl=>exact .step .refl h
 | step _ hj ih=>exact .step ih hj
theorem QqL {l:List MoP} {a:Nat}:∀ {n j:Nat},comeF l a n j=true→Rc l a j
 | 0,j,h=>by
  simp only [comeF,Vj] at h
  subst h; exact .refl
 | n+1,j,h=>by
  simp only [comeF,Bool.or_eq_true,List.any_eq_true,Ve] at h
  rcases h with h | ⟨i,_,h1,h2⟩
  ·exact QqL h
  ·exact .step (QqL h1) (List.contains_iff_mem.1 h2)
theorem QsQ {l:List MoP} {a n j:Nat} (h:comeF l a n j=true):comeF l a (n+1) j=true:=by simp only [comeF,h,Bool.true_or]
theorem Qsm {l:List MoP} {a:Nat}:∀ {n:Nat},comeF l a n a=true
 | 0=>by simp [comeF]
 | n+1=>QsQ Qsm
def Fnd (l:List MoP):Prop:=∀ i,∀ j ∈ adj l i,j < l.length
theorem Qwd {l:List MoP} {i j:Nat} (h:j ∈ adj l i):i < l.length:=by
 unfold adj at h
 cases hi:l[i]? with
 | none=>rw [hi] at h; cases h
 | some m=>exact (List.getElem?_eq_some_iff.1 hi).1
theorem QpN {l:List MoP} {a:Nat} (f:Fnd l) (d:a < l.length):∀ n:Nat,(∀ j,comeF l a (n+1) j=true→comeF l a n j=true)∨n+1≤(List.range l.length).countP (comeF l a n)
 | 0=>.inr (List.countP_pos_iff.2 ⟨a,List.mem_range.2 d,Qsm⟩)
 | n+1=>by
  by_cases hcl:∀ j,comeF l a (n+1) j=true→comeF l a n j=true
  ·refine .inl fun j h => ?_
   simp only [comeF,Bool.or_eq_true,List.any_eq_true,Ve] at h
   rcases h with h | ⟨i,hi,h1,h2⟩
   ·simp only [comeF,Bool.or_eq_true,List.any_eq_true,Ve]; exact h
   ·have h1 : comeF l a n i = true := hcl i (by simp only [comeF, Bool.or_eq_true, List.any_eq_true, Ve]; exact h1)
    simp only [comeF,Bool.or_eq_true,List.any_eq_true,Ve]
    exact .inr ⟨i,hi,h1,h2⟩
  ·refine .inr ?_
   have ⟨j,h1,h2⟩:∃ j,comeF l a (n+1) j=true∧comeF l a n j=false:=by
    refine Classical.byContradiction fun m=>hcl fun j o=>?_
    cases hc:comeF l a n j with
    | true=>rfl
    | false=>exact absurd ⟨j,o,hc⟩ m
   have b:j < l.length:=by
    have h1:=h1
    simp only [comeF,Bool.or_eq_true,List.any_eq_true,Ve,h2,Bool.false_eq_true,false_or] at h1
    obtain ⟨i,_,_,g⟩:=h1
    exact f i j (List.contains_iff_mem.1 g)
   have:=QoA (l:=List.range l.length) (p:=comeF l a n) (q:=comeF l a (n+1)) (fun x _ h=>QsQ h) (List.mem_range.2 b) h2 h1
   rcases QpN f d n with h | h
   ·exact absurd h hcl
   ·omega
theorem Qnm {l:List MoP} {a b:Nat} (g:Fnd l) (f:a < l.length):reachF l a b=true↔Rc l a b:=by
 constructor
 ·exact QqL
 ·intro h
  have d:∀ j,comeF l a (l.length+1) j=true→comeF l a l.length j=true:=by
   rcases QpN g f l.length with h | h
   ·exact h
   ·have:=List.countP_le_length (p:=comeF l a l.length) (l:=List.range l.length)
    rw [List.length_range] at this; omega
  unfold reachF
  induction h with
  | refl=>exact Qsm
  | step _ hj ih=>
   refine d _ ?_
   simp only [comeF,Bool.or_eq_true,List.any_eq_true,Ve]
   exact .inr ⟨_,List.mem_range.2 (Qwd hj),ih,List.contains_iff_mem.2 hj⟩
theorem QuX {l:List MoP} {a b:Nat} {S:Nat→Bool} (ha:S a=true) (hS:∀ j,S j=true→j≠b∧∀ k ∈ adj l j,S k=true):¬ Rc l a b:=fun h=>by
 have key:∀ j,Rc l a j→S j=true:=fun j h=>by
  induction h with
  | refl=>exact ha
  | step _ hj ih=>exact (hS _ ih).2 _ hj
 exact (hS _ (key b h)).1 rfl
theorem QkP:∀ {l:List MoP} {s:Str} {i:Nat},i≤l.length→((findN l s < i)↔((l.take i).map MoP.n).contains s=true)
 | [],s,i,h=>by
  have:i=0:=by simpa using h
  subst this; simp
 | m::l,s,0,h=>by simp
 | m::l,s,i+1,h=>by
  have b:=QkP (l:=l) (s:=s) (i:=i) (by simpa using h)
  rw [List.contains_iff_mem] at b ⊢
  simp only [findN,List.take_succ_cons,List.map_cons,List.mem_cons]
  by_cases hm:m.n=s
  ·rw [if_pos hm]; exact ⟨fun _=>.inl hm.symm,fun _=>by omega⟩
  ·rw [if_neg hm]
   constructor
   ·intro h; exact .inr (b.1 (by omega))
   ·rintro (h | h)
    ·exact absurd h.symm hm
    ·have:=b.2 h; omega
theorem Qnk {l:List MoP} {i:Nat} (h:i < l.length):findN l l[i].n≤i:=by
 have:=(QkP (l:=l) (s:=l[i].n) (i:=i+1) (by omega)).2 (by
  rw [List.contains_iff_mem,List.mem_map]
  exact ⟨l[i],List.mem_take_iff_getElem.2 ⟨i,by omega,rfl⟩,rfl⟩)
 omega
theorem Qhy:∀ {l:List MoP} {d:List Str},singleF d l=none→(∀ m ∈ l,moC m.e=0)∧(l.map MoP.n).Nodup∧∀ m ∈ l,m.n ∉ d
 | [],d,_=>⟨by simp,by simp,by simp⟩
 | m::l,d,h=>by
  simp only [singleF] at h
  split at h
  ·cases h
  ·rename_i h1
   split at h
   ·cases h
   ·rename_i h2
    obtain ⟨a,b,c⟩:=Qhy h
    rw [List.contains_iff_mem] at h2
    refine ⟨fun x hx=>?_,?_,fun x hx=>?_⟩
    ·rcases List.mem_cons.1 hx with rfl | hx
     ·omega
     ·exact a x hx
    ·rw [List.map_cons,List.nodup_cons]
     refine ⟨fun hm=>?_,b⟩
     obtain ⟨x,hx,e⟩:=List.mem_map.1 hm
     exact c x hx (by simp [e])
    ·rcases List.mem_cons.1 hx with rfl | hx
     ·exact h2
     ·exact fun hm=>c x hx (Vi _ hm)
theorem QpX {l:List MoP} {m:Str}:∀ {r:List ImP} {ps:List Str},impA1 l m ps r=none→∀ x ∈ r,findN l x.n < l.length
 | [],ps,_,x,hx=>by cases hx
 | y::r,ps,h,x,hx=>by
  simp only [impA1] at h
  split at h
  ·cases h
  ·rename_i h1
   split at h
   ·cases h
   ·rcases List.mem_cons.1 hx with rfl | hx
    ·omega
    ·exact QpX h x hx
theorem QoN {l:List MoP}:∀ {r:List MoP},impA l r=none→∀ m ∈ r,∀ x ∈ m.im,findN l x.n < l.length
 | [],_,m,hm=>by cases hm
 | y::r,h,m,hm=>by
  simp only [impA] at h
  split at h
  ·cases h
  ·rename_i h1
   rcases List.mem_cons.1 hm with rfl | hm
   ·exact QpX h1
   ·exact QoN h m hm
theorem Qs3 {l:List MoP} (h:impA l l=none):Fnd l:=fun i j b=>by
 have hi:=Qwd b
 unfold adj at b
 rw [Vf hi] at b
 obtain ⟨x,hx,rfl⟩:=List.mem_map.1 b
 exact QoN h _ (Vg hi) x hx
end
section
open Go Go.Proofs
theorem QdG {α:Type} {f:MoP→List α}:∀ {l:List MoP} {i:Nat} (h:i < l.length),total f (l.take (i+1))=total f (l.take i)+(f l[i]).length
 | [],i,h=>by simp at h
 | m::l,0,h=>by simp [total]
 | m::l,i+1,h=>by
  have h':i < l.length:=by simpa using h
  have:=QdG (f:=f) h'
  simp only [List.take_succ_cons,total,List.getElem_cons_succ,this]; omega
theorem QkT {α:Type} {f:MoP→List α} {B:Nat}:∀ {l:List MoP},(∀ m ∈ l,(f m).length≤B)→total f l≤l.length*B
 | [],_=>by simp [total]
 | m::l,h=>by
  have h1:=h m (List.mem_cons_self ..)
  have b:=QkT (l:=l) fun x hx=>h x (List.mem_cons_of_mem _ hx)
  simp only [total,Vd,Nat.add_mul]; omega
theorem Qu6 {H:Heap} {b j:Nat} {cs cs2:List Value} {v:Value} {K:HP} (h:H b=some (true,.row cs)) (d:j < cs.length) (e:cs.set j v=cs2) (k:K (H.put b (.row cs2))):st ((b,0).1,(b,0).2+j) v K H:=by
 subst e
 refine ⟨cs,h,by simpa using d,?_⟩
 simpa using k
section
variable {C:Ctx} {A H:Heap} {E:Value→HP}
theorem Qu5 (R:MaxC C) {l:List MoP} {N bm:Nat} {sl:Sl} {K:HP} (O:Pr H N bm sl) (r:MpL A sl l) (t:A.le H) (T:∀ m ∈ l,moD m.e≤4611686018427387904)
 (k:∀ D,H.le D→singleF [] l=none→K D) (ke:∀ D e,H.le D→singleF [] l=some e→E (flt e.1 e.2.1 e.2.2) D):Qcr C E (some (N,0)) K H:=by
 apply Qh2
 unfold QeG
 obtain ⟨_,z⟩:=O.at_
 refine ⟨_,rfl,fL z (j:=0) rfl ?_⟩
 have q:=SlIs.len r
 have S:=SlIs.bd r
 refine ⟨fun y D=>H.le D∧∃ i:Nat,y=(i:Int)∧i≤l.length∧singleF [] l=singleF ((l.take i).map MoP.n) (l.drop i),fun y _=>l.length - y.toNat,⟨Heap.le.refl _,0,rfl,Nat.zero_le _,by simp⟩,?_⟩
 rintro _ D ⟨u,i,rfl,hi,hn⟩
 rw [q]
 refine ift.of (fun h=>?_) (fun h=>?_)
 ·have d : i < l.length := by have := Vb h; omega
  refine jn.inl ?_
  refine r.ld (t.trans u) (fun _=>rfl) (by omega) rfl d fun y hy=>?_
  have B:=T _ (Vg d)
  have o:=QkP (l:=l) (s:=l[i].n) (i:=i) (by omega)
  have G:findN l l[i].n < l.length:=by have:=Qnk d; omega
  have L:(l.take i).map MoP.n++[l[i].n]=(l.take (i+1)).map MoP.n:=by rw [Vp,Vf d,Vo,List.map_append]; rfl
  rw [QbK d,singleF,L] at hn
  generalize l[i]=m at *
  refine boxZ rfl fun Q P U M f=>?_
  have b:=u.trans M
  refine ⟨fun _ F=>F=P∧moC m.e=0,?_,?_⟩
  ·refine bxT (c:=Qa.c) f ?_
   refine QsI R (MpIs.e hy) (t.trans b) B ?_
   refine ift.of (fun h=>?_) (fun h=>?_)
   ·rw [if_pos (by simpa using h)] at hn
    exact bxT (c:=Qa.c) f (Qei hy.1.1 rfl fun F x=>ke F _ (b.trans x) hn)
   ·exact ⟨rfl,by simpa using h⟩
  ·rintro _ _ ⟨rfl,J⟩
   rw [if_neg (by simpa using J)] at hn
   refine fS f (j:=0) rfl ?_
   rw [hy.1.1]
   refine QqX (O.le b) r (t.trans b) fun D2 g=>?_
   unfold fIx
   rw [if_pos G]
   refine ift.of (fun h=>?_) (fun h=>?_)
   ·have : findN l m.n < i := by have := Vb h; omega
    rw [if_pos (o.1 this)] at hn
    exact bxT (c:=Qa.c) (g _ _ f) (Qei hy.1.1 rfl fun F x=>ke F _ (b.trans (g.trans x)) hn)
   ·have : ¬ findN l m.n < i := by have := Vc h; omega
    rw [if_neg fun e=>this (o.2 e)] at hn
    rw [Qu (by omega) (by omega)]
    exact ⟨⟨b.trans g,i+1,rfl,by omega,hn⟩,by first | omega | (dsimp only; omega)⟩
 ·have I : i = l.length := by have := Vc h; omega
  subst I
  rw [List.drop_length] at hn
  exact k D u hn
theorem Qvb {l:List MoP} {P bm:Nat} {sl:Sl} {K:HP} (Z:Pr H P bm sl) (U:MpL A sl l) (Y:A.le H) (hg:∀ m ∈ l,MoG m) (a1:l.length≤8)
 (k:∀ D,H.le D→totB l=false→K D) (ke:∀ D,H.le D→totB l=true→E (flt [] (0,0) 3) D):Qcs C E (some (P,0)) K H:=by
 apply Qh3
 unfold QeH
 refine box1N fun O H2 n1 _ W o=>?_
 obtain ⟨_,z⟩:=(Z.le W).at_
 refine ⟨_,rfl,fL z (j:=0) rfl ?_⟩
 have G:=SlIs.len U
 have J:∀ {α:Type} (f:MoP→List α) (i:Nat),(∀ m ∈ l,(f m).length≤256)→total f (l.take i)≤2048:=fun f i hf=>by
  have:=QkT (f:=f) (B:=256) (l:=l.take i) fun m hm=>hf m (List.mem_of_mem_take hm)
  have X:(l.take i).length≤8:=by rw [List.length_take]; omega
  have:(l.take i).length*256≤8*256:=Nat.mul_le_mul_right _ X
  omega
 have Q:∀ m ∈ l,(MoP.ty m).length≤256:=fun m hm=>by have:=(hg m hm).lt; omega
 have R:∀ m ∈ l,(MoP.re m).length≤256:=fun m hm=>by have:=(hg m hm).lr; omega
 have S:∀ m ∈ l,(MoP.ru m).length≤256:=fun m hm=>(hg m hm).lu
 have T:∀ m ∈ l,(MoP.ne m).length≤256:=fun m hm=>(hg m hm).ln
 refine ⟨fun y D=>H.le D∧∃ i:Nat,y=(i:Int)∧i≤l.length∧D O=some (true,.row [.int .i64 (total MoP.ty (l.take i):Int),.int .i64 (total MoP.ru (l.take i):Int),.int .i64 (total MoP.re (l.take i):Int),.int .i64 (total MoP.ne (l.take i):Int)]),fun y _=>l.length - y.toNat,⟨W,0,rfl,Nat.zero_le _,o⟩,?_⟩
 clear o z
 rintro _ D ⟨L,i,rfl,hi,o⟩
 rw [G]
 have i1:=J MoP.ty i Q
 have i2:=J MoP.re i R
 have i3:=J MoP.ru i S
 have i4:=J MoP.ne i T
 refine ift.of (fun h=>?_) (fun h=>?_)
 ·have d : i < l.length := by have := Vb h; omega
  refine U.ld (Y.trans L) (fun _=>rfl) (by omega) rfl d fun y hy=>?_
  have j1:=Q _ (Vg d)
  have j2:=R _ (Vg d)
  have j3:=S _ (Vg d)
  have j4:=T _ (Vg d)
  have t1:=QdG (f:=MoP.ty) d
  have t2:=QdG (f:=MoP.re) d
  have t3:=QdG (f:=MoP.ru) d
  have t4:=QdG (f:=MoP.ne) d
  generalize l[i]=m at *
  obtain ⟨m1,m2,m3,m4,m5,m6⟩:=hy
  intro q u
  refine nwT rfl ?_
  have I:=Xc u (g:=.row (Qa.c y)) (m:=true)
  have r:(D.put q (.row (Qa.c y))) q=some (true,.row (Qa.c y)):=Xa ..
  have M:=L.trans I
  have h1':=I _ _ o
  have t:q≠O:=fun e=>by rw [e,o] at u; cases u
  generalize D.put q (.row (Qa.c y))=D1 at *
  refine ⟨by omega,by omega,fI h1' (j:=(0:Int).toNat*1) rfl (fL r (j:=2) rfl ⟨by omega,by omega,Qu6 h1' (show (0:Int).toNat*1 < 4 by decide) rfl ?_⟩)⟩
  rw [SlIs.len m3,Qu (x:=(total MoP.ty (l.take i):Int)+(m.ty.length:Int)) (by omega) (by omega)]
  refine ⟨by omega,by omega,fI (Xa ..) (j:=(2:Int).toNat*1) rfl (fL (by rw [Xb _ _ _ t]; exact r) (j:=3) rfl ⟨by omega,by omega,Qu6 (Xa ..) (show (2:Int).toNat*1 < 4 by decide) rfl ?_⟩)⟩
  rw [Xh,SlIs.len m4,Qu (x:=(total MoP.re (l.take i):Int)+(m.re.length:Int)) (by omega) (by omega)]
  refine ⟨by omega,by omega,fI (Xa ..) (j:=(1:Int).toNat*1) rfl (fL (by rw [Xb _ _ _ t]; exact r) (j:=4) rfl ⟨by omega,by omega,Qu6 (Xa ..) (show (1:Int).toNat*1 < 4 by decide) rfl ?_⟩)⟩
  rw [Xh,SlIs.len m5,Qu (x:=(total MoP.ru (l.take i):Int)+(m.ru.length:Int)) (by omega) (by omega)]
  refine ⟨by omega,by omega,fI (Xa ..) (j:=(3:Int).toNat*1) rfl (fL (by rw [Xb _ _ _ t]; exact r) (j:=5) rfl ⟨by omega,by omega,Qu6 (Xa ..) (show (3:Int).toNat*1 < 4 by decide) rfl ?_⟩)⟩
  rw [Xh,SlIs.len m6,Qu (x:=(total MoP.ne (l.take i):Int)+(m.ne.length:Int)) (by omega) (by omega),Qu (by omega) (by omega)]
  refine ⟨⟨QP M n1,i+1,rfl,by omega,?_⟩,by first | omega | (dsimp only; omega)⟩
  rw [t1,t2,t3,t4]
  exact Xa ..
 ·have N : i = l.length := by have := Vc h; omega
  subst N
  rw [Vl] at o i1 i2 i3 i4
  refine ⟨by omega,by omega,fI o (j:=(0:Int).toNat*1) rfl ?_⟩
  refine ⟨fun b F=>D=F∧b=(decide (64 < total MoP.ty l) || decide (64 < total MoP.re l)),?_,?_⟩
  ·refine ift.of (fun h => ⟨rfl, ?_⟩) (fun h => ⟨by omega, by omega, fI o (j := (2 : Int).toNat * 1) rfl ⟨rfl, ?_⟩⟩)
   ·rw [decide_eq_true (show 64 < total MoP.ty l by have:=Vb h; omega)]; rfl
   ·rw [decide_eq_false (show ¬ 64 < total MoP.ty l by have := Vc h; omega), Bool.false_or]
    exact decide_eq_decide.2 (by omega)
  ·rintro b _ ⟨rfl,rfl⟩
   refine ⟨fun b F=>D=F∧b=(decide (64 < total MoP.ty l) || decide (64 < total MoP.re l) || decide (256 < total MoP.ru l)),?_,?_⟩
   ·refine ift.of (fun h => ⟨rfl, by rw [h]; rfl⟩) (fun h => ⟨by omega, by omega, fI o (j := (1 : Int).toNat * 1) rfl ⟨rfl, ?_⟩⟩)
    rw [h,Bool.false_or]
    exact decide_eq_decide.2 (by omega)
   ·rintro b _ ⟨rfl,rfl⟩
    refine ⟨fun b F=>D=F∧b=totB l,?_,?_⟩
    ·refine ift.of (fun h => ⟨rfl, by unfold totB; rw [h]; rfl⟩) (fun h => ⟨by omega, by omega, fI o (j := (3 : Int).toNat * 1) rfl ⟨rfl, ?_⟩⟩)
     unfold totB
     rw [h,Bool.false_or]
     exact decide_eq_decide.2 (by omega)
    ·rintro b _ ⟨rfl,rfl⟩
     exact ift.of (fun h=>ke _ L h) (fun h=>k _ L h)
end
end
section
open Go Go.Proofs
def SnIs (H:Heap) (bs:Nat) (S:Nat→Bool):Prop:=∃ l,MapS kI encB H bs l∧∀ j:Nat,lkL (j:Int) l=if S j=true then some true else none
theorem SnIs.le {A B:Heap} {bs:Nat} {S:Nat→Bool} (h:SnIs A bs S) (hle:A.le B):SnIs B bs S:=by
 obtain ⟨l,b,d⟩:=h
 exact ⟨l,b.le hle,d⟩
theorem SnIs.has {A:Heap} {bs:Nat} {S:Nat→Bool} (h:SnIs A bs S):∃ e,A bs=some e:=by
 obtain ⟨l,⟨f,d,b⟩,_⟩:=h
 exact ⟨_,b.at_⟩
def uns (n:Nat) (S:Nat→Bool):Nat:=(List.range n).countP fun j=>!S j
theorem Qx8 {n a:Nat} {S b:Nat→Bool} (h:∀ j,S j=true→b j=true) (g:a < n) (d:S a=false) (f:b a=true):uns n b < uns n S:=
 QoA (a:=a) (fun j _ i=>by
  cases hs:S j with
  | false=>rfl
  | true=>simp [h j hs] at i) (List.mem_range.2 g) (by simp [f]) (by simp [d])
section
variable {C:Ctx} {A:Heap} {E:Value→HP}
theorem QtN {l:List MoP} {bp bm bs:Nat} {sl:Sl} (hs:MpL A sl l) (hf:Fnd l) (I:A bs=none) (T:bp≠bs) (g8:l.length≤8) :
 ∀ (u:Nat) {S:Nat→Bool} {a b:Nat} {x y:Int} {H:Heap} {K:Bool→HP},uns l.length S < u→a < l.length→S a=false→x=(a:Int)→y=(b:Int)→Pr H bp bm sl→A.le H→SnIs H bs S→
  (∀ D,Kp bs H D→Rc l a b→K true D)→
  (∀ D S',Kp bs H D→SnIs D bs S'→(∀ j,S j=true→S' j=true)→S' a=true→(∀ j,S' j=true→S j=false→j≠b∧∀ k ∈ adj l j,S' k=true)→K false D)→
  QaF C (some (bp,0)) x y (some bs) K H:=by
 intro u
 induction u with
 | zero=>intro S a b x y H K hu; omega
 | succ u ih=>
 intro S a b x y H K hu ha d5 hx hy hP hA hS kt kf
 subst hx; subst hy
 apply QhB
 unfold Qd8
 obtain ⟨e0,B⟩:=hS.has
 refine box1N fun b1 H2 n1 _ l1 G=>box1N fun b3 H4 n3 _ l3 h3=>box1N fun b5 H6 n5 _ l5 h5=>?_
 have Y:b1≠bs:=fun e=>by rw [e,B] at n1; cases n1
 have b8:b3≠bs:=fun e=>by rw [e,l1 _ _ B] at n3; cases n3
 have Z:b5≠bs:=fun e=>by rw [e,l3 _ _ (l1 _ _ B)] at n5; cases n5
 have G:=l5 _ _ (l3 _ _ G)
 have h3:=l5 _ _ h3
 have P:=l1.trans (l3.trans l5)
 refine ⟨(b:Int),by rw [Qaq h3]; rfl,ift.of (fun h=>?_) (fun h=>?_)⟩
 ·have e : a = b := by have := eq_of_beq h; omega
  subst e
  exact kt _ (Kp.of P) .refl
 ·have d7 : a ≠ b := fun e => by rw [e] at h; simp at h
  obtain ⟨lS,hm,U⟩:=hS.le P
  refine ⟨some bs,by rw [Qaq h5]; rfl,bs,lS,rfl,hm,fun g l2 b7 b6 _=>?_⟩
  have a8:SnIs (H6.put bs g) bs (fun j=>S j || decide (j=a)):=⟨l2,b7,fun j=>by
   rw [b6]
   by_cases o:j=a
   ·subst o; simp
   ·rw [if_neg (by omega),U]; simp [o]⟩
  have f:Kp bs H6 (H6.put bs g):=Xk (Xf _ _)
  generalize H6.put bs g=H12 at *
  have G:=f.at_ Y G
  have h3:=f.at_ b8 h3
  have h5:=f.at_ Z h5
  have hK:=(Kp.of P:Kp bs H H6).trans f
  have t:=hK.pr T hP
  have q:=hK.al hA I
  obtain ⟨_,d8⟩:=t.at_
  refine ⟨some (bp,0),by rw [Qaq G]; rfl,_,rfl,fL d8 (j:=0) rfl ?_⟩
  refine SlIs.at_ hs q (z:=6) (fun _=>rfl) (by omega) rfl ha fun p y hy hr=>⟨y.Imports,hr 1 _ rfl,?_⟩
  have hi:=hy.2.1.1
  have M:adj l a=l[a].im.map fun x=>findN l x.n:=by unfold adj; rw [Vf ha]
  apply Q1
  unfold QG
  apply Qab
  unfold QK
  have kt:∀ D,Kp bs H12 D→Rc l a b→K true D:=fun D h=>kt D (hK.trans h)
  have kf:∀ D S',Kp bs H12 D→SnIs D bs S'→(∀ j,S j=true→S' j=true)→S' a=true→(∀ j,S' j=true→S j=false→j≠b∧∀ k ∈ adj l j,S' k=true)→K false D:=fun D S' h=>kf D S' (hK.trans h)
  clear hr hy hS hP hA f hm U b7 b6
  generalize l[a]=m at *
  refine ixI (A:=A) (K:=fun r D=>K (decide (r ≥ 0)) D) (fun _=>rfl) (by omega) hi (fun i D=>Kp bs H12 D∧∃ S',SnIs D bs S'∧(∀ j,S j=true→S' j=true)∧S' a=true∧(∀ j,S' j=true→S j=false→j≠a→j≠b∧∀ k ∈ adj l j,S' k=true)∧∀ j,j < i→∀ (o:j < m.im.length),S' (findN l m.im[j].n)=true) (fun i D h=>h.1.al q I) ⟨Kp.refl,_,a8,fun j o=>by simp [o],by simp,fun j o hn W=>by simp [hn,W] at o,fun j o=>by omega⟩ ?_ ?_
  ·rintro i e1 D y ⟨hD,S',Q,g1,g2,g3,g4⟩ hy
   refine ⟨149,[],[pv (some (b1,0)),pv (some (b5,0)),pv (some (b3,0))],rfl,Qdl,QgP C y (b1,0) (b5,0) (b3,0) _ D ?_⟩
   unfold Qdq
   refine box1N fun b2 D2 n2 _ l2 h2=>?_
   have J:=hD.trans (Kp.of l2)
   have k1:=J.at_ Y G
   have b0:findN l m.im[i].n ∈ adj l a:=by rw [M]; exact List.mem_map.2 ⟨_,Vg e1,rfl⟩
   have b4:=hf _ _ b0
   refine ⟨some (bp,0),by rw [Qaq k1]; rfl,fS h2 (j:=2) rfl ?_⟩
   rw [hy.2.1]
   refine QqX (J.pr T t) hs (J.al q I) fun D3 a6=>?_
   unfold fIx
   rw [if_pos b4]
   have d:=J.trans (Kp.of a6)
   have d4:=(Q.le l2).le a6
   obtain ⟨lS,hm,U⟩:=d4
   have N:∀ F E,Kp bs H12 F→SnIs F bs E→(∀ j,S' j=true→E j=true)→E (findN l m.im[i].n)=true→(∀ j,E j=true→S' j=false→j≠b∧∀ k ∈ adj l j,E k=true)→Kp bs H12 F∧∃ S',SnIs F bs S'∧(∀ j,S j=true→S' j=true)∧S' a=true∧(∀ j,S' j=true→S j=false→j≠a→j≠b∧∀ k ∈ adj l j,S' k=true)∧∀ j,j < i+1→∀ (o:j < m.im.length),S' (findN l m.im[j].n)=true:=fun F E hF q1 q2 q3 q4=>by
    refine ⟨hF,E,q1,fun j o=>q2 j (g1 j o),q2 _ g2,fun j o hn W=>?_,fun j o e2=>?_⟩
    ·cases hs':S' j with
     | false=>exact q4 j o hs'
     | true=>
      obtain ⟨r1,r2⟩:=g3 j hs' hn W
      exact ⟨r1,fun k hk=>q2 _ (r2 k hk)⟩
    ·by_cases hji:j=i
     ·subst hji; exact q3
     ·exact q2 _ (g4 j (by omega) e2)
   refine ⟨some bs,by rw [Qaq (d.at_ Z h5)]; rfl,?_⟩
   have rest:∀ (v is:Bool),v=S' (findN l m.im[i].n)→(fun (f3 g5:Bool)=>jn (α:=Bool) (fun c9 c8=>(fun (f1:Bool) O=>ift f1 (K (decide (((i:Nat):Int) ≥ 0)) O) ((Kp bs H12 O∧∃ S',SnIs O bs S'∧(∀ j,S j=true→S' j=true)∧S' a=true∧(∀ j,S' j=true→S j=false→j≠a→j≠b∧∀ k ∈ adj l j,S' k=true)∧∀ j,j < i+1→∀ (o:j < m.im.length),S' (findN l m.im[j].n)=true))) c9 c8) (fun a4=>ift (!f3) (ldP D3 (b1,0) fun f4=>ldI D3 .i64 (b3,0) fun f5=>ldM D3 (b5,0) fun f6=>QaF C f4 (findN l m.im[i].n:Int) f5 f6 (fun f2 c7=>a4 f2 c7) D3) (a4 false D3))) v is:=fun v is L=>by
    refine jn.inl ?_
    refine ift.of (fun h=>?_) (fun h=>?_)
    ·have R : S' (findN l m.im[i].n) = false := by rw [← L]; simpa using h
     refine ⟨some (bp,0),by rw [Qaq (d.at_ Y G)]; rfl,(b:Int),by rw [Qaq (d.at_ b8 h3)]; rfl,some bs,by rw [Qaq (d.at_ Z h5)]; rfl,?_⟩
     refine ih (S:=S') (by have:=Qx8 (n:=l.length) (a:=a) g1 ha d5 g2; omega) b4 R rfl rfl (d.pr T t) (d.al q I) ⟨lS,hm,U⟩ (fun F hF e3=>ift.of (fun _=>?_) (fun h=>by cases h)) (fun F E hF q1 q2 q3 q4=>ift.of (fun h=>by cases h) (fun _=>?_))
     ·rw [show decide ((i : Int) ≥ 0) = true from decide_eq_true (by omega)]
      exact kt F (d.trans hF) (e3.head b0)
     ·exact N F E (d.trans hF) q1 q2 q3 q4
    ·refine ift.of (fun h => by cases h) (fun _ => ?_)
     have R:S' (findN l m.im[i].n)=true:=by rw [← L]; simpa using h
     exact N D3 S' d ⟨lS,hm,U⟩ (fun _ h=>h) R fun j G h2=>by rw [G] at h2; cases h2
   refine hm.is.lk (fun v L=>?_) (fun X=>?_)
   ·rw [U] at L
    have e:v=S' (findN l m.im[i].n):=by
     split at L
     ·rename_i hh; injection L with L; rw [← L,hh]
     ·cases L
    exact rest v true e
   ·rw [U] at X
    have e:false=S' (findN l m.im[i].n):=by
     split at X
     ·cases X
     ·rename_i hh; simpa using hh
    exact rest false false e
  ·rintro D ⟨hD,S',Q,g1,g2,g3,g4⟩
   have:=kf D S' hD Q g1 g2 fun j o hn=>by
    by_cases hja:j=a
    ·subst hja
     refine ⟨d7,fun k hk=>?_⟩
     rw [M] at hk
     obtain ⟨x,hx,rfl⟩:=List.mem_map.1 hk
     obtain ⟨i,a9,rfl⟩:=List.getElem_of_mem hx
     exact g4 i a9 a9
    ·exact g3 j o hn hja
   exact this
end
end
end Sx
end
