/-
  Texts of this family, one behind the other: Mod8, Mod9, Mod10, Mod11, Mod12, Mod13, Mod14, Mod15, Mod16, Mod17, Mod18, Mod19, Mod20, Mod21, Mod22, Mod23, Mod24, Mod25, Mod26, Mod33, Mod34, Mod35, Mod28, Mod29, Mod30, Mod31, Mod32, Mod36, Mod37, Mod38, ModR, ModS, MoROrder, U, RowIOrder.
-/
import Derived.Test.YtmeefnmaphmpkaaGreatDoorBO5
import Derived.Test.YtmeefnmaphmpkaaGreatDoorRows
import Derived.JoinedCond
noncomputable section
set_option linter.unusedVariables false
set_option linter.unusedSimpArgs false
set_option maxRecDepth 10000
namespace Sx
section
open Go Go.Proofs
theorem Qva (x:Qg):∀ u ∈ Qg.c x,u.oneCell' = true:=by
 intro u hu
 simp only [Qg.c,List.mem_cons,List.mem_nil_iff,or_false] at hu
 rcases hu with rfl | rfl <;> rfl
theorem Qvz (x:Qc):∀ u ∈ Qc.c x,u.oneCell' = true:=by
 intro u hu
 simp only [Qc.c,List.mem_cons,List.mem_nil_iff,or_false] at hu
 rcases hu with rfl | rfl | rfl | rfl | rfl | rfl <;> rfl
theorem Qvs (x:Qh):∀ u ∈ Qh.c x,u.oneCell' = true:=by
 intro u hu
 simp only [Qh.c,List.mem_cons,List.mem_nil_iff,or_false] at hu
 rcases hu with rfl | rfl | rfl | rfl | rfl | rfl <;> rfl
theorem Qvu (x:Qj):∀ u ∈ Qj.c x,u.oneCell' = true:=by
 intro u hu
 simp only [Qj.c,List.mem_cons,List.mem_nil_iff,or_false] at hu
 rcases hu with rfl | rfl | rfl | rfl | rfl | rfl <;> rfl
theorem Qvo (x:Qm):∀ u ∈ Qm.c x,u.oneCell' = true:=by
 intro u hu
 simp only [Qm.c,List.mem_cons,List.mem_nil_iff,or_false] at hu
 rcases hu with rfl | rfl | rfl | rfl <;> rfl
theorem cat1 {a:Str} (h:a.length≤1000):catOk a ([46]:Str):=by show _ < _; simp only [List.length_cons,List.length_nil]; omega
theorem cat2 {a b:Str} (h:a.length≤1000) (h2:b.length≤1000):catOk (a++([46]:Str)) b:=by show _ < _; simp only [List.length_append,List.length_cons,List.length_nil]; omega
theorem QoJ {a b:Str} (h:a.length≤1000) (h2:b.length≤1000):(dotS a b).length≤140737488355328:=by simp only [dotS,List.length_append,List.length_cons,List.length_nil]; omega
theorem QoP {nm:Bool} {l:List FdV} (h:fdsOk nm l=true):l.length≤1000∧∀ f ∈ l,tyOk f.t=true:=by
 unfold fdsOk at h
 simp only [Bool.and_eq_true,decide_eq_true_eq,List.all_eq_true] at h
 refine ⟨by omega,fun f hf=>?_⟩
 have:=h.2 f hf
 unfold fdOk at this
 simp only [Bool.and_eq_true] at this
 exact this.2
section
variable {C:Ctx} {A:Heap} {E:Value→Heap→Prop}
theorem uCons {T:Tl} {m:MoP} {bp bm:Nat} {sl:Sl} {x:Qa} (hx:x.Name=m.n) (hi:IpL A x.Imports m.im) (hn:m.n.length≤1000) {b1 b16 b21:Nat} {H0:Heap} {y y1:Qc} {p:Pl}
 (hAH:A.le (H0.del b21)) (h1:(H0.del b21) b1=some (true,.row (Qa.c x))) (h16:(H0.del b21) b16=some (true,.row (Qc.c y))) (hp:y.Pos=psP p) (hP:Pr (H0.del b21) bp bm sl) (hT:TlIs (H0.del b21) bm T)
 (h21:H0 b21=some (true,.row (Qc.c y1))) (hy1:y1.Cons=Sl.nil) {s:Sl} {l:List CnV} (hs:CnL A s l) (hok:∀ c ∈ l,cnOk c=true) (hll:l.length≤1000) {REST:Heap→Prop}
 (k:∀ D l' s',mpO (cnF T m) l=some l'→(H0.del b21).le D→Gr CnIs Qg.c 2 A H0 D s' l'→D b21=some (true,.row (Qc.c { y1 with Cons:=s' }))→REST D)
 (ke:∀ D,(H0.del b21).le D→mpO (cnF T m) l=none→E (flt m.n p 63) D) :
 lp (α:=Int) 0 H0 (fun x42 J43 H44=>
 ift (decide ((x42:Int) < (Sl.len s:Int)))
 (ixa s x42 fun p46=>
 ldT H44 Qg.c (p46.1,p46.2+(x42:Int).toNat*2) fun x51=>
 nw (Qg.c Qg.zero) (fun b53 H54=>
 stT (b53,0) (Qg.c x51) (fun H55=>
 dr H55 fun Hs56=>
 ldL Hs56 ((b21,0).1,(b21,0).2+5) fun x58=>
 ldS Hs56 ((b1,0).1,(b1,0).2+0) fun x60=>
 catOk x60 ([46]:Str)∧
 ldS Hs56 ((b53,0).1,(b53,0).2+0) fun x63=>
 catOk (x60++([46]:Str)) x63∧
 ldT Hs56 Qa.c (b1,0) fun x66=>
 ldL Hs56 ((b53,0).1,(b53,0).2+1) fun x68=>
 ldT Hs56 Qo.c ((b16,0).1,(b16,0).2+0) fun x70=>
 QX C E (some (bp,0)) x66 x68 x70 (fun r73 H74=>
 Heap.le Hs56 H74∧
 nw ((Qg.c (⟨((x60++([46]:Str))++x63),r73⟩:Qg))++[]) (fun b76 H77=>
 Heap.le Hs56 H77∧
 apS (Qg.c Qg.zero) 40 x58 (Sl.of (some (b76,0)) 1 1) (fun r79 H80=>
 Heap.le Hs56 H80∧
 st ((b21,0).1,(b21,0).2+5) (slv r79) (fun H81=>
 J43 (w .i64 (x42+1)) H81) H80) H77) H74) H55) H54) H44)
 (REST H44)):=by
 have hlen:=SlIs.len hs
 have nA:A b21=none:=by
  cases ha:A b21 with
  | none=>rfl
  | some e=>have:=hAH _ _ ha; rw [Heap.del_same] at this; cases this
 have hA0:A.le H0:=hAH.trans (Heap.del_le _ _)
 have hR:∀ {X Y:Heap} {v:CnV} {x:Qg},X.le Y→CnIs X v x→CnIs Y v x:=fun h h'=>CnIs.le h h'
 refine ⟨fun y D=>(H0.del b21).le D∧∃ (i:Nat) (l':List CnV) (s':Sl),y=(i:Int)∧i≤l.length∧mpO (cnF T m) (l.take i)=some l'∧Gr CnIs Qg.c 2 A H0 D s' l'∧D b21=some (true,.row (Qc.c { y1 with Cons:=s' })),fun y _=>l.length - y.toNat,⟨Heap.del_le _ _,0,[],Sl.nil,rfl,Nat.zero_le _,rfl,Gr.nil (fun _ h=>h) hA0,?_⟩,?_⟩
 ·rw [h21,← hy1]
 rintro _ D ⟨hD,i,l',s',rfl,hi',hl',hG,hb⟩
 rw [hlen]
 have hlen':=QkS hl'
 rw [List.length_take,Nat.min_eq_left hi'] at hlen'
 refine ift.of (fun h=>?_) (fun h=>?_)
 ·have hlt : i < l.length := by have := of_decide_eq_true h; omega
  refine hs.ld (hAH.trans hD) (fun _=>rfl) (by omega) rfl hlt fun y2 hy2=>?_
  have hcok:=hok _ (List.getElem_mem hlt)
  have hnone:=Qmz (f:=cnF T m) (List.getElem_mem hlt)
  have htk:=fun w=>Qo3 (w:=w) hlt hl'
  generalize l[i]=c at *
  unfold cnOk at hcok
  rw [Bool.and_eq_true] at hcok
  obtain ⟨hf1,hf2⟩:=QoP hcok.2
  have hcn:=(Qe1 hcok.1).1
  intro b53 n53
  refine nwT rfl ?_
  have l53:=Heap.le_put n53 (g:=.row (Qg.c y2)) (m:=true)
  have h53:(D.put b53 (.row (Qg.c y2))) b53=some (true,.row (Qg.c y2)):=Heap.put_same ..
  have hG2:=hG.up l53 hR
  have hD2:=hD.trans l53
  have hb2:=l53 _ _ hb
  have hsb:∀ q,s'.p=some q→q.1≠b21:=fun q hq e=>by
   have:=hG.fresh q hq
   rw [e,h21] at this; cases this
  have hs53:∀ q,s'.p=some q→q.1≠b53:=fun q hq e=>by
   obtain ⟨e2,h2⟩:=hG.has q hq
   rw [e,n53] at h2; cases h2
  generalize D.put b53 (.row (Qg.c y2))=D2 at *
  have hof:∀ {b:Nat} {e:Bool×GO},(H0.del b21) b=some e→(Heap.off s' D2) b=some e:=fun {b e} hb=>Heap.off_some (hD2 b e hb) fun q hq e'=>by
   have:=hG.fresh q hq
   rw [e'] at this
   have h':=Heap.del_le _ _ _ _ hb
   rw [this] at h'; cases h'
  refine ⟨Heap.off s' D2,Heap.off_le _ _,?_⟩
  refine fL (Heap.off_some hb2 hsb) (j:=5) rfl (fS (hof h1) rfl ⟨?_,fS (Heap.off_some h53 hs53) rfl ⟨?_,bxT (c:=Qa.c) (hof h1) (fL (Heap.off_some h53 hs53) (j:=1) rfl (fPs (x:=y.Pos) (hof h16) rfl rfl ?_))⟩⟩)
  ·rw [hx]; exact cat1 hn
  ·rw [hx,hy2.1.1]; exact cat2 hn (by omega)
  refine Qoa hx hi hn hf2 hf1 (hP.le hD2) (hT.le hD2) hG2.al hy2.2 hp (fun r D3 fl hD3 hfl hGr=>?_) (fun D3 hD3 hfl=>ke D3 (hD2.trans hD3) (hnone ?_))
  ·have hG3:=hG2.up hD3 hR
   have hw:cnF T m c=some ⟨dotS m.n c.n,fl⟩:=by unfold cnF; rw [hfl]
   have hfll:=QkS hfl
   have key:=QpE (D2:=D3) hA0 hG2.dom hG2.fresh hG2.has
   refine ⟨(Heap.off_le _ _).trans hD3,?_⟩
   rw [hx,hy2.1.1]
   refine hG3.lit hA0 (x:=(⟨dotS m.n c.n,r⟩:Qg)) (v:=⟨dotS m.n c.n,fl⟩) (fun _=>rfl) (by omega) hR rfl (Qva _) ⟨⟨rfl,QoJ hn (by omega)⟩,(hGr.is (fun _=>rfl) (by omega) (fun h h'=>FdIs.le h h') (by omega)).le key fun _ _ _ h=>FdIs.le key h⟩ (by omega) (by omega) (Qli hD3) fun r2 D4 hG4 h4 hf4=>?_
   have hb4:=h4 _ _ (Heap.off_some (hD3 _ _ hb2) hsb)
   refine ⟨_,hb4,by simp [Qc.c],?_⟩
   rw [Q4 (by omega) (by omega)]
   have hD4:(H0.del b21).le D4:=fun b e hb=>h4 b e (Qli hD3 b e (hof hb))
   exact ⟨⟨Heap.del_put hD4,i+1,l'++[⟨dotS m.n c.n,fl⟩],r2,by omega,by omega,htk _ hw,hG4.put h21 nA,Heap.put_same ..⟩,by first | omega | (dsimp only; omega)⟩
  ·unfold cnF; rw [hfl]
 ·have hie : i = l.length := by have := of_decide_eq_false h; omega
  subst hie
  rw [List.take_length] at hl'
  exact k _ _ _ hl' hD hG hb
theorem uTypes {T:Tl} {m:MoP} {bp bm:Nat} {sl:Sl} {x:Qa} (hx:x.Name=m.n) (hi:IpL A x.Imports m.im) (hn:m.n.length≤1000) {b1:Nat} {B W H0:Heap} {bo:Nat} {q:Qa} {o:MoP} (hO:Out A B W H0 bo q o)
 (h1:W b1=some (true,.row (Qa.c x))) (hP:Pr W bp bm sl) (hT:TlIs W bm T) {s:Sl} {l:List TdP} (hs:TpL A s l) (hok:∀ t ∈ l,tdOk t.e=true) (hb:o.ty.length+l.length≤1000000) {REST:Heap→Prop}
 (k:∀ D q' a,mpE (tdF T m) l=.ok a→Out A B W D bo q' { o with ty:=o.ty++a }→REST D)
 (ke:∀ D q' o' p,Out A B W D bo q' o'→mpE (tdF T m) l=.error p→E (flt m.n p 63) D) :
 lp (α:=Int) 0 H0 (fun x5 J6 H7=>
 ift (decide ((x5:Int) < (Sl.len s:Int)))
 (ixa s x5 fun p9=>
 ldT H7 Qc.c (p9.1,p9.2+(x5:Int).toNat*6) fun x14=>
 nw (Qc.c Qc.zero) (fun b16 H17=>
 stT (b16,0) (Qc.c x14) (fun H18=>
 ldT H18 Qc.c (b16,0) fun x19=>
 nw (Qc.c Qc.zero) (fun b21 H22=>
 stT (b21,0) (Qc.c x19) (fun H23=>
 dr H23 fun Hs24=>
 ldS Hs24 ((b1,0).1,(b1,0).2+0) fun x26=>
 catOk x26 ([46]:Str)∧
 ldS Hs24 ((b16,0).1,(b16,0).2+3) fun x29=>
 catOk (x26++([46]:Str)) x29∧
 ldL Hs24 ((b16,0).1,(b16,0).2+4) fun x32=>
 QS C x32 (fun r35 H36=>
 Heap.le Hs24 H36∧
 st ((b21,0).1,(b21,0).2+3) (sv ((x26++([46]:Str))++x29)) (fun H37=>
 st ((b21,0).1,(b21,0).2+4) (slv r35) (fun H38=>
 st ((b21,0).1,(b21,0).2+5) (slv Sl.nil) (fun H39=>
 ldL H39 ((b16,0).1,(b16,0).2+5) fun x40=>
 lp (α:=Int) 0 H39 (fun x42 J43 H44=>
 ift (decide ((x42:Int) < (Sl.len x40:Int)))
 (ixa x40 x42 fun p46=>
 ldT H44 Qg.c (p46.1,p46.2+(x42:Int).toNat*2) fun x51=>
 nw (Qg.c Qg.zero) (fun b53 H54=>
 stT (b53,0) (Qg.c x51) (fun H55=>
 dr H55 fun Hs56=>
 ldL Hs56 ((b21,0).1,(b21,0).2+5) fun x58=>
 ldS Hs56 ((b1,0).1,(b1,0).2+0) fun x60=>
 catOk x60 ([46]:Str)∧
 ldS Hs56 ((b53,0).1,(b53,0).2+0) fun x63=>
 catOk (x60++([46]:Str)) x63∧
 ldT Hs56 Qa.c (b1,0) fun x66=>
 ldL Hs56 ((b53,0).1,(b53,0).2+1) fun x68=>
 ldT Hs56 Qo.c ((b16,0).1,(b16,0).2+0) fun x70=>
 QX C E (some (bp,0)) x66 x68 x70 (fun r73 H74=>
 Heap.le Hs56 H74∧
 nw ((Qg.c (⟨((x60++([46]:Str))++x63),r73⟩:Qg))++[]) (fun b76 H77=>
 Heap.le Hs56 H77∧
 apS (Qg.c Qg.zero) 40 x58 (Sl.of (some (b76,0)) 1 1) (fun r79 H80=>
 Heap.le Hs56 H80∧
 st ((b21,0).1,(b21,0).2+5) (slv r79) (fun H81=>
 J43 (w .i64 (x42+1)) H81) H80) H77) H74) H55) H54) H44)
 (dr H44 fun Hs82=>
 nck (some (bo,0)) fun p84=>
 ldL Hs82 (p84.1,p84.2+2) fun x86=>
 ldT Hs82 Qc.c (b21,0) fun x88=>
 nw ((Qc.c x88)++[]) (fun b91 H92=>
 Heap.le Hs82 H92∧
 apS (Qc.c Qc.zero) 88 x86 (Sl.of (some (b91,0)) 1 1) (fun r94 H95=>
 Heap.le Hs82 H95∧
 nck (some (bo,0)) fun p96=>
 st (p96.1,p96.2+2) (slv r94) (fun H98=>
 J6 (w .i64 (x5+1)) H98) H95) H92) H44))) H38) H37) H36) H23) H22) H18) H17) H7)
 (REST H7)):=by
 have hlen:=SlIs.len hs
 refine ⟨fun y D=>∃ (i:Nat) (a:List TdP) (q':Qa),y=(i:Int)∧i≤l.length∧mpE (tdF T m) (l.take i)=.ok a∧Out A B W D bo q' { o with ty:=o.ty++a },fun y _=>l.length - y.toNat,⟨0,[],q,rfl,Nat.zero_le _,rfl,by rw [List.append_nil]; exact hO⟩,?_⟩
 clear hO
 rintro _ D ⟨i,a,q',rfl,hi',ha,hO⟩
 rw [hlen]
 have hla:=Qc7 ha
 rw [List.length_take,Nat.min_eq_left hi'] at hla
 refine ift.of (fun h=>?_) (fun h=>?_)
 ·have hlt : i < l.length := by have := of_decide_eq_true h; omega
  refine hs.ld hO.al (fun _=>rfl) (by omega) rfl hlt fun y hy=>?_
  have htd:=hok _ (List.getElem_mem hlt)
  have herr:=fun q=>QlR (e:=q) hlt ha
  have htk:=fun w=>QjW (w:=w) hlt ha
  generalize l[i]=v at *
  obtain ⟨e1,e2,e3,e4,e5⟩:=hy
  unfold tdOk TdP.e at htd
  simp only [Bool.and_eq_true,decide_eq_true_eq,List.all_eq_true] at htd
  obtain ⟨⟨⟨⟨⟨t1,t2⟩,t3⟩,t4⟩,t5⟩,t6⟩:=htd
  have hvn:=(Qe1 t1).1
  refine boxZ rfl fun b16 D1 n16 l16 h16=>?_
  refine bxT (c:=Qc.c) h16 ?_
  refine boxZ rfl fun b21 D2 n21 l21 h21=>?_
  have hO1:=hO.up l16
  have hO2:=hO1.up l21
  refine ⟨D1,l21,?_⟩
  refine fS (hO1.wle _ _ h1) rfl ⟨?_,fS h16 (j:=3) rfl ⟨?_,fL h16 (j:=4) rfl ?_⟩⟩
  ·rw [hx]; exact cat1 hn
  ·rw [hx,e3.1]; exact cat2 hn (by omega)
  rw [hx,e3.1]
  refine cloneS e4.1 hO2.al (by omega) fun r35 H36 hle36 hG35=>?_
  have h21':=hle36 _ _ h21
  refine ⟨l21.trans hle36,_,h21',by simp [Qc.c],_,Heap.put_same ..,by simp [Qc.c],_,Heap.put_same ..,by simp [Qc.c],?_⟩
  rw [Heap.put_put,Heap.put_put]
  have hA21:A b21=none:=hO1.al.none n21
  have hl36:D1.le H36:=l21.trans hle36
  have hdel:D1.le ((H36.put b21 (.row (Qc.c { y with Name:=dotS m.n v.n,Params:=r35,Cons:=Sl.nil }))).del b21):=Heap.le_del (Qbg hl36 n21) n21
  have hF:(H36.put b21 (.row (Qc.c { y with Name:=dotS m.n v.n,Params:=r35,Cons:=Sl.nil }))) b21=some (true,.row (Qc.c { y with Name:=dotS m.n v.n,Params:=r35,Cons:=Sl.nil })):=Heap.put_same ..
  have hup:∀ (g:GO) (D':Heap),((H36.put b21 (.row (Qc.c { y with Name:=dotS m.n v.n,Params:=r35,Cons:=Sl.nil }))).del b21).le D'→D' b21=some (true,g)→(H36.put b21 g).le D':=fun g D' hd hg b e he=>by
   by_cases hbb:b=b21
   ·rw [hbb,Heap.put_same] at he; rw [hbb,hg]; exact he
   ·rw [Heap.put_ne _ _ _ hbb] at he
    exact hd b e (by rw [Heap.del_ne _ hbb,Heap.put_ne _ _ _ hbb]; exact he)
  have h16F:(H36.put b21 (.row (Qc.c { y with Name:=dotS m.n v.n,Params:=r35,Cons:=Sl.nil }))) b16=some (true,.row (Qc.c y)):=Heap.del_le _ _ _ _ (hdel _ _ h16)
  rw [show Heap.put H36 ((b21,0).1,(b21,0).2+3).1 (GO.row (List.set (List.set (List.set (Qc.c y) ((b21,0).1,(b21,0).2+3).2 (sv (m.n++[46]++v.n))) ((b21,0).1,(b21,0).2+4).2 (slv r35)) ((b21,0).1,(b21,0).2+5).2 (slv Sl.nil)))=H36.put b21 (.row (Qc.c { y with Name:=dotS m.n v.n,Params:=r35,Cons:=Sl.nil })) from rfl]
  have hdomF:∀ b,(H36.put b21 (.row (Qc.c { y with Name:=dotS m.n v.n,Params:=r35,Cons:=Sl.nil }))) b=none→D1 b=none:=fun b hb=>(hdel.trans (Heap.del_le _ _)).none hb
  generalize hF0:H36.put b21 (.row (Qc.c { y with Name:=dotS m.n v.n,Params:=r35,Cons:=Sl.nil }))=F0 at *
  refine fL h16F (j:=5) rfl ?_
  refine uCons (y:=y) (y1:={ y with Name:=dotS m.n v.n,Params:=r35,Cons:=Sl.nil }) hx hi hn (hO1.al.trans hdel) (hdel _ _ (hO1.wle _ _ h1)) (hdel _ _ h16) e1 ((hP.le hO1.wle).le hdel) ((hT.le hO1.wle).le hdel) hF rfl e5 t6 (by omega) (fun D' cs s' hcs hD' hGc hb'=>?_) (fun D' hD' hcs=>ke D' _ _ _ (hO1.up (hdel.trans hD')) (herr _ ?_))
  ·have hO':=hO1.up (hdel.trans hD')
   have hlcs:=QkS hcs
   have hw:tdF T m v=.ok ⟨v.p,v.b,dotS m.n v.n,v.ps,cs⟩:=by unfold tdF; rw [hcs]
   have n21X:b21 ∉ blks q':=fun hm=>by
    obtain ⟨e,he⟩:=hO1.has b21 hm
    rw [n21] at he; cases he
   have nbo:bo≠b21:=fun e=>by have:=hO1.at_; rw [e,n21] at this; cases this
   have hoff:∀ {b:Nat} {e:Bool×GO},b ∉ blks q'→D' b=some e→(Heap.off q'.Types D') b=some e:=fun {b e} hb he=>Heap.off_some he fun p hp e'=>hb (List.mem_append_left _ (Qgo.2 ⟨p,hp,e'⟩))
   refine ⟨Heap.off q'.Types D',Heap.off_le _ _,_,rfl,fL (hoff hO'.bx hO'.at_) (j:=2) rfl (bxT (c:=Qc.c) (hoff n21X hb') ?_)⟩
   have key1:(Heap.nw A D2 H36).le (offB (blks q') (Heap.nw A B D')):=(QjZ (g:=.row (Qc.c { y with Name:=dotS m.n v.n,Params:=r35,Cons:=s' })) hO2.ab hO2.dom (fun b hb=>⟨hO2.has b hb,hO2.xA b hb⟩) h21 hA21).trans (QfY (hup _ _ hD' hb'))
   have key2:(Heap.nw A F0 D').le (offB (blks q') (Heap.nw A B D')):=Qsr hO2.ab (fun b hb=>hO1.dom b (hdomF b hb)) fun b hb=>⟨by
    obtain ⟨e,he⟩:=hO1.has b hb
    exact ⟨e,Heap.del_le _ _ _ _ (hdel _ _ he)⟩,hO1.xA b hb⟩
   have hRc:∀ {X Y:Heap} {v:CnV} {x:Qg},X.le Y→CnIs X v x→CnIs Y v x:=fun h h'=>CnIs.le h h'
   refine hO'.addT (v:=⟨v.p,v.b,dotS m.n v.n,v.ps,cs⟩) (Heap.le.refl _) (Qvz _) ⟨⟨e1,e2,⟨rfl,QoJ hn (by omega)⟩,⟨?_,by obtain ⟨_,_,_,xs,h,_⟩:=hG35; exact h.2.2.1⟩,?_⟩,(hG35.ow.le key1).base hO2.dom,(hGc.ow.le key2).base fun b hb=>hO1.dom b (hdomF b hb)⟩ (by simp only [List.length_append]; omega) fun r D3 hO3=>?_
   ·exact (hG35.is (fun _=>rfl) (by omega) (fun _ h=>h) (by omega)).le key1 fun _ _ _ h=>h
   ·exact (hGc.is (fun _=>rfl) (by omega) hRc (by omega)).le key2 fun _ _ _ h=>hRc key2 h
   ·rw [Q4 (by omega) (by omega)]
    have hO4:Out A B W D3 bo _ { o with ty:=(o.ty++a)++[⟨v.p,v.b,dotS m.n v.n,v.ps,cs⟩] }:=hO3
    rw [List.append_assoc] at hO4
    exact ⟨⟨i+1,a++[⟨v.p,v.b,dotS m.n v.n,v.ps,cs⟩],_,by omega,by omega,htk _ hw,hO4⟩,by first | omega | (dsimp only; omega)⟩
  ·unfold tdF; rw [hcs]
 ·have hie : i = l.length := by have := of_decide_eq_false h; omega
  subst hie
  rw [List.take_length] at ha
  exact k _ _ _ ha hO
theorem uRels {T:Tl} {m:MoP} {bp bm:Nat} {sl:Sl} {x:Qa} (hx:x.Name=m.n) (hi:IpL A x.Imports m.im) (hn:m.n.length≤1000) {b1:Nat} {B W H0:Heap} {bo:Nat} {q:Qa} {o:MoP} (hO:Out A B W H0 bo q o)
 (h1:W b1=some (true,.row (Qa.c x))) (hP:Pr W bp bm sl) (hT:TlIs W bm T) {s:Sl} {l:List RdP} (hs:RpL A s l) (hok:∀ t ∈ l,rdOk t.e=true) (hb:o.re.length+l.length≤1000000) {REST:Heap→Prop}
 (k:∀ D q' a,mpE (rdF T m) l=.ok a→Out A B W D bo q' { o with re:=o.re++a }→REST D)
 (ke:∀ D q' o' p,Out A B W D bo q' o'→mpE (rdF T m) l=.error p→E (flt m.n p 63) D) :
 lp (α:=Int) 0 H0 (fun x101 J102 H103=>
 ift (decide ((x101:Int) < (Sl.len s:Int)))
 (ixa s x101 fun p105=>
 ldT H103 Qh.c (p105.1,p105.2+(x101:Int).toNat*6) fun x110=>
 nw (Qh.c Qh.zero) (fun b112 H113=>
 stT (b112,0) (Qh.c x110) (fun H114=>
 dr H114 fun Hs115=>
 ldS Hs115 ((b1,0).1,(b1,0).2+0) fun x117=>
 catOk x117 ([46]:Str)∧
 ldS Hs115 ((b112,0).1,(b112,0).2+4) fun x120=>
 catOk (x117++([46]:Str)) x120∧
 ldT Hs115 Qa.c (b1,0) fun x123=>
 ldL Hs115 ((b112,0).1,(b112,0).2+5) fun x125=>
 ldT Hs115 Qo.c ((b112,0).1,(b112,0).2+0) fun x127=>
 QX C E (some (bp,0)) x123 x125 x127 (fun r130 H131=>
 Heap.le Hs115 H131∧
 st ((b112,0).1,(b112,0).2+4) (sv ((x117++([46]:Str))++x120)) (fun H132=>
 st ((b112,0).1,(b112,0).2+5) (slv r130) (fun H133=>
 dr H133 fun Hs134=>
 nck (some (bo,0)) fun p136=>
 ldL Hs134 (p136.1,p136.2+3) fun x138=>
 ldT Hs134 Qh.c (b112,0) fun x140=>
 nw ((Qh.c x140)++[]) (fun b143 H144=>
 Heap.le Hs134 H144∧
 apS (Qh.c Qh.zero) 64 x138 (Sl.of (some (b143,0)) 1 1) (fun r146 H147=>
 Heap.le Hs134 H147∧
 nck (some (bo,0)) fun p148=>
 st (p148.1,p148.2+3) (slv r146) (fun H150=>
 J102 (w .i64 (x101+1)) H150) H147) H144) H133) H132) H131) H114) H113) H103)
 (REST H103)):=by
 have hlen:=SlIs.len hs
 refine ⟨fun y D=>∃ (i:Nat) (a:List RdP) (q':Qa),y=(i:Int)∧i≤l.length∧mpE (rdF T m) (l.take i)=.ok a∧Out A B W D bo q' { o with re:=o.re++a },fun y _=>l.length - y.toNat,⟨0,[],q,rfl,Nat.zero_le _,rfl,by rw [List.append_nil]; exact hO⟩,?_⟩
 clear hO
 rintro _ D ⟨i,a,q',rfl,hi',ha,hO⟩
 rw [hlen]
 have hla:=Qc7 ha
 rw [List.length_take,Nat.min_eq_left hi'] at hla
 refine ift.of (fun h=>?_) (fun h=>?_)
 ·have hlt : i < l.length := by have := of_decide_eq_true h; omega
  refine hs.ld hO.al (fun _=>rfl) (by omega) rfl hlt fun y hy=>?_
  have htd:=hok _ (List.getElem_mem hlt)
  have herr:=fun q=>QlR (e:=q) hlt ha
  have htk:=fun w=>QjW (w:=w) hlt ha
  generalize l[i]=v at *
  obtain ⟨e1,e2,e3,e4,e5⟩:=hy
  unfold rdOk RdP.e at htd
  rw [Bool.and_eq_true] at htd
  obtain ⟨hf1,hf2⟩:=QoP htd.2
  have hvn:v.n.length≤32:=(Qe1 htd.1).1
  have hf1:v.f.length≤1000:=hf1
  refine boxZ rfl fun b16 D1 n16 l16 h16=>?_
  have hO1:=hO.up l16
  refine ⟨D1,Heap.le.refl _,?_⟩
  refine fS (hO1.wle _ _ h1) rfl ⟨?_,fS h16 (j:=4) rfl ⟨?_,bxT (c:=Qa.c) (hO1.wle _ _ h1) (fL h16 (j:=5) rfl (fPs (x:=y.Pos) h16 rfl rfl ?_))⟩⟩
  ·rw [hx]; exact cat1 hn
  ·rw [hx,e4.1]; exact cat2 hn (by omega)
  rw [hx,e4.1]
  refine Qoa hx hi hn hf2 hf1 (hP.le hO1.wle) (hT.le hO1.wle) hO1.al e5 e1 (fun r D2 fl hD2 hfl hGr=>?_) (fun D2 hD2 hfl=>ke D2 _ _ _ (hO1.up hD2) (herr _ ?_))
  ·have hfll:=QkS hfl
   have hw:rdF T m v=.ok ⟨v.p,v.b,v.i,dotS m.n v.n,fl⟩:=by unfold rdF; rw [hfl]
   refine ⟨hD2,_,hD2 _ _ h16,by simp [Qh.c],_,Heap.put_same ..,by simp [Qh.c],?_⟩
   rw [Heap.put_put]
   have hO':=hO.up (Qbg (m:=true) (g:=.row (Qh.c { y with Name:=dotS m.n v.n,Fields:=r })) (l16.trans hD2) n16)
   have hb':(D2.put b16 (.row (Qh.c { y with Name:=dotS m.n v.n,Fields:=r }))) b16=some (true,.row (Qh.c { y with Name:=dotS m.n v.n,Fields:=r })):=Heap.put_same ..
   have key:(Heap.nw A D1 D2).le (offB (blks q') (Heap.nw A B (D2.put b16 (.row (Qh.c { y with Name:=dotS m.n v.n,Fields:=r }))))):=QjZ hO1.ab hO1.dom (fun b hb=>⟨hO1.has b hb,hO1.xA b hb⟩) h16 (hO.al.none n16)
   have n16X:b16 ∉ blks q':=fun hm=>by
    obtain ⟨e,he⟩:=hO.has b16 hm
    rw [n16] at he; cases he
   rw [show Heap.put D2 ((b16,0).1,(b16,0).2+4).1 (GO.row (List.set (List.set (Qh.c y) ((b16,0).1,(b16,0).2+4).2 (sv (m.n++[46]++v.n))) ((b16,0).1,(b16,0).2+5).2 (slv r)))=D2.put b16 (.row (Qh.c { y with Name:=dotS m.n v.n,Fields:=r })) from rfl]
   generalize D2.put b16 (.row (Qh.c { y with Name:=dotS m.n v.n,Fields:=r }))=G at *
   have hoff:∀ {b:Nat} {e:Bool×GO},b ∉ blks q'→G b=some e→(Heap.off q'.Rels G) b=some e:=fun {b e} hb he=>Heap.off_some he fun p hp e'=>hb (List.mem_append_right _ (List.mem_append_left _ (Qgo.2 ⟨p,hp,e'⟩)))
   refine ⟨Heap.off q'.Rels G,Heap.off_le _ _,_,rfl,fL (hoff hO'.bx hO'.at_) (j:=3) rfl (bxT (c:=Qh.c) (hoff n16X hb') ?_)⟩
   refine hO'.addR (x:={ y with Name:=dotS m.n v.n,Fields:=r }) (v:=⟨v.p,v.b,v.i,dotS m.n v.n,fl⟩) (Heap.le.refl _) (Qvs _) ⟨⟨e1,e2,e3,⟨rfl,QoJ hn (by omega)⟩,?_⟩,(hGr.ow.le key).base hO1.dom⟩ (by simp only [List.length_append]; omega) fun r D3 hO3=>?_
   ·exact (hGr.is (fun _=>rfl) (by omega) (fun h h'=>FdIs.le h h') (by omega)).le key fun _ _ _ h=>FdIs.le key h
   ·rw [Q4 (by omega) (by omega)]
    have hO4:Out A B W D3 bo _ { o with re:=(o.re++a)++[⟨v.p,v.b,v.i,dotS m.n v.n,fl⟩] }:=hO3
    rw [List.append_assoc] at hO4
    exact ⟨⟨i+1,a++[⟨v.p,v.b,v.i,dotS m.n v.n,fl⟩],_,by omega,by omega,htk _ hw,hO4⟩,by first | omega | (dsimp only; omega)⟩
  ·unfold rdF; rw [hfl]
 ·have hie : i = l.length := by have := of_decide_eq_false h; omega
  subst hie
  rw [List.take_length] at ha
  exact k _ _ _ ha hO
theorem uNevers {T:Tl} {m:MoP} {bp bm:Nat} {sl:Sl} {x:Qa} (hx:x.Name=m.n) (hi:IpL A x.Imports m.im) (hn:m.n.length≤1000) {b1:Nat} {B W H0:Heap} {bo:Nat} {q:Qa} {o:MoP} (hO:Out A B W H0 bo q o)
 (h1:W b1=some (true,.row (Qa.c x))) (hP:Pr W bp bm sl) (hT:TlIs W bm T) {s:Sl} {l:List NeP} (hs:NpL A s l) (hok:∀ t ∈ l,neOk t.e=true∧t.b.length≤12) (hb:o.ne.length+l.length≤1000000) {REST:Heap→Prop}
 (k:∀ D q' a,mpE (neF T m) l=.ok a→Out A B W D bo q' { o with ne:=o.ne++a }→REST D)
 (ke:∀ D q' o' p,Out A B W D bo q' o'→mpE (neF T m) l=.error p→E (flt m.n p 63) D) :
 lp (α:=Int) 0 H0 (fun x235 J236 H237=>
 ift (decide ((x235:Int) < (Sl.len s:Int)))
 (ixa s x235 fun p239=>
 ldT H237 Qm.c (p239.1,p239.2+(x235:Int).toNat*4) fun x244=>
 nw (Qm.c Qm.zero) (fun b246 H247=>
 stT (b246,0) (Qm.c x244) (fun H248=>
 dr H248 fun Hs249=>
 ldS Hs249 ((b1,0).1,(b1,0).2+0) fun x251=>
 catOk x251 ([46]:Str)∧
 ldS Hs249 ((b246,0).1,(b246,0).2+2) fun x254=>
 catOk (x251++([46]:Str)) x254∧
 ldT Hs249 Qa.c (b1,0) fun x257=>
 ldL Hs249 ((b246,0).1,(b246,0).2+3) fun x259=>
 Qav C E (some (bp,0)) x257 x259 (fun r262 H263=>
 Heap.le Hs249 H263∧
 st ((b246,0).1,(b246,0).2+2) (sv ((x251++([46]:Str))++x254)) (fun H264=>
 st ((b246,0).1,(b246,0).2+3) (slv r262) (fun H265=>
 dr H265 fun Hs266=>
 nck (some (bo,0)) fun p268=>
 ldL Hs266 (p268.1,p268.2+5) fun x270=>
 ldT Hs266 Qm.c (b246,0) fun x272=>
 nw ((Qm.c x272)++[]) (fun b275 H276=>
 Heap.le Hs266 H276∧
 apS (Qm.c Qm.zero) 56 x270 (Sl.of (some (b275,0)) 1 1) (fun r278 H279=>
 Heap.le Hs266 H279∧
 nck (some (bo,0)) fun p280=>
 st (p280.1,p280.2+5) (slv r278) (fun H282=>
 J236 (w .i64 (x235+1)) H282) H279) H276) H265) H264) H263) H248) H247) H237)
 (REST H237)):=by
 have hlen:=SlIs.len hs
 refine ⟨fun y D=>∃ (i:Nat) (a:List NeP) (q':Qa),y=(i:Int)∧i≤l.length∧mpE (neF T m) (l.take i)=.ok a∧Out A B W D bo q' { o with ne:=o.ne++a },fun y _=>l.length - y.toNat,⟨0,[],q,rfl,Nat.zero_le _,rfl,by rw [List.append_nil]; exact hO⟩,?_⟩
 clear hO
 rintro _ D ⟨i,a,q',rfl,hi',ha,hO⟩
 rw [hlen]
 have hla:=Qc7 ha
 rw [List.length_take,Nat.min_eq_left hi'] at hla
 refine ift.of (fun h=>?_) (fun h=>?_)
 ·have hlt : i < l.length := by have := of_decide_eq_true h; omega
  refine hs.ld hO.al (fun _=>rfl) (by omega) rfl hlt fun y hy=>?_
  have htd:=hok _ (List.getElem_mem hlt)
  have herr:=fun q=>QlR (e:=q) hlt ha
  have htk:=fun w=>QjW (w:=w) hlt ha
  generalize l[i]=v at *
  obtain ⟨e1,e4,e5⟩:=hy
  obtain ⟨htd,hbl⟩:=htd
  unfold neOk NeP.e at htd
  simp only [Bool.and_eq_true,decide_eq_true_eq,List.all_map,List.all_eq_true,Function.comp_def] at htd
  have hvn:=(Qe1 htd.1.1).1
  refine boxZ rfl fun b16 D1 n16 l16 h16=>?_
  have hO1:=hO.up l16
  refine ⟨D1,Heap.le.refl _,?_⟩
  refine fS (hO1.wle _ _ h1) rfl ⟨?_,fS h16 (j:=2) rfl ⟨?_,bxT (c:=Qa.c) (hO1.wle _ _ h1) (fL h16 (j:=3) rfl ?_)⟩⟩
  ·rw [hx]; exact cat1 hn
  ·rw [hx,e4.1]; exact cat2 hn (by omega)
  rw [hx,e4.1]
  refine QrO hx hi hn htd.2 (by omega) (hP.le hO1.wle) (hT.le hO1.wle) hO1.al e5 (fun r D2 fl hD2 hfl hGr=>?_) (fun D2 q hD2 hfl=>ke D2 _ _ _ (hO1.up hD2) (herr _ ?_))
  ·have hfll:=Qc7 hfl
   have hw:neF T m v=.ok ⟨v.p,dotS m.n v.n,fl⟩:=by unfold neF; rw [hfl]
   refine ⟨hD2,_,hD2 _ _ h16,by simp [Qm.c],_,Heap.put_same ..,by simp [Qm.c],?_⟩
   rw [Heap.put_put]
   have hO':=hO.up (Qbg (m:=true) (g:=.row (Qm.c { y with Name:=dotS m.n v.n,Body:=r })) (l16.trans hD2) n16)
   have hb':(D2.put b16 (.row (Qm.c { y with Name:=dotS m.n v.n,Body:=r }))) b16=some (true,.row (Qm.c { y with Name:=dotS m.n v.n,Body:=r })):=Heap.put_same ..
   have key:(Heap.nw A D1 D2).le (offB (blks q') (Heap.nw A B (D2.put b16 (.row (Qm.c { y with Name:=dotS m.n v.n,Body:=r }))))):=QjZ hO1.ab hO1.dom (fun b hb=>⟨hO1.has b hb,hO1.xA b hb⟩) h16 (hO.al.none n16)
   have n16X:b16 ∉ blks q':=fun hm=>by
    obtain ⟨e,he⟩:=hO.has b16 hm
    rw [n16] at he; cases he
   rw [show Heap.put D2 ((b16,0).1,(b16,0).2+2).1 (GO.row (List.set (List.set (Qm.c y) ((b16,0).1,(b16,0).2+2).2 (sv (m.n++[46]++v.n))) ((b16,0).1,(b16,0).2+3).2 (slv r)))=D2.put b16 (.row (Qm.c { y with Name:=dotS m.n v.n,Body:=r })) from rfl]
   generalize D2.put b16 (.row (Qm.c { y with Name:=dotS m.n v.n,Body:=r }))=G at *
   have hoff:∀ {b:Nat} {e:Bool×GO},b ∉ blks q'→G b=some e→(Heap.off q'.Nevers G) b=some e:=fun {b e} hb he=>Heap.off_some he fun p hp e'=>hb (List.mem_append_right _ (List.mem_append_right _ (List.mem_append_right _ (Qgo.2 ⟨p,hp,e'⟩))))
   refine ⟨Heap.off q'.Nevers G,Heap.off_le _ _,_,rfl,fL (hoff hO'.bx hO'.at_) (j:=5) rfl (bxT (c:=Qm.c) (hoff n16X hb') ?_)⟩
   refine hO'.addN (x:={ y with Name:=dotS m.n v.n,Body:=r }) (v:=⟨v.p,dotS m.n v.n,fl⟩) (Heap.le.refl _) (Qvo _) ⟨e1,⟨rfl,QoJ hn (by omega)⟩,?_⟩ (by simp only [List.length_append]; omega) fun r D3 hO3=>?_
   ·exact (hGr.is (fun _=>rfl) (by omega) (fun h h'=>LpIs.le h h') (by omega)).le key fun _ _ _ h=>LpIs.le key h
   ·rw [Q4 (by omega) (by omega)]
    have hO4:Out A B W D3 bo _ { o with ne:=(o.ne++a)++[⟨v.p,dotS m.n v.n,fl⟩] }:=hO3
    rw [List.append_assoc] at hO4
    exact ⟨⟨i+1,a++[⟨v.p,dotS m.n v.n,fl⟩],_,by omega,by omega,htk _ hw,hO4⟩,by first | omega | (dsimp only; omega)⟩
  ·unfold neF; rw [hfl]
 ·have hie : i = l.length := by have := of_decide_eq_false h; omega
  subst hie
  rw [List.take_length] at ha
  exact k _ _ _ ha hO
theorem uRules {T:Tl} {m:MoP} {bp bm:Nat} {sl:Sl} {x:Qa} (hx:x.Name=m.n) (hi:IpL A x.Imports m.im) (hn:m.n.length≤1000) {b1:Nat} {B W H0:Heap} {bo:Nat} {q:Qa} {o:MoP} (hO:Out A B W H0 bo q o)
 (h1:W b1=some (true,.row (Qa.c x))) (hP:Pr W bp bm sl) (hT:TlIs W bm T) {s:Sl} {l:List RuP} (hs:UpL A s l) (hok:∀ t ∈ l,ruOk t.e=true∧t.b.length≤12) (hb:o.ru.length+l.length≤1000000) {REST:Heap→Prop}
 (k:∀ D q' a,mpE (ruF T m) l=.ok a→Out A B W D bo q' { o with ru:=o.ru++a }→REST D)
 (ke:∀ D q' o' p,Out A B W D bo q' o'→mpE (ruF T m) l=.error p→E (flt m.n p 63) D) :
 lp (α:=Int) 0 H0 (fun x153 J154 H155=>
 ift (decide ((x153:Int) < (Sl.len s:Int)))
 (ixa s x153 fun p157=>
 ldT H155 Qj.c (p157.1,p157.2+(x153:Int).toNat*6) fun x162=>
 nw (Qj.c Qj.zero) (fun b164 H165=>
 stT (b164,0) (Qj.c x162) (fun H166=>
 jn (α:=Unit) (fun x168 H169=>
 dr H169 fun Hs193=>
 ldT Hs193 Qa.c (b1,0) fun x195=>
 ldL Hs193 ((b164,0).1,(b164,0).2+3) fun x197=>
 ldL Hs193 ((b164,0).1,(b164,0).2+4) fun x199=>
 Qap C E (some (bp,0)) x195 x197 (fun r202 H203=>
 Heap.le Hs193 H203∧
 QS C x199 (fun r205 H206=>
 Heap.le Hs193 H206∧
 st ((b164,0).1,(b164,0).2+3) (slv r202) (fun H207=>
 st ((b164,0).1,(b164,0).2+4) (slv r205) (fun H208=>
 ldT H208 Qa.c (b1,0) fun x209=>
 ldL H208 ((b164,0).1,(b164,0).2+5) fun x211=>
 Qav C E (some (bp,0)) x209 x211 (fun r213 H214=>
 st ((b164,0).1,(b164,0).2+5) (slv r213) (fun H215=>
 dr H215 fun Hs216=>
 nck (some (bo,0)) fun p218=>
 ldL Hs216 (p218.1,p218.2+4) fun x220=>
 ldT Hs216 Qj.c (b164,0) fun x222=>
 nw ((Qj.c x222)++[]) (fun b225 H226=>
 Heap.le Hs216 H226∧
 apS (Qj.c Qj.zero) 104 x220 (Sl.of (some (b225,0)) 1 1) (fun r228 H229=>
 Heap.le Hs216 H229∧
 nck (some (bo,0)) fun p230=>
 st (p230.1,p230.2+4) (slv r228) (fun H232=>
 J154 (w .i64 (x153+1)) H232) H229) H226) H215) H214) H208) H207) H206) H203) H169)
 (fun J167=>ldT H166 Qa.c (b1,0) fun x171=>
 ldS H166 ((b164,0).1,(b164,0).2+2) fun x173=>
 ldT H166 Qo.c ((b164,0).1,(b164,0).2+0) fun x175=>
 Qah C E (some (bp,0)) x171 x173 2 x175 (fun r177 H178=>
 st ((b164,0).1,(b164,0).2+2) (sv r177) (fun H179=>
 ldS H179 ((b164,0).1,(b164,0).2+2) fun x180=>
 ldS H179 ((b1,0).1,(b1,0).2+0) fun x182=>
 catOk x182 ([46]:Str)∧
 Qca C x180 (x182++([46]:Str)) (fun r185 H186=>
 ift (!r185)
 (ldT H186 Qa.c (b1,0) fun x188=>
 ldT H186 Qo.c ((b164,0).1,(b164,0).2+0) fun x190=>
 QG C E x188 x190 63 (fun H192=>
 J167 () H192) H186)
 (J167 () H186)) H179) H178) H166)) H165) H155)
 (REST H155)):=by
 have hlen:=SlIs.len hs
 refine ⟨fun y D=>∃ (i:Nat) (a:List RuP) (q':Qa),y=(i:Int)∧i≤l.length∧mpE (ruF T m) (l.take i)=.ok a∧Out A B W D bo q' { o with ru:=o.ru++a },fun y _=>l.length - y.toNat,⟨0,[],q,rfl,Nat.zero_le _,rfl,by rw [List.append_nil]; exact hO⟩,?_⟩
 clear hO
 rintro _ D ⟨i,a,q',rfl,hi',ha,hO⟩
 rw [hlen]
 have hla:=Qc7 ha
 rw [List.length_take,Nat.min_eq_left hi'] at hla
 refine ift.of (fun h=>?_) (fun h=>?_)
 ·have hlt : i < l.length := by have := of_decide_eq_true h; omega
  refine hs.ld hO.al (fun _=>rfl) (by omega) rfl hlt fun y hy=>?_
  have htd:=hok _ (List.getElem_mem hlt)
  have herr:=fun q=>QlR (e:=q) hlt ha
  have htk:=fun w=>QjW (w:=w) hlt ha
  generalize l[i]=v at *
  obtain ⟨e1,e2,e3,e4,e5⟩:=hy
  obtain ⟨htd,hbl⟩:=htd
  unfold ruOk RuP.e at htd
  simp only [Bool.and_eq_true,decide_eq_true_eq,List.all_map,List.all_eq_true,Function.comp_def,List.length_map] at htd
  obtain ⟨⟨⟨⟨⟨t1,t2⟩,t3⟩,t4⟩,t5⟩,t6⟩:=htd
  have hvn:=(Qlf t1).1
  refine boxZ rfl fun b16 D1 n16 l16 h16=>?_
  have hO1:=hO.up l16
  have hA16:=hO.al.none n16
  have n16X:b16 ∉ blks q':=fun hm=>by
   obtain ⟨e,he⟩:=hO.has b16 hm
   rw [n16] at he; cases he
  refine ⟨fun _ F=>∃ n',meanF T m v.r 2=some n'∧(m.n++[46]).isPrefixOf n' = true∧D.le F∧F b16=some (true,.row (Qj.c { y with Rel:=n' }))∧Nm n' n',?_,?_⟩
  ·refine bxT (c:=Qa.c) (hO1.wle _ _ h1) (fS h16 (j:=2) rfl (fPs (x:=y.Pos) h16 rfl rfl ?_))
   refine Qo1 (hP.le hO1.wle) (hT.le hO1.wle) hx hi hO1.al e2.1 e1 (by omega) hn (fun r F hF hr=>?_) (fun F hF hr=>ke F _ _ _ (hO1.up hF) (herr _ ?_))
   ·have hF16:=hF _ _ h16
    have hrl:=Qlg (B:=1000) (by omega) hn hr
    refine ⟨_,hF16,by simp [Qj.c],?_⟩
    rw [show Heap.put F ((b16,0).1,(b16,0).2+2).1 (GO.row (List.set (Qj.c y) ((b16,0).1,(b16,0).2+2).2 (sv r)))=F.put b16 (.row (Qj.c { y with Rel:=r })) from rfl]
    have hDG:D.le (F.put b16 (.row (Qj.c { y with Rel:=r }))):=Qbg (l16.trans hF) n16
    have hb':(F.put b16 (.row (Qj.c { y with Rel:=r }))) b16=some (true,.row (Qj.c { y with Rel:=r })):=Heap.put_same ..
    generalize F.put b16 (.row (Qj.c { y with Rel:=r }))=G at *
    have hOG:=hO.up hDG
    refine fS hb' (j:=2) rfl (fS (hOG.wle _ _ h1) rfl ⟨?_,?_⟩)
    ·rw [hx]; exact cat1 hn
    rw [hx]
    apply Qfu
    unfold QdC
    refine Qjo (ift.of (fun h=>?_) (fun h=>?_))
    ·refine bxT (c:=Qa.c) (hOG.wle _ _ h1) (fPs (x:=y.Pos) hb' rfl rfl ?_)
     refine QdS hx e1 fun D2 hD2=>ke D2 _ _ _ (hOG.up hD2) (herr _ ?_)
     unfold ruF
     rw [hr]
     dsimp only
     rw [if_pos (by simpa using h)]
    ·exact ⟨r,hr,by simpa using h,hDG,hb',rfl,by omega⟩
   ·unfold ruF; rw [hr]
  ·rintro _ F ⟨n',hn',hpre,hDF,hb',hnm⟩
   have hOF:=hO.up hDF
   refine ⟨F,Heap.le.refl _,?_⟩
   refine bxT (c:=Qa.c) (hOF.wle _ _ h1) (fL hb' (j:=3) rfl (fL hb' (j:=4) rfl ?_))
   have hru:∀ q,mpE (exF T m) v.a=.error q→ruF T m v=.error q:=fun q hq=>by
    unfold ruF
    rw [hn']
    dsimp only
    rw [if_neg (by rw [hpre]; decide),hq]
   refine Qpt hx hi hn (QoM t4) (by omega) (hP.le hOF.wle) (hT.le hOF.wle) hOF.al e3 (fun r3 H3 la hF3 hla' hG3=>?_) (fun H3 q hF3 hq=>ke H3 _ _ _ (hOF.up hF3) (herr _ (hru _ hq)))
   refine ⟨hF3,?_⟩
   have hO3:=hOF.up hF3
   refine cloneS e4 hO3.al (by omega) fun r4 H4 h34 hG4=>?_
   have hF4:=hF3.trans h34
   refine ⟨hF4,_,hF4 _ _ hb',by simp [Qj.c],_,Heap.put_same ..,by simp [Qj.c],?_⟩
   rw [Heap.put_put]
   have hD5:D.le (H4.put b16 (.row (Qj.c { y with Rel:=n',Args:=r3,Aggs:=r4 }))):=Qbg (hDF.trans hF4) n16
   have hb5:(H4.put b16 (.row (Qj.c { y with Rel:=n',Args:=r3,Aggs:=r4 }))) b16=some (true,.row (Qj.c { y with Rel:=n',Args:=r3,Aggs:=r4 })):=Heap.put_same ..
   have h45:∀ {b:Nat} {e:Bool×GO},b≠b16→H4 b=some e→(H4.put b16 (.row (Qj.c { y with Rel:=n',Args:=r3,Aggs:=r4 }))) b=some e:=fun {b e} hb he=>by rw [Heap.put_ne _ _ _ hb]; exact he
   rw [show Heap.put H4 ((b16,0).1,(b16,0).2+3).1 (GO.row (List.set (List.set (Qj.c { y with Rel:=n' }) ((b16,0).1,(b16,0).2+3).2 (slv r3)) ((b16,0).1,(b16,0).2+4).2 (slv r4)))=H4.put b16 (.row (Qj.c { y with Rel:=n',Args:=r3,Aggs:=r4 })) from rfl]
   generalize H4.put b16 (.row (Qj.c { y with Rel:=n',Args:=r3,Aggs:=r4 }))=H5 at *
   have hO5:=hO.up hD5
   refine bxT (c:=Qa.c) (hO5.wle _ _ h1) (fL hb5 (j:=5) rfl ?_)
   refine QrO hx hi hn t5 (by omega) (hP.le hO5.wle) (hT.le hO5.wle) hO5.al e5 (fun r5 H6 lb h56 hlb hG6=>?_) (fun H6 q h56 hq=>ke H6 _ _ _ (hO5.up h56) (herr _ ?_))
   ·have hla2:=Qc7 hla'
    have hlb2:=Qc7 hlb
    have hw:ruF T m v=.ok ⟨v.p,n',la,v.g,lb⟩:=by
     unfold ruF
     rw [hn']
     dsimp only
     rw [if_neg (by rw [hpre]; decide),hla']
     dsimp only
     rw [hlb]
    refine ⟨_,h56 _ _ hb5,by simp [Qj.c],?_⟩
    rw [show Heap.put H6 ((b16,0).1,(b16,0).2+5).1 (GO.row (List.set (Qj.c { y with Rel:=n',Args:=r3,Aggs:=r4 }) ((b16,0).1,(b16,0).2+5).2 (slv r5)))=H6.put b16 (.row (Qj.c { y with Rel:=n',Args:=r3,Aggs:=r4,Body:=r5 })) from rfl]
    have hO':=hO.up (Qbg (m:=true) (g:=.row (Qj.c { y with Rel:=n',Args:=r3,Aggs:=r4,Body:=r5 })) (hD5.trans h56) n16)
    have hb7:(H6.put b16 (.row (Qj.c { y with Rel:=n',Args:=r3,Aggs:=r4,Body:=r5 }))) b16=some (true,.row (Qj.c { y with Rel:=n',Args:=r3,Aggs:=r4,Body:=r5 })):=Heap.put_same ..
    have up:∀ {X:Heap},X.le H4→(X.put b16 (.row (Qj.c { y with Rel:=n',Args:=r3,Aggs:=r4,Body:=r5 }))).le (H6.put b16 (.row (Qj.c { y with Rel:=n',Args:=r3,Aggs:=r4,Body:=r5 }))):=fun {X} hX b e he=>by
     by_cases hbb:b=b16
     ·subst hbb; rw [Heap.put_same] at he ⊢; exact he
     ·rw [Heap.put_ne _ _ _ hbb] at he ⊢
      exact h56 b e (h45 hbb (hX b e he))
    have hX:∀ {F:Heap},D.le F→∀ b ∈ blks q',(∃ e,F b=some e)∧A b=none:=fun {F} hF b hb=>⟨by obtain ⟨e,he⟩:=hO.has b hb; exact ⟨e,hF _ _ he⟩,hO.xA b hb⟩
    have hdm:∀ {F:Heap},D.le F→∀ b,F b=none→B b=none:=fun {F} hF b hb=>hO.dom b (hF.none hb)
    have key3:=(QjZ (G:=H3) (g:=.row (Qj.c { y with Rel:=n',Args:=r3,Aggs:=r4,Body:=r5 })) hO.ab (hdm hDF) (hX hDF) hb' hA16).trans (QfY (up h34))
    have key4:=(QjZ (G:=H4) (g:=.row (Qj.c { y with Rel:=n',Args:=r3,Aggs:=r4,Body:=r5 })) hO.ab (hdm (hDF.trans hF3)) (hX (hDF.trans hF3)) (hF3 _ _ hb') hA16).trans (QfY (up (Heap.le.refl _)))
    have key6:=QjZ (G:=H6) (g:=.row (Qj.c { y with Rel:=n',Args:=r3,Aggs:=r4,Body:=r5 })) hO.ab (hdm hD5) (hX hD5) hb5 hA16
    generalize H6.put b16 (.row (Qj.c { y with Rel:=n',Args:=r3,Aggs:=r4,Body:=r5 }))=G at *
    have hoff:∀ {b:Nat} {e:Bool×GO},b ∉ blks q'→G b=some e→(Heap.off q'.Rules G) b=some e:=fun {b e} hb he=>Heap.off_some he fun p hp e'=>hb (List.mem_append_right _ (List.mem_append_right _ (List.mem_append_left _ (Qgo.2 ⟨p,hp,e'⟩))))
    refine ⟨Heap.off q'.Rules G,Heap.off_le _ _,_,rfl,fL (hoff hO'.bx hO'.at_) (j:=4) rfl (bxT (c:=Qj.c) (hoff n16X hb7) ?_)⟩
    refine hO'.addU (x:={ y with Rel:=n',Args:=r3,Aggs:=r4,Body:=r5 }) (v:=⟨v.p,n',la,v.g,lb⟩) (Heap.le.refl _) (Qvu _) ⟨⟨e1,hnm,?_,?_,?_⟩,(hG3.ow.le key3).base (hdm hDF),(hG4.ow.le key4).base (hdm (hDF.trans hF3)),(hG6.ow.le key6).base (hdm hD5)⟩ (by simp only [List.length_append]; omega) fun r D3 hO3=>?_
    ·exact (hG3.is (fun _=>rfl) (by omega) (fun h h'=>EpIs.le h _ _ h') (by omega)).le key3 fun _ _ _ h=>EpIs.le key3 _ _ h
    ·exact (hG4.is (fun _=>rfl) (by omega) (fun _ h=>h) (by omega)).le key4 fun _ _ _ h=>h
    ·exact (hG6.is (fun _=>rfl) (by omega) (fun h h'=>LpIs.le h h') (by omega)).le key6 fun _ _ _ h=>LpIs.le key6 h
    ·rw [Q4 (by omega) (by omega)]
     have hO4:Out A B W D3 bo _ { o with ru:=(o.ru++a)++[⟨v.p,n',la,v.g,lb⟩] }:=hO3
     rw [List.append_assoc] at hO4
     exact ⟨⟨i+1,a++[⟨v.p,n',la,v.g,lb⟩],_,by omega,by omega,htk _ hw,hO4⟩,by first | omega | (dsimp only; omega)⟩
   ·unfold ruF
    rw [hn']
    dsimp only
    rw [if_neg (by rw [hpre]; decide),hla']
    dsimp only
    rw [hq]
 ·have hie : i = l.length := by have := of_decide_eq_false h; omega
  subst hie
  rw [List.take_length] at ha
  exact k _ _ _ ha hO
end
end
section
open Go Go.Proofs
theorem moC0 {m:MoV} (h:moC m=0):moD m≤64∧moOk m=true∧moFew m=true:=by
 unfold moC at h
 split at h
 ·cases h
 ·split at h
  ·cases h
  ·split at h
   ·cases h
   ·rename_i h1 h2 h3
    exact ⟨by omega,by simpa using h2,by simpa using h3⟩
/-- what is known of a module that passes -/
structure MoG (m:MoP):Prop where
 n:m.n.length≤32
 im:∀ x ∈ m.im,x.n.length≤32
 ty:∀ t ∈ m.ty,tdOk t.e=true
 re:∀ t ∈ m.re,rdOk t.e=true
 ru:∀ t ∈ m.ru,ruOk t.e=true∧t.b.length≤12
 ne:∀ t ∈ m.ne,neOk t.e=true∧t.b.length≤12
 li:m.im.length≤8
 lt:m.ty.length≤64
 lr:m.re.length≤64
 lu:m.ru.length≤256
 ln:m.ne.length≤256
theorem moG {m:MoP} (h:moC m.e=0):MoG m:=by
 obtain ⟨_,h1,h2⟩:=moC0 h
 unfold moOk moFew MoP.e at *
 simp only [Bool.and_eq_true,decide_eq_true_eq,List.all_map,List.all_eq_true,Function.comp_def,List.length_map,RuP.e,NeP.e] at h1 h2
 obtain ⟨⟨⟨⟨⟨a1,a2⟩,a3⟩,a4⟩,a5⟩,a6⟩:=h1
 obtain ⟨⟨⟨⟨⟨⟨b1,b2⟩,b3⟩,b4⟩,b5⟩,b6⟩,b7⟩:=h2
 exact ⟨(Qe1 a1).1,fun x hx=>(Qe1 (a2 x hx)).1,a3,a4,fun t ht=>⟨a5 t ht,b6 t ht⟩,fun t ht=>⟨a6 t ht,b7 t ht⟩,b1,b2,b3,b4,b5⟩
section
variable {C:Ctx} {A B W H:Heap} {E:Value→Heap→Prop}
theorem QuZ {T:Tl} {m o:MoP} {bp bm bo:Nat} {sl:Sl} {x q:Qa} {K:Heap→Prop} (hO:Out A B W H bo q o) (hP:Pr W bp bm sl) (hT:TlIs W bm T) (hm:MpIs A m x) (hg:MoG m)
 (hb:o.ty.length≤900000∧o.re.length≤900000∧o.ru.length≤900000∧o.ne.length≤900000)
 (k:∀ D q' o',usedF T o m=.ok o'→Out A B W D bo q' o'→K D) (ke:∀ D q' o' p,Out A B W D bo q' o'→usedF T o m=.error p→E (flt m.n p 63) D):Qc2 C E (some (bp,0)) (some (bo,0)) x K H:=by
 obtain ⟨m1,m2,m3,m4,m5,m6⟩:=hm
 have hn:=hg.n
 have gt:=hg.lt
 have gr:=hg.lr
 have gu:=hg.lu
 have gn:=hg.ln
 apply QiL
 unfold QeO
 refine box1N fun b1 H2 n1 e1 l1 h1=>fL h1 (j:=2) rfl ?_
 have hO2:=hO.up l1
 have hWn:W b1=none:=hO.wle.none n1
 have hW1:W.le (W.put b1 (.row (Qa.c x))):=Heap.le_put hWn
 have h1W:(W.put b1 (.row (Qa.c x))) b1=some (true,.row (Qa.c x)):=Heap.put_same ..
 have hne:∀ b,(∃ e,H b=some e)→b≠b1:=fun b ⟨e,he⟩ e'=>by rw [e',n1] at he; cases he
 have hO3:Out A B (W.put b1 (.row (Qa.c x))) H2 bo q o:=hO2.keep (hO2.aw.trans hW1) (by
  rw [e1]
  intro b e hb
  by_cases hbb:b=b1
  ·subst hbb; rw [Heap.put_same] at hb ⊢; exact hb
  ·rw [Heap.put_ne _ _ _ hbb] at hb ⊢; exact hO.wle b e hb) (by rw [Heap.put_ne _ _ _ (hne bo ⟨_,hO.at_⟩)]; exact hO.wo) fun b hb=>by rw [Heap.put_ne _ _ _ (hne b (hO.has b hb))]; exact (hO.fr b hb).2
 have back:∀ {D q' o'},Out A B (W.put b1 (.row (Qa.c x))) D bo q' o'→Out A B W D bo q' o':=fun h=>h.keep hO.aw (hW1.trans h.wle) hO.wo fun b hb=>hW1.none (h.fr b hb).2
 have hP1:=hP.le hW1
 have hT1:=hT.le hW1
 generalize W.put b1 (.row (Qa.c x))=W1 at *
 refine uTypes m1.1 m2.1 (by omega) hO3 h1W hP1 hT1 m3 hg.ty (by omega) (fun D1 q1 a ha hOa=>?_) (fun D q' o' p hO' hp=>ke D q' o' p (back hO') (by unfold usedF; rw [hp]))
 have la:=Qc7 ha
 refine fL (hOa.wle _ _ h1W) (j:=3) rfl ?_
 refine uRels m1.1 m2.1 (by omega) hOa h1W hP1 hT1 m4 hg.re (by dsimp only; omega) (fun D2 q2 b hb2 hOb=>?_) (fun D q' o' p hO' hp=>ke D q' o' p (back hO') (by unfold usedF; rw [ha]; dsimp only; rw [hp]))
 refine fL (hOb.wle _ _ h1W) (j:=4) rfl ?_
 refine uRules m1.1 m2.1 (by omega) hOb h1W hP1 hT1 m5 hg.ru (by dsimp only; omega) (fun D3 q3 c hc hOc=>?_) (fun D q' o' p hO' hp=>ke D q' o' p (back hO') (by unfold usedF; rw [ha]; dsimp only; rw [hb2]; dsimp only; rw [hp]))
 refine fL (hOc.wle _ _ h1W) (j:=5) rfl ?_
 refine uNevers m1.1 m2.1 (by omega) hOc h1W hP1 hT1 m6 hg.ne (by dsimp only; omega) (fun D4 q4 d hd hOd=>?_) (fun D q' o' p hO' hp=>ke D q' o' p (back hO') (by unfold usedF; rw [ha]; dsimp only; rw [hb2]; dsimp only; rw [hc]; dsimp only; rw [hp]))
 exact k D4 q4 _ (by unfold usedF; rw [ha]; dsimp only; rw [hb2]; dsimp only; rw [hc]; dsimp only; rw [hd]) (back hOd)
end
end
section
open Go Go.Proofs
theorem Qm5 (ps:List Str):∀ l:List TyV,freeTys ps l=l.any (freeTy ps)
 | []=>rfl
 | v::l=>by rw [freeTys,Qm5 ps l,List.any_cons]
theorem Qrj (ps:List Str) (v:TyV):freeTy ps v=if v.n.headD 0=39 then !ps.contains v.n else v.a.any (freeTy ps):=by
 obtain ⟨n,a⟩:=v
 rw [freeTy,Qm5]; rfl
theorem SlIs.nil {α β:Type} {R:α→β→Prop} {c:β→List Value} {A:Heap}:SlIs R c A Sl.nil ([]:List α):=⟨[],.inl rfl,rfl,rfl,by simp,fun i v x h=>by simp at h⟩
theorem QoT {β:Type} {c:β→List Value} {z:Nat} (hz:∀ x,(c x).length=z):∀ (n:Nat) (xs:List β),(xs.take n).flatMap c=(xs.flatMap c).take (n*z)
 | 0,xs=>by simp
 | n+1,[]=>by simp
 | n+1,x::xs=>by
  rw [List.take_succ_cons,List.flatMap_cons,List.flatMap_cons,QoT hz n xs,List.take_append,hz,List.take_of_length_le (l:=c x) (by rw [hz,Nat.succ_mul]; omega),Nat.succ_mul,Nat.add_sub_cancel]
/-- a beginning of a list -/
theorem SlIs.pre {α β:Type} {R:α→β→Prop} {c:β→List Value} {z:Nat} {A:Heap} {s:Sl} {l:List α} {i:Nat} {e:Int} {K:Sl→Prop} (h:SlIs R c A s l) (hz:∀ x,(c x).length=z) (hc:s.len≤s.cap) (he:e=(i:Int)) (hi:i≤l.length) (k:∀ t,SlIs R c A t (l.take i)→K t):slL s 0 e (s.cap:Int) z K:=by
 subst he
 obtain ⟨xs,h1,h2,h3,h4,h5⟩:=h
 have r1:=Qoj h1 (lo:=0) (hi:=(i:Int)) (mx:=(s.cap:Int)) (z:=z) (by omega) (by omega) (by omega) (by simp)
 rw [show (0:Int).toNat*z=0 by simp,List.drop_zero,show ((i:Int) - 0).toNat=i by omega,← QoT hz] at r1
 simp only [show ((s.cap:Int) - 0).toNat=s.cap by omega] at r1
 refine ⟨by omega,by omega,by omega,by omega,_,rfl,k _ ⟨xs.take i,?_,?_,?_,?_,?_⟩⟩
 ·simpa using r1
 ·simp only [List.length_take]; omega
 ·simp only [List.length_take]; omega
 ·simp only [List.length_take]; omega
 ·intro j v x hv hx
  rw [List.getElem?_take] at hv hx
  split at hv
  ·rename_i hj
   rw [if_pos hj] at hx
   exact h5 j v x hv hx
  ·cases hv
section
variable {C:Ctx} {A:Heap} {E:Value→Heap→Prop}
theorem Quq:∀ (v:TyV),tyOk v=true→∀ {t:Qd} {H:Heap} {s:Sl} {ps:List Str} {K:Bool→Heap→Prop},A.le H→TyIs A v t→StL A s ps→(∀ D,H.le D→K (freeTy ps v) D)→QfM C t s K H:=by
 refine TyV.rec_ fun v ih hok t H s ps K hA ht hs k=>?_
 obtain ⟨hN,hok⟩:=(Qq6 v).1 hok
 obtain ⟨hnl,hne,hal⟩:=Qq5 hN
 obtain ⟨ht1,ht2⟩:=Qej.1 ht
 rw [Qrj] at k
 apply QnI
 unfold Qkv
 refine box1N fun b1 H2 n1 _ l1 h1=>box1N fun b3 H4 n3 _ l3 h3=>?_
 have h1:=l3 _ _ h1
 have hH4:=l1.trans l3
 refine fS h1 rfl ?_
 rw [ht1.1]
 obtain ⟨c,cs,hc⟩:=List.exists_cons_of_ne_nil hne
 refine ⟨c,by omega,by rw [hc]; rfl,?_⟩
 have hh:v.n.headD 0=c:=by rw [hc]; rfl
 rw [hh] at k
 refine ift.of (fun h=>?_) (fun h=>?_)
 ·have hc9 : c = 39 := by
   have h':(c.toNat:Int)=39:=by simpa using h
   have:c.toNat=39:=by omega
   exact UInt8.toNat_inj.1 (by rw [this]; rfl)
  rw [if_pos hc9] at k
  refine ⟨s,by rw [QaC h3]; rfl,fS h1 rfl ?_⟩
  rw [ht1.1]
  exact contS hs (hA.trans hH4) (k _ hH4)
 ·have hc9 : c ≠ 39 := fun e => by rw [e] at h; exact absurd h (by decide)
  rw [if_neg hc9] at k
  refine fL h1 rfl ?_
  refine cfType (R:=TyIs A) (ok:=freeTy ps) ht2 (hA.trans hH4) ?_ fun D hD=>k D (hH4.trans hD)
  intro w hw y D Φ hD hy hΦ
  refine ⟨203,[],[pv (some (b3,0))],rfl,Qmq,Qmj C y (b3,0) Φ D ?_⟩
  unfold QiA
  refine box1N fun b2 H3 _ _ l2 h2=>bxT (c:=Qd.c) h2 ⟨s,by rw [QaC (l2 _ _ (hD _ _ h3))]; rfl,?_⟩
  exact ih w hw (hok w hw) ((hA.trans hH4).trans (hD.trans l2)) hy hs fun D2 hD2=>hΦ D2 (l2.trans hD2)
theorem Qsu {H:Heap} {s q:Sl} {ps:List Str} {l:List FdV} {K:Bool→Heap→Prop} (hA:A.le H) (hl:FdL A q l) (hok:∀ f ∈ l,tyOk f.t=true) (hs:StL A s ps) (k:∀ D,H.le D→K (openF ps l) D):QfN C q s K H:=by
 apply QnJ
 unfold Qkw
 refine box1N fun b1 H2 n1 _ l1 h1=>?_
 refine cfFieldDef (R:=FdIs A) (ok:=fun f=>freeTy ps f.t) hl (hA.trans l1) ?_ fun D hD=>k D (l1.trans hD)
 intro w hw y D Φ hD hy hΦ
 refine ⟨153,[],[pv (some (b1,0))],rfl,Qmr,Qmk C y (b1,0) Φ D ?_⟩
 unfold QiB
 refine box1N fun b2 H3 _ _ l2 h2=>fT (c:=Qd.c) (x:=y.Type_) h2 (fun i v hv=>by match i,hv with | 0,hv=>exact hv | 1,hv=>exact hv) ⟨s,by rw [QaC (l2 _ _ (hD _ _ h1))]; rfl,?_⟩
 exact Quq w.t (hok w hw) ((hA.trans l1).trans (hD.trans l2)) hy.2 hs fun D2 hD2=>hΦ D2 (l2.trans hD2)
end
def Kp (bm:Nat) (H D:Heap):Prop:=(H.del bm).le D
section
variable {bm:Nat} {A H D D2:Heap}
theorem Kp.of (h:H.le D):Kp bm H D:=(Heap.del_le _ _).trans h
theorem Kp.refl:Kp bm H H:=Heap.del_le _ _
theorem Kp.at_ (h:Kp bm H D) {b:Nat} {e:Bool×GO} (hb:b≠bm) (he:H b=some e):D b=some e:=h b e (by rw [Heap.del_ne _ hb]; exact he)
theorem Kp.trans (h:Kp bm H D) (h2:Kp bm D D2):Kp bm H D2:=fun b e hb=>by
 have hne:b≠bm:=fun e'=>by rw [e',Heap.del_same] at hb; cases hb
 rw [Heap.del_ne _ hne] at hb
 exact h2.at_ hne (h.at_ hne hb)
theorem Kp.al (h:Kp bm H D) (hA:A.le H) (hn:A bm=none):A.le D:=fun b e hb=>h.at_ (fun e'=>by rw [e',hn] at hb; cases hb) (hA b e hb)
theorem Kp.pr {bp bq:Nat} {sl:Sl} (h:Kp bm H D) (hn:bp≠bm) (hP:Pr H bp bq sl):Pr D bp bq sl:=by
 obtain ⟨m,hP⟩:=hP.at_
 exact ⟨m,h.at_ hn hP⟩
theorem TlIs.has {T:Tl} (h:TlIs H bm T):∃ e,H bm=some e:=by
 obtain ⟨l,⟨es,ck,h1⟩,_⟩:=h
 exact ⟨_,h1.at_⟩
end
theorem QqR {κ α:Type} [DecidableEq κ] {k k2:κ} {b:α}:∀ {T:List (κ×α)},lkL k T=none→lkL k2 (T++[(k,b)])=if k2=k then some b else lkL k2 T
 | [],_=>by
  by_cases h:k2=k
  ·simp [lkL,h]
  ·simp [lkL,h,Ne.symm h,eq_comm]
 | p::T,hn=>by
  simp only [lkL] at hn
  by_cases hp:p.1=k
  ·rw [if_pos hp] at hn; cases hn
  ·rw [if_neg hp] at hn
   simp only [List.cons_append,lkL,QqR hn]
   by_cases h2:p.1=k2
   ·rw [if_pos h2,if_pos h2,if_neg fun e=>hp (h2.trans e)]
   ·rw [if_neg h2,if_neg h2]
section
variable {C:Ctx} {A:Heap} {E:Value→Heap→Prop}
theorem Qpc {H:Heap} {T:Tl} {bp bm:Nat} {sl:Sl} {x:Qa} {own:Str} {kind:Int} {pub:Bool} {K:Bool→Heap→Prop} (hP:Pr H bp bm sl) (hbm:bp≠bm) (hT:TlIs H bm T)
 (k:∀ D,Kp bm H D→TlIs D bm (tellF T (x.Name,own,kind) pub).2→K (tellF T (x.Name,own,kind) pub).1 D):Qay C (some (bp,0)) x own kind pub K H:=by
 apply QiK
 unfold QeN
 refine box1N fun b1 H2 n1 _ l1 h1=>fS h1 rfl ?_
 refine boxZ rfl fun b5 H7 n5 l5 h5=>?_
 have hH7:=l1.trans l5
 obtain ⟨e0,hbm0⟩:=hT.has
 have n5m:b5≠bm:=fun e=>by rw [e,l1 _ _ hbm0] at n5; cases n5
 obtain ⟨_,hbp⟩:=(hP.le hH7).at_
 obtain ⟨lT,hm,hl⟩:=hT.le hH7
 refine ⟨_,rfl,some bm,by rw [QaC hbp]; rfl,bxT (c:=Qv.c) h5 ?_⟩
 show lkM kp3 encB false (some bm) ((x.Name,own,kind):Ky) _ H7
 refine hm.is.lk (fun b hb=>?_) (fun hno=>?_)
 ·rw [hl] at hb
  have hk:tellF T (x.Name,own,kind) pub=(false,T):=by unfold tellF; rw [hb]
  rw [hk] at k
  refine ⟨fun _ F=>F=H7,ift.of (fun h=>by simp at h) (fun _=>rfl),?_⟩
  rintro _ _ rfl
  exact k _ (Kp.of hH7) ⟨lT,hm,hl⟩
 ·rw [hl] at hno
  have hk:tellF T (x.Name,own,kind) pub=(true,T++[((x.Name,own,kind),pub)]):=by unfold tellF; rw [hno]
  rw [hk] at k
  refine ⟨fun _ F=>Kp bm H F∧TlIs F bm (T++[((x.Name,own,kind),pub)]),ift.of (fun _=>?_) (fun h=>by simp at h),?_⟩
  ·refine ⟨H7.del bm, Heap.del_le _ _, _, rfl, some bm, by rw [QaC (by rw [Heap.del_ne _ hbm]; exact hbp)]; rfl, bxT (c := Qv.c) (by rw [Heap.del_ne _ n5m]; exact h5) ?_⟩
   refine ⟨bm,lT,rfl,hm,fun g l2 hm2 hl2 _=>⟨Heap.del_put (Heap.del_le _ _),?_,l2,hm2,fun k2=>?_⟩⟩
   ·exact Heap.del_put ((Kp.of hH7:Kp bm H H7))
   ·rw [hl2,QqR hno,hl]
  ·rintro _ F ⟨h1,h2⟩
   exact k F h1 h2
end
end
section
open Go Go.Proofs
theorem Qc5 {α:Type} {l:List α} {i:Nat} (h:i < l.length):l.drop i=l[i]::l.drop (i+1):=List.drop_eq_getElem_cons h
theorem Qrp {l:List Str} {i:Nat} (h:i < l.length):decide (l.take (i+1)).Nodup=(decide (l.take i).Nodup && !(l.take i).contains l[i]):=by
 rw [List.take_add_one,List.getElem?_eq_getElem h,Option.toList_some,Bool.eq_iff_iff]
 simp only [decide_eq_true_eq,Bool.and_eq_true,Bool.not_eq_true',List.nodup_append,List.nodup_cons,List.mem_singleton]
 constructor
 ·rintro ⟨h1,_,h2⟩
  refine ⟨h1,?_⟩
  cases hc:(l.take i).contains l[i] with
  | false=>rfl
  | true=>exact absurd rfl (h2 _ (List.contains_iff_mem.1 hc) _ rfl)
 ·rintro ⟨h1,h2⟩
  refine ⟨h1,by simp,fun a ha b hb e=>?_⟩
  subst hb; subst e
  rw [List.contains_iff_mem.2 ha] at h2; cases h2
theorem Qu9 {c:CnV} (h:cnOk c=true):∀ f ∈ c.f,tyOk f.t=true:=by
 unfold cnOk at h
 rw [Bool.and_eq_true] at h
 exact (QoP h.2).2
section
variable {C:Ctx} {A:Heap} {E:Value→Heap→Prop}
theorem Qtm {H:Heap} {T:Tl} {m:MoP} {bp bm:Nat} {sl:Sl} {x:Qa} {K:Heap→Prop} (hA:A.le H) (hAm:A bm=none) (hP:Pr H bp bm sl) (hbm:bp≠bm) (hT:TlIs H bm T) (hm:MpIs A m x) (hg:MoG m)
 (k:∀ D T',namesF m T=.ok T'→Kp bm H D→TlIs D bm T'→K D) (ke:∀ D e,namesF m T=.error e→Kp bm H D→E (flt e.1 e.2.1 e.2.2) D):QcG C E (some (bp,0)) x K H:=by
 obtain ⟨m1,m2,m3,m4,m5,m6⟩:=hm
 apply Qh1
 unfold Qey
 refine box1N fun b1 H2 n1 _ l1 h1=>fL h1 (j:=2) rfl ?_
 have hA2:=hA.trans l1
 have hP2:=hP.le l1
 have hT2:=hT.le l1
 obtain ⟨e0,hbm0⟩:=hT.has
 have n1m:b1≠bm:=fun e=>by rw [e,hbm0] at n1; cases n1
 have hlt:=SlIs.len m3
 have hbt:=SlIs.bd m3
 have k:∀ D T',namesF m T=.ok T'→Kp bm H2 D→TlIs D bm T'→K D:=fun D T' h1 h2=>k D T' h1 ((Kp.of l1).trans h2)
 have ke:∀ D e,namesF m T=.error e→Kp bm H2 D→E (flt e.1 e.2.1 e.2.2) D:=fun D e h1 h2=>ke D e h1 ((Kp.of l1).trans h2)
 clear hA hP hT
 refine ⟨fun y D=>Kp bm H2 D∧∃ (i:Nat) (T1:Tl),y=(i:Int)∧i≤m.ty.length∧TlIs D bm T1∧namesTy m.n m.ty T=namesTy m.n (m.ty.drop i) T1,fun y _=>m.ty.length - y.toNat,⟨Kp.refl,0,T,rfl,Nat.zero_le _,hT2,by rw [List.drop_zero]⟩,?_⟩
 rintro _ D ⟨hD,i,T1,rfl,hi,hT1,hn⟩
 rw [hlt]
 refine ift.of (fun h=>?_) (fun h=>?_)
 ·have hil : i < m.ty.length := by have := of_decide_eq_true h; omega
  refine jn.inl ?_
  refine m3.ld (hD.al hA2 hAm) (fun _=>rfl) (by omega) rfl hil fun y hy=>?_
  have htd:=hg.ty _ (List.getElem_mem hil)
  rw [Qc5 hil] at hn
  generalize m.ty[i]=t at *
  obtain ⟨e1,e2,e3,e4,e5⟩:=hy
  unfold tdOk TdP.e at htd
  simp only [Bool.and_eq_true,decide_eq_true_eq,List.all_eq_true] at htd
  have hcs:∀ c ∈ t.cs,cnOk c=true:=htd.2
  refine boxZ rfl fun b20 D1 n20 l20 h20=>?_
  obtain ⟨e',hbm1⟩:=hT1.has
  have n20m:b20≠bm:=fun e=>by rw [e,hbm1] at n20; cases n20
  have hD1:=hD.trans (Kp.of l20)
  refine bxT (c:=Qa.c) (hD1.at_ n1m h1) (fS h20 (j:=3) rfl (fB h20 (j:=2) rfl ?_))
  rw [e3.1,e2]
  refine Qpc (hD1.pr hbm hP2) hbm (hT1.le l20) fun D2 hD2 hT2'=>?_
  rw [m1.1] at hT2' ⊢
  have hDD2:=hD1.trans hD2
  have h20':=hD2.at_ n20m h20
  refine fL h20' (j:=4) rfl ?_
  have lps:=SlIs.len e4.1
  have bps:=SlIs.bd e4.1
  refine ⟨fun y' D'=>D' = D2∧∃ j:Nat,y' = ((tellF T1 (m.n,t.n,0) t.b).1 && decide (t.ps.take j).Nodup,(j:Int))∧j≤t.ps.length,fun y' _=>t.ps.length - y'.2.toNat,⟨rfl,0,by simp,Nat.zero_le _⟩,?_⟩
  rintro _ D3 ⟨hDe,j,rfl,hj⟩
  subst hDe
  rw [lps]
  have hA3:=hDD2.al hA2 hAm
  refine ift.of (fun h=>?_) (fun h=>?_)
  ·have hjl : j < t.ps.length := by have := of_decide_eq_true h; omega
   refine SlIs.at_ e4.1 hA3 (z:=1) (fun _=>rfl) (by omega) rfl hjl fun p y1 hy1 hr=>⟨y1,hr 0 _ rfl,?_⟩
   rw [hy1.1]
   refine ⟨fun b F=>F=D3∧b=((tellF T1 (m.n,t.n,0) t.b).1 && decide (t.ps.take (j+1)).Nodup),?_,?_⟩
   ·rw [Qrp hjl]
    refine ift.of (fun h=>?_) (fun h=>?_)
    ·refine fL h20' (j:=4) rfl ?_
     refine SlIs.pre e4.1 (z:=1) (fun _=>rfl) e4.2 rfl (by omega) fun t50 ht50=>?_
     refine contS ht50 hA3 ⟨rfl,?_⟩
     have h:((tellF T1 (m.n,t.n,0) t.b).1 && decide (t.ps.take j).Nodup)=true:=h
     rw [← Bool.and_assoc,h,Bool.true_and]
    ·have h:((tellF T1 (m.n,t.n,0) t.b).1 && decide (t.ps.take j).Nodup)=false:=h
     exact ⟨rfl,by rw [← Bool.and_assoc,h]; rfl⟩
   ·rintro b _ ⟨rfl,rfl⟩
    rw [Q4 (by dsimp only; omega) (by dsimp only; omega)]
    exact ⟨⟨rfl,j+1,rfl,by omega⟩,by first | omega | (dsimp only; omega)⟩
  ·have hje : j = t.ps.length := by have := of_decide_eq_false h; omega
   subst hje
   rw [List.take_length]
   refine fL h20' (j:=5) rfl ?_
   have lcs:=SlIs.len e5
   have bcs:=SlIs.bd e5
   have hn':tyNm m.n t T1=csNm m.n t.b ((tellF T1 (m.n,t.n,0) t.b).1 && decide t.ps.Nodup,(tellF T1 (m.n,t.n,0) t.b).2) t.cs:=rfl
   generalize ((tellF T1 (m.n,t.n,0) t.b).1 && decide t.ps.Nodup)=ok0 at *
   generalize ((tellF T1 (m.n,t.n,0) t.b).2)=T2 at *
   refine ⟨fun y' D'=>Kp bm D1 D'∧∃ (j:Nat) (ok:Bool) (T3:Tl),y' = (ok,(j:Int))∧j≤t.cs.length∧TlIs D' bm T3∧tyNm m.n t T1=csNm m.n t.b (ok,T3) (t.cs.drop j),fun y' _=>t.cs.length - y'.2.toNat,⟨hD2,0,ok0,T2,rfl,Nat.zero_le _,hT2',by rw [List.drop_zero]; exact hn'⟩,?_⟩
   clear hD2 hDD2 h20' hT2' hn' hA3
   rintro _ D3 ⟨hD3,j,ok,T3,rfl,hj,hT3,hn'⟩
   have hDD3:=hD1.trans hD3
   have hA3:=hDD3.al hA2 hAm
   have h20':=hD3.at_ n20m h20
   rw [lcs]
   refine ift.of (fun h=>?_) (fun h=>?_)
   ·have hjl : j < t.cs.length := by have := of_decide_eq_true h; omega
    refine e5.ld hA3 (fun _=>rfl) (by omega) rfl hjl fun y1 hy1=>?_
    rw [Qc5 hjl] at hn'
    generalize t.cs[j]=c at *
    refine boxZ rfl fun b72 D4 n72 l72 h72=>?_
    have hD4:=hDD3.trans (Kp.of l72)
    refine bxT (c:=Qa.c) (hD4.at_ n1m h1) (fS h72 (j:=0) rfl (fB (l72 _ _ h20') (j:=2) rfl ?_))
    rw [hy1.1.1,e2]
    refine Qpc (hD4.pr hbm hP2) hbm (hT3.le l72) fun D5 hD5 hT5=>?_
    rw [m1.1] at hT5 ⊢
    rw [Q4 (by dsimp only; omega) (by dsimp only; omega)]
    exact ⟨⟨(hD3.trans (Kp.of l72)).trans hD5,j+1,_,_,rfl,by omega,hT5,hn'⟩,by first | omega | (dsimp only; omega)⟩
   ·have hje : j = t.cs.length := by have := of_decide_eq_false h; omega
    subst hje
    rw [List.drop_length] at hn'
    have hn':tyNm m.n t T1=(ok,T3):=hn'
    have hns:namesTy m.n (t::m.ty.drop (i+1)) T1=if ok=false then .error (m.n,t.p,6) else if t.cs.any (fun c=>openF t.ps c.f)=true then .error (m.n,t.p,63) else namesTy m.n (m.ty.drop (i+1)) T3:=by rw [namesTy,hn']
    rw [hns] at hn
    have err:∀ e,namesTy m.n m.ty T=.error e→namesF m T=.error e:=fun e h=>by unfold namesF; rw [h]
    refine ⟨fun _ F=>F=D3∧ok=true,?_,?_⟩
    ·refine ift.of (fun h => ?_) (fun h => ?_)
     ·have h : ok = false := by simpa using h
      rw [if_pos h] at hn
      refine bxT (c:=Qa.c) (hDD3.at_ n1m h1) (fPs (x:=y.Pos) h20' rfl rfl ?_)
      exact QdS m1.1 e1 fun F hF=>ke F _ (err _ hn) (hDD3.trans (Kp.of hF))
     ·exact ⟨rfl,by simpa using h⟩
    ·rintro _ _ ⟨rfl,hok⟩
     rw [if_neg (by rw [hok]; decide)] at hn
     refine fL h20' (j:=5) rfl ?_
     refine cfConsDef (R:=CnIs A) (ok:=fun c=>openF t.ps c.f) e5 hA3 ?_ fun D4 hD4=>?_
     ·intro c hc y1 D Φ hD hy hΦ
      refine ⟨64,[],[pv (some (b20,0))],rfl,QgX,QgH C y1 (b20,0) Φ D ?_⟩
      unfold QdL
      refine box1N fun b2 H3 _ _ l2 h2=>fL h2 rfl (fL (l2 _ _ (hD _ _ h20')) (j:=4) rfl ?_)
      exact Qsu (hA3.trans (hD.trans l2)) hy.2 (Qu9 (hcs c hc)) e4.1 fun D2 hD2=>hΦ D2 (l2.trans hD2)
     ·have hDD4:=hDD3.trans (Kp.of hD4)
      refine ift.of (fun h=>?_) (fun h=>?_)
      ·rw [if_pos h] at hn
       refine bxT (c:=Qa.c) (hDD4.at_ n1m h1) (fPs (x:=y.Pos) (hD4 _ _ h20') rfl rfl ?_)
       exact QdS m1.1 e1 fun F hF=>ke F _ (err _ hn) (hDD4.trans (Kp.of hF))
      ·rw [if_neg (by rw [h]; decide)] at hn
       rw [Q4 (by omega) (by omega)]
       exact ⟨⟨hDD4,i+1,T3,rfl,by omega,hT3.le hD4,hn⟩,by first | omega | (dsimp only; omega)⟩
 ·have hie : i = m.ty.length := by have := of_decide_eq_false h; omega
  subst hie
  rw [List.drop_length] at hn
  have hn:namesTy m.n m.ty T=.ok T1:=hn
  refine fL (hD.at_ n1m h1) (j:=3) rfl ?_
  have hlr:=SlIs.len m4
  have hbr:=SlIs.bd m4
  refine ⟨fun y D=>Kp bm H2 D∧∃ (i:Nat) (T2:Tl),y=(i:Int)∧i≤m.re.length∧TlIs D bm T2∧namesRe m.n m.re T1=namesRe m.n (m.re.drop i) T2,fun y _=>m.re.length - y.toNat,⟨hD,0,T1,rfl,Nat.zero_le _,hT1,by rw [List.drop_zero]⟩,?_⟩
  clear hD hT1
  rintro _ D ⟨hD,i,T2,rfl,hi,hT1,hn2⟩
  rw [hlr]
  refine ift.of (fun h=>?_) (fun h=>?_)
  ·have hil : i < m.re.length := by have := of_decide_eq_true h; omega
   refine jn.inl ?_
   refine m4.ld (hD.al hA2 hAm) (fun _=>rfl) (by omega) rfl hil fun y hy=>?_
   have htd:=hg.re _ (List.getElem_mem hil)
   rw [Qc5 hil] at hn2
   generalize m.re[i]=t at *
   obtain ⟨e1,e2,e3,e4,e5⟩:=hy
   unfold rdOk RdP.e at htd
   rw [Bool.and_eq_true] at htd
   have hfo:∀ f ∈ t.f,tyOk f.t=true:=(QoP htd.2).2
   refine boxZ rfl fun b20 D1 n20 l20 h20=>?_
   obtain ⟨e',hbm1⟩:=hT1.has
   have n20m:b20≠bm:=fun e=>by rw [e,hbm1] at n20; cases n20
   have hD1:=hD.trans (Kp.of l20)
   refine bxT (c:=Qa.c) (hD1.at_ n1m h1) (fS h20 (j:=4) rfl (fB h20 (j:=2) rfl ?_))
   rw [e4.1,e2]
   refine Qpc (hD1.pr hbm hP2) hbm (hT1.le l20) fun D2 hD2 hT2'=>?_
   rw [m1.1] at hT2' ⊢
   have hDD2:=hD1.trans hD2
   have h20':=hD2.at_ n20m h20
   have err:∀ e,namesRe m.n m.re T1=.error e→namesF m T=.error e:=fun e h=>by unfold namesF; rw [hn]; dsimp only; rw [h]
   rw [namesRe] at hn2
   refine ift.of (fun h=>?_) (fun h=>?_)
   ·rw [if_pos (by simpa using h)] at hn2
    refine bxT (c:=Qa.c) (hDD2.at_ n1m h1) (fPs (x:=y.Pos) h20' rfl rfl ?_)
    exact QdS m1.1 e1 fun F hF=>ke F _ (err _ hn2) (hDD2.trans (Kp.of hF))
   ·rw [if_neg (by simpa using h)] at hn2
    refine fL h20' (j:=5) rfl ?_
    refine Qsu (ps:=[]) (hDD2.al hA2 hAm) e5 hfo SlIs.nil fun D3 hD3=>?_
    have hDD3:=hDD2.trans (Kp.of hD3)
    refine ift.of (fun h=>?_) (fun h=>?_)
    ·rw [if_pos h] at hn2
     refine bxT (c:=Qa.c) (hDD3.at_ n1m h1) (fPs (x:=y.Pos) (hD3 _ _ h20') rfl rfl ?_)
     exact QdS m1.1 e1 fun F hF=>ke F _ (err _ hn2) (hDD3.trans (Kp.of hF))
    ·rw [if_neg (by rw [h]; decide)] at hn2
     rw [Q4 (by omega) (by omega)]
     exact ⟨⟨hDD3,i+1,_,rfl,by omega,hT2'.le hD3,hn2⟩,by first | omega | (dsimp only; omega)⟩
  ·have hie : i = m.re.length := by have := of_decide_eq_false h; omega
   subst hie
   rw [List.drop_length] at hn2
   have hn2:namesRe m.n m.re T1=.ok T2:=hn2
   refine fL (hD.at_ n1m h1) (j:=5) rfl ?_
   have hlr:=SlIs.len m6
   have hbr:=SlIs.bd m6
   refine ⟨fun y D=>Kp bm H2 D∧∃ (i:Nat) (T3:Tl),y=(i:Int)∧i≤m.ne.length∧TlIs D bm T3∧namesNe m.n m.ne T2=namesNe m.n (m.ne.drop i) T3,fun y _=>m.ne.length - y.toNat,⟨hD,0,T2,rfl,Nat.zero_le _,hT1,by rw [List.drop_zero]⟩,?_⟩
   clear hD hT1
   rintro _ D ⟨hD,i,T3,rfl,hi,hT1,hn3⟩
   have hF:namesF m T=namesNe m.n m.ne T2:=by unfold namesF; rw [hn]; dsimp only; rw [hn2]
   rw [hlr]
   refine ift.of (fun h=>?_) (fun h=>?_)
   ·have hil : i < m.ne.length := by have := of_decide_eq_true h; omega
    refine jn.inl ?_
    refine m6.ld (hD.al hA2 hAm) (fun _=>rfl) (by omega) rfl hil fun y hy=>?_
    rw [Qc5 hil] at hn3
    generalize m.ne[i]=t at *
    obtain ⟨e1,e4,e5⟩:=hy
    refine boxZ rfl fun b20 D1 n20 l20 h20=>?_
    obtain ⟨e',hbm1⟩:=hT1.has
    have n20m:b20≠bm:=fun e=>by rw [e,hbm1] at n20; cases n20
    have hD1:=hD.trans (Kp.of l20)
    refine bxT (c:=Qa.c) (hD1.at_ n1m h1) (fS h20 (j:=2) rfl ?_)
    rw [e4.1]
    refine Qpc (hD1.pr hbm hP2) hbm (hT1.le l20) fun D2 hD2 hT2'=>?_
    rw [m1.1] at hT2' ⊢
    have hDD2:=hD1.trans hD2
    have h20':=hD2.at_ n20m h20
    rw [namesNe] at hn3
    refine ift.of (fun h=>?_) (fun h=>?_)
    ·rw [if_pos (by simpa using h)] at hn3
     refine bxT (c:=Qa.c) (hDD2.at_ n1m h1) (fPs (x:=y.Pos) h20' rfl rfl ?_)
     exact QdS m1.1 e1 fun F hF'=>ke F _ (hF.trans hn3) (hDD2.trans (Kp.of hF'))
    ·rw [if_neg (by simpa using h)] at hn3
     rw [Q4 (by omega) (by omega)]
     exact ⟨⟨hDD2,i+1,_,rfl,by omega,hT2',hn3⟩,by first | omega | (dsimp only; omega)⟩
   ·have hie : i = m.ne.length := by have := of_decide_eq_false h; omega
    subst hie
    rw [List.drop_length] at hn3
    exact k D T3 (hF.trans hn3) hD hT1
end
end
section
open Go Go.Proofs
theorem QmX {α:Type} {p q:α→Bool}:∀ {l:List α} {a:α},(∀ x ∈ l,p x=true→q x=true)→a ∈ l→p a=false→q a=true→l.countP p < l.countP q
 | [],a,_,h,_,_=>by cases h
 | x::l,a,hpq,ha,hp,hq=>by
  rw [List.countP_cons,List.countP_cons]
  have hle:l.countP p≤l.countP q:=List.countP_mono_left fun y hy h=>hpq y (List.mem_cons_of_mem _ hy) h
  rcases List.mem_cons.1 ha with rfl | ha
  ·rw [hp,hq]
   simp only [Bool.false_eq_true,if_false,if_true]; omega
  ·have := QmX (l := l) (fun y hy h => hpq y (List.mem_cons_of_mem _ hy) h) ha hp hq
   have h1:=hpq x (List.mem_cons_self ..)
   cases h2:p x with
   | false=>simp only [Bool.false_eq_true,if_false]; split <;> omega
   | true=>rw [h1 h2]; simp only [if_true]; omega
/-- one can come from a module to another one -/
inductive Rc (l:List MoP) (a:Nat):Nat→Prop
 | refl:Rc l a a
 | step {i j:Nat}:Rc l a i→j ∈ adj l i→Rc l a j
theorem Rc.head {l:List MoP} {a b c:Nat} (h:b ∈ adj l a) (h2:Rc l b c):Rc l a c:=by
 induction h2 with
 | refl=>exact .step .refl h
 | step _ hj ih=>exact .step ih hj
theorem QoG {l:List MoP} {a:Nat}:∀ {n j:Nat},comeF l a n j=true→Rc l a j
 | 0,j,h=>by
  simp only [comeF,decide_eq_true_eq] at h
  subst h; exact .refl
 | n+1,j,h=>by
  simp only [comeF,Bool.or_eq_true,List.any_eq_true,Bool.and_eq_true] at h
  rcases h with h | ⟨i,_,h1,h2⟩
  ·exact QoG h
  ·exact .step (QoG h1) (List.contains_iff_mem.1 h2)
theorem Qqy {l:List MoP} {a n j:Nat} (h:comeF l a n j=true):comeF l a (n+1) j=true:=by simp only [comeF,h,Bool.true_or]
theorem Qp6 {l:List MoP} {a:Nat}:∀ {n:Nat},comeF l a n a=true
 | 0=>by simp [comeF]
 | n+1=>Qqy Qp6
/-- all imports are found -/
def Fnd (l:List MoP):Prop:=∀ i,∀ j ∈ adj l i,j < l.length
theorem QtJ {l:List MoP} {i j:Nat} (h:j ∈ adj l i):i < l.length:=by
 unfold adj at h
 cases hi:l[i]? with
 | none=>rw [hi] at h; cases h
 | some m=>exact (List.getElem?_eq_some_iff.1 hi).1
theorem Qn6 {l:List MoP} {a:Nat} (hf:Fnd l) (ha:a < l.length):∀ n:Nat,(∀ j,comeF l a (n+1) j=true→comeF l a n j=true)∨n+1≤(List.range l.length).countP (comeF l a n)
 | 0=>.inr (List.countP_pos_iff.2 ⟨a,List.mem_range.2 ha,Qp6⟩)
 | n+1=>by
  by_cases hcl:∀ j,comeF l a (n+1) j=true→comeF l a n j=true
  ·refine .inl fun j h => ?_
   simp only [comeF,Bool.or_eq_true,List.any_eq_true,Bool.and_eq_true] at h
   rcases h with h | ⟨i,hi,h1,h2⟩
   ·simp only [comeF,Bool.or_eq_true,List.any_eq_true,Bool.and_eq_true]; exact h
   ·have h1 : comeF l a n i = true := hcl i (by simp only [comeF, Bool.or_eq_true, List.any_eq_true, Bool.and_eq_true]; exact h1)
    simp only [comeF,Bool.or_eq_true,List.any_eq_true,Bool.and_eq_true]
    exact .inr ⟨i,hi,h1,h2⟩
  ·refine .inr ?_
   have ⟨j,h1,h2⟩:∃ j,comeF l a (n+1) j=true∧comeF l a n j=false:=by
    refine Classical.byContradiction fun hh=>hcl fun j hj=>?_
    cases hc:comeF l a n j with
    | true=>rfl
    | false=>exact absurd ⟨j,hj,hc⟩ hh
   have hjl:j < l.length:=by
    have h1:=h1
    simp only [comeF,Bool.or_eq_true,List.any_eq_true,Bool.and_eq_true,h2,Bool.false_eq_true,false_or] at h1
    obtain ⟨i,_,_,h4⟩:=h1
    exact hf i j (List.contains_iff_mem.1 h4)
   have:=QmX (l:=List.range l.length) (p:=comeF l a n) (q:=comeF l a (n+1)) (fun x _ h=>Qqy h) (List.mem_range.2 hjl) h2 h1
   rcases Qn6 hf ha n with h | h
   ·exact absurd h hcl
   ·omega
theorem Qj0 {l:List MoP} {a b:Nat} (hf:Fnd l) (ha:a < l.length):reachF l a b=true↔Rc l a b:=by
 constructor
 ·exact QoG
 ·intro h
  have hcl:∀ j,comeF l a (l.length+1) j=true→comeF l a l.length j=true:=by
   rcases Qn6 hf ha l.length with h | h
   ·exact h
   ·have:=List.countP_le_length (p:=comeF l a l.length) (l:=List.range l.length)
    rw [List.length_range] at this; omega
  unfold reachF
  induction h with
  | refl=>exact Qp6
  | step _ hj ih=>
   refine hcl _ ?_
   simp only [comeF,Bool.or_eq_true,List.any_eq_true,Bool.and_eq_true]
   exact .inr ⟨_,List.mem_range.2 (QtJ hj),ih,List.contains_iff_mem.2 hj⟩
/-- nothing leads out of what was seen -/
theorem QsF {l:List MoP} {a b:Nat} {S:Nat→Bool} (ha:S a=true) (hS:∀ j,S j=true→j≠b∧∀ k ∈ adj l j,S k=true):¬ Rc l a b:=fun h=>by
 have key:∀ j,Rc l a j→S j=true:=fun j h=>by
  induction h with
  | refl=>exact ha
  | step _ hj ih=>exact (hS _ ih).2 _ hj
 exact (hS _ (key b h)).1 rfl
theorem QlP:∀ {l:List MoP} {s:Str} {i:Nat},i≤l.length→((findN l s < i)↔((l.take i).map MoP.n).contains s=true)
 | [],s,i,h=>by
  have:i=0:=by simpa using h
  subst this; simp
 | m::l,s,0,h=>by simp
 | m::l,s,i+1,h=>by
  have ih:=QlP (l:=l) (s:=s) (i:=i) (by simpa using h)
  rw [List.contains_iff_mem] at ih ⊢
  simp only [findN,List.take_succ_cons,List.map_cons,List.mem_cons]
  by_cases hm:m.n=s
  ·rw [if_pos hm]; exact ⟨fun _=>.inl hm.symm,fun _=>by omega⟩
  ·rw [if_neg hm]
   constructor
   ·intro h; exact .inr (ih.1 (by omega))
   ·rintro (h | h)
    ·exact absurd h.symm hm
    ·have:=ih.2 h; omega
theorem Qob {l:List MoP} {i:Nat} (h:i < l.length):findN l l[i].n≤i:=by
 have:=(QlP (l:=l) (s:=l[i].n) (i:=i+1) (by omega)).2 (by
  rw [List.contains_iff_mem,List.mem_map]
  exact ⟨l[i],List.mem_take_iff_getElem.2 ⟨i,by omega,rfl⟩,rfl⟩)
 omega
theorem Qfj:∀ {l:List MoP} {ns:List Str},singleF ns l=none→(∀ m ∈ l,moC m.e=0)∧(l.map MoP.n).Nodup∧∀ m ∈ l,m.n ∉ ns
 | [],ns,_=>⟨by simp,by simp,by simp⟩
 | m::l,ns,h=>by
  simp only [singleF] at h
  split at h
  ·cases h
  ·rename_i h1
   split at h
   ·cases h
   ·rename_i h2
    obtain ⟨a,b,c⟩:=Qfj h
    rw [List.contains_iff_mem] at h2
    refine ⟨fun x hx=>?_,?_,fun x hx=>?_⟩
    ·rcases List.mem_cons.1 hx with rfl | hx
     ·omega
     ·exact a x hx
    ·rw [List.map_cons,List.nodup_cons]
     refine ⟨fun hm=>?_,b⟩
     obtain ⟨x,hx,e⟩:=List.mem_map.1 hm
     exact c x hx (by simp [e])
    ·rcases List.mem_cons.1 hx with rfl | hx
     ·exact h2
     ·exact fun hm=>c x hx (List.mem_append_left _ hm)
theorem Qoc {l:List MoP} {m:Str}:∀ {r:List ImP} {ps:List Str},impA1 l m ps r=none→∀ x ∈ r,findN l x.n < l.length
 | [],ps,_,x,hx=>by cases hx
 | y::r,ps,h,x,hx=>by
  simp only [impA1] at h
  split at h
  ·cases h
  ·rename_i h1
   split at h
   ·cases h
   ·rcases List.mem_cons.1 hx with rfl | hx
    ·omega
    ·exact Qoc h x hx
theorem Qjp {l:List MoP}:∀ {r:List MoP},impA l r=none→∀ m ∈ r,∀ x ∈ m.im,findN l x.n < l.length
 | [],_,m,hm=>by cases hm
 | y::r,h,m,hm=>by
  simp only [impA] at h
  split at h
  ·cases h
  ·rename_i h1
   rcases List.mem_cons.1 hm with rfl | hm
   ·exact Qoc h1
   ·exact Qjp h m hm
theorem QqM {l:List MoP} (h:impA l l=none):Fnd l:=fun i j hj=>by
 have hi:=QtJ hj
 unfold adj at hj
 rw [List.getElem?_eq_getElem hi] at hj
 obtain ⟨x,hx,rfl⟩:=List.mem_map.1 hj
 exact Qjp h _ (List.getElem_mem hi) x hx
end
section
open Go Go.Proofs
theorem QhY {α:Type} {f:MoP→List α}:∀ {l:List MoP} {i:Nat} (h:i < l.length),total f (l.take (i+1))=total f (l.take i)+(f l[i]).length
 | [],i,h=>by simp at h
 | m::l,0,h=>by simp [total]
 | m::l,i+1,h=>by
  have h':i < l.length:=by simpa using h
  have:=QhY (f:=f) h'
  simp only [List.take_succ_cons,total,List.getElem_cons_succ,this]; omega
theorem Qq4 {α:Type} {f:MoP→List α} {B:Nat}:∀ {l:List MoP},(∀ m ∈ l,(f m).length≤B)→total f l≤l.length*B
 | [],_=>by simp [total]
 | m::l,h=>by
  have h1:=h m (List.mem_cons_self ..)
  have h2:=Qq4 (l:=l) fun x hx=>h x (List.mem_cons_of_mem _ hx)
  simp only [total,List.length_cons,Nat.add_mul]; omega
theorem QsO {H:Heap} {b j:Nat} {cs cs2:List Value} {v:Value} {K:Heap→Prop} (h:H b=some (true,.row cs)) (hj:j < cs.length) (e:cs.set j v=cs2) (k:K (H.put b (.row cs2))):st ((b,0).1,(b,0).2+j) v K H:=by
 subst e
 refine ⟨cs,h,by simpa using hj,?_⟩
 simpa using k
section
variable {C:Ctx} {A H:Heap} {E:Value→Heap→Prop}
theorem QsN (hT:MaxC C) {l:List MoP} {bp bm:Nat} {sl:Sl} {K:Heap→Prop} (hP:Pr H bp bm sl) (hs:MpL A sl l) (hA:A.le H) (hd:∀ m ∈ l,moD m.e≤4611686018427387904)
 (k:∀ D,H.le D→singleF [] l=none→K D) (ke:∀ D e,H.le D→singleF [] l=some e→E (flt e.1 e.2.1 e.2.2) D):Qb8 C E (some (bp,0)) K H:=by
 apply Qhd
 unfold Qd3
 obtain ⟨_,hbp⟩:=hP.at_
 refine ⟨_,rfl,fL hbp (j:=0) rfl ?_⟩
 have hlen:=SlIs.len hs
 have hbd:=SlIs.bd hs
 refine ⟨fun y D=>H.le D∧∃ i:Nat,y=(i:Int)∧i≤l.length∧singleF [] l=singleF ((l.take i).map MoP.n) (l.drop i),fun y _=>l.length - y.toNat,⟨Heap.le.refl _,0,rfl,Nat.zero_le _,by simp⟩,?_⟩
 rintro _ D ⟨hD,i,rfl,hi,hn⟩
 rw [hlen]
 refine ift.of (fun h=>?_) (fun h=>?_)
 ·have hil : i < l.length := by have := of_decide_eq_true h; omega
  refine jn.inl ?_
  refine hs.ld (hA.trans hD) (fun _=>rfl) (by omega) rfl hil fun y hy=>?_
  have hdi:=hd _ (List.getElem_mem hil)
  have hft:=QlP (l:=l) (s:=l[i].n) (i:=i) (by omega)
  have hfl:findN l l[i].n < l.length:=by have:=Qob hil; omega
  have htk:(l.take i).map MoP.n++[l[i].n]=(l.take (i+1)).map MoP.n:=by rw [List.take_add_one,List.getElem?_eq_getElem hil,Option.toList_some,List.map_append]; rfl
  rw [Qc5 hil,singleF,htk] at hn
  generalize l[i]=m at *
  refine boxZ rfl fun b20 D1 n20 l20 h20=>?_
  have hD1:=hD.trans l20
  refine ⟨fun _ F=>F=D1∧moC m.e=0,?_,?_⟩
  ·refine bxT (c:=Qa.c) h20 ?_
   refine Qqq hT (MpIs.e hy) (hA.trans hD1) hdi ?_
   refine ift.of (fun h=>?_) (fun h=>?_)
   ·rw [if_pos (by simpa using h)] at hn
    exact bxT (c:=Qa.c) h20 (QdS hy.1.1 rfl fun F hF=>ke F _ (hD1.trans hF) hn)
   ·exact ⟨rfl,by simpa using h⟩
  ·rintro _ _ ⟨rfl,hok⟩
   rw [if_neg (by simpa using hok)] at hn
   refine fS h20 (j:=0) rfl ?_
   rw [hy.1.1]
   refine QoR (hP.le hD1) hs (hA.trans hD1) fun D2 hD2=>?_
   unfold fIx
   rw [if_pos hfl]
   refine ift.of (fun h=>?_) (fun h=>?_)
   ·have : findN l m.n < i := by have := of_decide_eq_true h; omega
    rw [if_pos (hft.1 this)] at hn
    exact bxT (c:=Qa.c) (hD2 _ _ h20) (QdS hy.1.1 rfl fun F hF=>ke F _ (hD1.trans (hD2.trans hF)) hn)
   ·have : ¬ findN l m.n < i := by have := of_decide_eq_false h; omega
    rw [if_neg fun e=>this (hft.2 e)] at hn
    rw [Q4 (by omega) (by omega)]
    exact ⟨⟨hD1.trans hD2,i+1,rfl,by omega,hn⟩,by first | omega | (dsimp only; omega)⟩
 ·have hie : i = l.length := by have := of_decide_eq_false h; omega
  subst hie
  rw [List.drop_length] at hn
  exact k D hD hn
theorem QsR {l:List MoP} {bp bm:Nat} {sl:Sl} {K:Heap→Prop} (hP:Pr H bp bm sl) (hs:MpL A sl l) (hA:A.le H) (hg:∀ m ∈ l,MoG m) (hl8:l.length≤8)
 (k:∀ D,H.le D→totB l=false→K D) (ke:∀ D,H.le D→totB l=true→E (flt [] (0,0) 3) D):Qb9 C E (some (bp,0)) K H:=by
 apply Qhe
 unfold Qd4
 refine box1N fun b1 H2 n1 _ l1 h1=>?_
 obtain ⟨_,hbp⟩:=(hP.le l1).at_
 refine ⟨_,rfl,fL hbp (j:=0) rfl ?_⟩
 have hlen:=SlIs.len hs
 have bt:∀ {α:Type} (f:MoP→List α) (i:Nat),(∀ m ∈ l,(f m).length≤256)→total f (l.take i)≤2048:=fun f i hf=>by
  have:=Qq4 (f:=f) (B:=256) (l:=l.take i) fun m hm=>hf m (List.mem_of_mem_take hm)
  have h2:(l.take i).length≤8:=by rw [List.length_take]; omega
  have:(l.take i).length*256≤8*256:=Nat.mul_le_mul_right _ h2
  omega
 have g1:∀ m ∈ l,(MoP.ty m).length≤256:=fun m hm=>by have:=(hg m hm).lt; omega
 have g2:∀ m ∈ l,(MoP.re m).length≤256:=fun m hm=>by have:=(hg m hm).lr; omega
 have g3:∀ m ∈ l,(MoP.ru m).length≤256:=fun m hm=>(hg m hm).lu
 have g4:∀ m ∈ l,(MoP.ne m).length≤256:=fun m hm=>(hg m hm).ln
 refine ⟨fun y D=>H.le D∧∃ i:Nat,y=(i:Int)∧i≤l.length∧D b1=some (true,.row [.int .i64 (total MoP.ty (l.take i):Int),.int .i64 (total MoP.ru (l.take i):Int),.int .i64 (total MoP.re (l.take i):Int),.int .i64 (total MoP.ne (l.take i):Int)]),fun y _=>l.length - y.toNat,⟨l1,0,rfl,Nat.zero_le _,h1⟩,?_⟩
 clear h1 hbp
 rintro _ D ⟨hD,i,rfl,hi,h1⟩
 rw [hlen]
 have i1:=bt MoP.ty i g1
 have i2:=bt MoP.re i g2
 have i3:=bt MoP.ru i g3
 have i4:=bt MoP.ne i g4
 refine ift.of (fun h=>?_) (fun h=>?_)
 ·have hil : i < l.length := by have := of_decide_eq_true h; omega
  refine hs.ld (hA.trans hD) (fun _=>rfl) (by omega) rfl hil fun y hy=>?_
  have j1:=g1 _ (List.getElem_mem hil)
  have j2:=g2 _ (List.getElem_mem hil)
  have j3:=g3 _ (List.getElem_mem hil)
  have j4:=g4 _ (List.getElem_mem hil)
  have t1:=QhY (f:=MoP.ty) hil
  have t2:=QhY (f:=MoP.re) hil
  have t3:=QhY (f:=MoP.ru) hil
  have t4:=QhY (f:=MoP.ne) hil
  generalize l[i]=m at *
  obtain ⟨m1,m2,m3,m4,m5,m6⟩:=hy
  intro b18 n18
  refine nwT rfl ?_
  have l18:=Heap.le_put n18 (g:=.row (Qa.c y)) (m:=true)
  have h18:(D.put b18 (.row (Qa.c y))) b18=some (true,.row (Qa.c y)):=Heap.put_same ..
  have hD1:=hD.trans l18
  have h1':=l18 _ _ h1
  have hne:b18≠b1:=fun e=>by rw [e,h1] at n18; cases n18
  generalize D.put b18 (.row (Qa.c y))=D1 at *
  refine ⟨by omega,by omega,fI h1' (j:=(0:Int).toNat*1) rfl (fL h18 (j:=2) rfl ⟨by omega,by omega,QsO h1' (show (0:Int).toNat*1 < 4 by decide) rfl ?_⟩)⟩
  rw [SlIs.len m3,Q4 (x:=(total MoP.ty (l.take i):Int)+(m.ty.length:Int)) (by omega) (by omega)]
  refine ⟨by omega,by omega,fI (Heap.put_same ..) (j:=(2:Int).toNat*1) rfl (fL (by rw [Heap.put_ne _ _ _ hne]; exact h18) (j:=3) rfl ⟨by omega,by omega,QsO (Heap.put_same ..) (show (2:Int).toNat*1 < 4 by decide) rfl ?_⟩)⟩
  rw [Heap.put_put,SlIs.len m4,Q4 (x:=(total MoP.re (l.take i):Int)+(m.re.length:Int)) (by omega) (by omega)]
  refine ⟨by omega,by omega,fI (Heap.put_same ..) (j:=(1:Int).toNat*1) rfl (fL (by rw [Heap.put_ne _ _ _ hne]; exact h18) (j:=4) rfl ⟨by omega,by omega,QsO (Heap.put_same ..) (show (1:Int).toNat*1 < 4 by decide) rfl ?_⟩)⟩
  rw [Heap.put_put,SlIs.len m5,Q4 (x:=(total MoP.ru (l.take i):Int)+(m.ru.length:Int)) (by omega) (by omega)]
  refine ⟨by omega,by omega,fI (Heap.put_same ..) (j:=(3:Int).toNat*1) rfl (fL (by rw [Heap.put_ne _ _ _ hne]; exact h18) (j:=5) rfl ⟨by omega,by omega,QsO (Heap.put_same ..) (show (3:Int).toNat*1 < 4 by decide) rfl ?_⟩)⟩
  rw [Heap.put_put,SlIs.len m6,Q4 (x:=(total MoP.ne (l.take i):Int)+(m.ne.length:Int)) (by omega) (by omega),Q4 (by omega) (by omega)]
  refine ⟨⟨Qbg hD1 n1,i+1,rfl,by omega,?_⟩,by first | omega | (dsimp only; omega)⟩
  rw [t1,t2,t3,t4]
  exact Heap.put_same ..
 ·have hie : i = l.length := by have := of_decide_eq_false h; omega
  subst hie
  rw [List.take_length] at h1 i1 i2 i3 i4
  refine ⟨by omega,by omega,fI h1 (j:=(0:Int).toNat*1) rfl ?_⟩
  refine ⟨fun b F=>D=F∧b=(decide (64 < total MoP.ty l) || decide (64 < total MoP.re l)),?_,?_⟩
  ·refine ift.of (fun h => ⟨rfl, ?_⟩) (fun h => ⟨by omega, by omega, fI h1 (j := (2 : Int).toNat * 1) rfl ⟨rfl, ?_⟩⟩)
   ·rw [decide_eq_true (show 64 < total MoP.ty l by have:=of_decide_eq_true h; omega)]; rfl
   ·rw [decide_eq_false (show ¬ 64 < total MoP.ty l by have := of_decide_eq_false h; omega), Bool.false_or]
    exact decide_eq_decide.2 (by omega)
  ·rintro b _ ⟨rfl,rfl⟩
   refine ⟨fun b F=>D=F∧b=(decide (64 < total MoP.ty l) || decide (64 < total MoP.re l) || decide (256 < total MoP.ru l)),?_,?_⟩
   ·refine ift.of (fun h => ⟨rfl, by rw [h]; rfl⟩) (fun h => ⟨by omega, by omega, fI h1 (j := (1 : Int).toNat * 1) rfl ⟨rfl, ?_⟩⟩)
    rw [h,Bool.false_or]
    exact decide_eq_decide.2 (by omega)
   ·rintro b _ ⟨rfl,rfl⟩
    refine ⟨fun b F=>D=F∧b=totB l,?_,?_⟩
    ·refine ift.of (fun h => ⟨rfl, by unfold totB; rw [h]; rfl⟩) (fun h => ⟨by omega, by omega, fI h1 (j := (3 : Int).toNat * 1) rfl ⟨rfl, ?_⟩⟩)
     unfold totB
     rw [h,Bool.false_or]
     exact decide_eq_decide.2 (by omega)
    ·rintro b _ ⟨rfl,rfl⟩
     exact ift.of (fun h=>ke _ hD h) (fun h=>k _ hD h)
end
end
section
open Go Go.Proofs
/-- what was seen, in a map -/
def SnIs (H:Heap) (bs:Nat) (S:Nat→Bool):Prop:=∃ l,MapS kI encB H bs l∧∀ j:Nat,lkL (j:Int) l=if S j=true then some true else none
theorem SnIs.le {A B:Heap} {bs:Nat} {S:Nat→Bool} (h:SnIs A bs S) (hle:A.le B):SnIs B bs S:=by
 obtain ⟨l,h1,h2⟩:=h
 exact ⟨l,h1.le hle,h2⟩
theorem SnIs.has {A:Heap} {bs:Nat} {S:Nat→Bool} (h:SnIs A bs S):∃ e,A bs=some e:=by
 obtain ⟨l,⟨es,ck,h1⟩,_⟩:=h
 exact ⟨_,h1.at_⟩
def uns (n:Nat) (S:Nat→Bool):Nat:=(List.range n).countP fun j=>!S j
theorem QvE {n a:Nat} {S S2:Nat→Bool} (h:∀ j,S j=true→S2 j=true) (ha:a < n) (h1:S a=false) (h2:S2 a=true):uns n S2 < uns n S:=
 QmX (a:=a) (fun j _ hj=>by
  cases hs:S j with
  | false=>rfl
  | true=>simp [h j hs] at hj) (List.mem_range.2 ha) (by simp [h2]) (by simp [h1])
section
variable {C:Ctx} {A:Heap} {E:Value→Heap→Prop}
theorem Qrt {l:List MoP} {bp bm bs:Nat} {sl:Sl} (hs:MpL A sl l) (hf:Fnd l) (hAs:A bs=none) (hbs:bp≠bs) (hl8:l.length≤8) :
 ∀ (u:Nat) {S:Nat→Bool} {a b:Nat} {x y:Int} {H:Heap} {K:Bool→Heap→Prop},uns l.length S < u→a < l.length→S a=false→x=(a:Int)→y=(b:Int)→Pr H bp bm sl→A.le H→SnIs H bs S→
  (∀ D,Kp bs H D→Rc l a b→K true D)→
  (∀ D S',Kp bs H D→SnIs D bs S'→(∀ j,S j=true→S' j=true)→S' a=true→(∀ j,S' j=true→S j=false→j≠b∧∀ k ∈ adj l j,S' k=true)→K false D)→
  Qax C (some (bp,0)) x y (some bs) K H:=by
 intro u
 induction u with
 | zero=>intro S a b x y H K hu; omega
 | succ u ih=>
 intro S a b x y H K hu ha hSa hx hy hP hA hS kt kf
 subst hx; subst hy
 apply QgI
 unfold QdM
 obtain ⟨e0,hbs0⟩:=hS.has
 refine box1N fun b1 H2 n1 _ l1 h1=>box1N fun b3 H4 n3 _ l3 h3=>box1N fun b5 H6 n5 _ l5 h5=>?_
 have n1s:b1≠bs:=fun e=>by rw [e,hbs0] at n1; cases n1
 have n3s:b3≠bs:=fun e=>by rw [e,l1 _ _ hbs0] at n3; cases n3
 have n5s:b5≠bs:=fun e=>by rw [e,l3 _ _ (l1 _ _ hbs0)] at n5; cases n5
 have h1:=l5 _ _ (l3 _ _ h1)
 have h3:=l5 _ _ h3
 have hH6:=l1.trans (l3.trans l5)
 refine ⟨(b:Int),by rw [QaC h3]; rfl,ift.of (fun h=>?_) (fun h=>?_)⟩
 ·have e : a = b := by have := eq_of_beq h; omega
  subst e
  exact kt _ (Kp.of hH6) .refl
 ·have hab : a ≠ b := fun e => by rw [e] at h; simp at h
  obtain ⟨lS,hm,hl⟩:=hS.le hH6
  refine ⟨some bs,by rw [QaC h5]; rfl,bs,lS,rfl,hm,fun g l2 hm2 hl2 _=>?_⟩
  have hS12:SnIs (H6.put bs g) bs (fun j=>S j || decide (j=a)):=⟨l2,hm2,fun j=>by
   rw [hl2]
   by_cases hj:j=a
   ·subst hj; simp
   ·rw [if_neg (by omega),hl]; simp [hj]⟩
  have hK12:Kp bs H6 (H6.put bs g):=Heap.del_put (Heap.del_le _ _)
  generalize H6.put bs g=H12 at *
  have h1:=hK12.at_ n1s h1
  have h3:=hK12.at_ n3s h3
  have h5:=hK12.at_ n5s h5
  have hK:=(Kp.of hH6:Kp bs H H6).trans hK12
  have hP12:=hK.pr hbs hP
  have hA12:=hK.al hA hAs
  obtain ⟨_,hbp⟩:=hP12.at_
  refine ⟨some (bp,0),by rw [QaC h1]; rfl,_,rfl,fL hbp (j:=0) rfl ?_⟩
  refine SlIs.at_ hs hA12 (z:=6) (fun _=>rfl) (by omega) rfl ha fun p y hy hr=>⟨y.Imports,hr 1 _ rfl,?_⟩
  have hi:=hy.2.1.1
  have hadj:adj l a=l[a].im.map fun x=>findN l x.n:=by unfold adj; rw [List.getElem?_eq_getElem ha]
  apply QW
  unfold QF
  apply Q9
  unfold QJ
  have kt:∀ D,Kp bs H12 D→Rc l a b→K true D:=fun D h=>kt D (hK.trans h)
  have kf:∀ D S',Kp bs H12 D→SnIs D bs S'→(∀ j,S j=true→S' j=true)→S' a=true→(∀ j,S' j=true→S j=false→j≠b∧∀ k ∈ adj l j,S' k=true)→K false D:=fun D S' h=>kf D S' (hK.trans h)
  clear hr hy hS hP hA hK12 hm hl hm2 hl2
  generalize l[a]=m at *
  refine ixI (A:=A) (K:=fun r D=>K (decide (r ≥ 0)) D) (fun _=>rfl) (by omega) hi (fun i D=>Kp bs H12 D∧∃ S',SnIs D bs S'∧(∀ j,S j=true→S' j=true)∧S' a=true∧(∀ j,S' j=true→S j=false→j≠a→j≠b∧∀ k ∈ adj l j,S' k=true)∧∀ j,j < i→∀ (hj:j < m.im.length),S' (findN l m.im[j].n)=true) (fun i D h=>h.1.al hA12 hAs) ⟨Kp.refl,_,hS12,fun j hj=>by simp [hj],by simp,fun j hj hn hne=>by simp [hn,hne] at hj,fun j hj=>by omega⟩ ?_ ?_
  ·rintro i hil D y ⟨hD,S',hS',g1,g2,g3,g4⟩ hy
   refine ⟨149,[],[pv (some (b1,0)),pv (some (b5,0)),pv (some (b3,0))],rfl,Qf2,QfQ C y (b1,0) (b5,0) (b3,0) _ D ?_⟩
   unfold Qdc
   refine box1N fun b2 D2 n2 _ l2 h2=>?_
   have hD2:=hD.trans (Kp.of l2)
   have k1:=hD2.at_ n1s h1
   have hkj:findN l m.im[i].n ∈ adj l a:=by rw [hadj]; exact List.mem_map.2 ⟨_,List.getElem_mem hil,rfl⟩
   have hkl:=hf _ _ hkj
   refine ⟨some (bp,0),by rw [QaC k1]; rfl,fS h2 (j:=2) rfl ?_⟩
   rw [hy.2.1]
   refine QoR (hD2.pr hbs hP12) hs (hD2.al hA12 hAs) fun D3 hD3=>?_
   unfold fIx
   rw [if_pos hkl]
   have hKD3:=hD2.trans (Kp.of hD3)
   have hS3:=(hS'.le l2).le hD3
   obtain ⟨lS,hm,hl⟩:=hS3
   have next:∀ F S2,Kp bs H12 F→SnIs F bs S2→(∀ j,S' j=true→S2 j=true)→S2 (findN l m.im[i].n)=true→(∀ j,S2 j=true→S' j=false→j≠b∧∀ k ∈ adj l j,S2 k=true)→Kp bs H12 F∧∃ S',SnIs F bs S'∧(∀ j,S j=true→S' j=true)∧S' a=true∧(∀ j,S' j=true→S j=false→j≠a→j≠b∧∀ k ∈ adj l j,S' k=true)∧∀ j,j < i+1→∀ (hj:j < m.im.length),S' (findN l m.im[j].n)=true:=fun F S2 hF q1 q2 q3 q4=>by
    refine ⟨hF,S2,q1,fun j hj=>q2 j (g1 j hj),q2 _ g2,fun j hj hn hne=>?_,fun j hj hjl=>?_⟩
    ·cases hs':S' j with
     | false=>exact q4 j hj hs'
     | true=>
      obtain ⟨r1,r2⟩:=g3 j hs' hn hne
      exact ⟨r1,fun k hk=>q2 _ (r2 k hk)⟩
    ·by_cases hji:j=i
     ·subst hji; exact q3
     ·exact q2 _ (g4 j (by omega) hjl)
   refine ⟨some bs,by rw [QaC (hKD3.at_ n5s h5)]; rfl,?_⟩
   have rest:∀ (v is:Bool),v=S' (findN l m.im[i].n)→(fun (x11 is12:Bool)=>jn (α:=Bool) (fun b14 H26=>(fun (r12:Bool) H13=>ift r12 (K (decide (((i:Nat):Int) ≥ 0)) H13) ((Kp bs H12 H13∧∃ S',SnIs H13 bs S'∧(∀ j,S j=true→S' j=true)∧S' a=true∧(∀ j,S' j=true→S j=false→j≠a→j≠b∧∀ k ∈ adj l j,S' k=true)∧∀ j,j < i+1→∀ (hj:j < m.im.length),S' (findN l m.im[j].n)=true))) b14 H26) (fun J15=>ift (!x11) (ldP D3 (b1,0) fun x18=>ldI D3 .i64 (b3,0) fun x20=>ldM D3 (b5,0) fun x22=>Qax C x18 (findN l m.im[i].n:Int) x20 x22 (fun r24 H25=>J15 r24 H25) D3) (J15 false D3))) v is:=fun v is hv=>by
    refine jn.inl ?_
    refine ift.of (fun h=>?_) (fun h=>?_)
    ·have hSk : S' (findN l m.im[i].n) = false := by rw [← hv]; simpa using h
     refine ⟨some (bp,0),by rw [QaC (hKD3.at_ n1s h1)]; rfl,(b:Int),by rw [QaC (hKD3.at_ n3s h3)]; rfl,some bs,by rw [QaC (hKD3.at_ n5s h5)]; rfl,?_⟩
     refine ih (S:=S') (by have:=QvE (n:=l.length) (a:=a) g1 ha hSa g2; omega) hkl hSk rfl rfl (hKD3.pr hbs hP12) (hKD3.al hA12 hAs) ⟨lS,hm,hl⟩ (fun F hF hrc=>ift.of (fun _=>?_) (fun h=>by cases h)) (fun F S2 hF q1 q2 q3 q4=>ift.of (fun h=>by cases h) (fun _=>?_))
     ·rw [show decide ((i : Int) ≥ 0) = true from decide_eq_true (by omega)]
      exact kt F (hKD3.trans hF) (hrc.head hkj)
     ·exact next F S2 (hKD3.trans hF) q1 q2 q3 q4
    ·refine ift.of (fun h => by cases h) (fun _ => ?_)
     have hSk:S' (findN l m.im[i].n)=true:=by rw [← hv]; simpa using h
     exact next D3 S' hKD3 ⟨lS,hm,hl⟩ (fun _ h=>h) hSk fun j h1 h2=>by rw [h1] at h2; cases h2
   refine hm.is.lk (fun v hv=>?_) (fun hno=>?_)
   ·rw [hl] at hv
    have e:v=S' (findN l m.im[i].n):=by
     split at hv
     ·rename_i hh; injection hv with hv; rw [← hv,hh]
     ·cases hv
    exact rest v true e
   ·rw [hl] at hno
    have e:false=S' (findN l m.im[i].n):=by
     split at hno
     ·cases hno
     ·rename_i hh; simpa using hh
    exact rest false false e
  ·rintro D ⟨hD,S',hS',g1,g2,g3,g4⟩
   have:=kf D S' hD hS' g1 g2 fun j hj hn=>by
    by_cases hja:j=a
    ·subst hja
     refine ⟨hab,fun k hk=>?_⟩
     rw [hadj] at hk
     obtain ⟨x,hx,rfl⟩:=List.mem_map.1 hk
     obtain ⟨i,hi',rfl⟩:=List.getElem_of_mem hx
     exact g4 i hi' hi'
    ·exact g3 j hj hn hja
   exact this
end
end
section
open Go Go.Proofs
theorem SnIs.new {H:Heap} {b:Nat}:SnIs (H.put b (.obj (.map #[] 0))) b (fun _=>false):=⟨[],MapS.new,fun j=>by simp [lkL]⟩
theorem QrH {l:List ImP} {s:Str}:(l.any fun y=>decide (y.n=s))=(l.map ImP.n).contains s:=by
 rw [Bool.eq_iff_iff,List.any_eq_true,List.contains_iff_mem,List.mem_map]
 simp only [decide_eq_true_eq]
section
variable {C:Ctx} {A H:Heap} {E:Value→Heap→Prop}
theorem Qrk {l:List MoP} {bp bm:Nat} {sl:Sl} {K:Heap→Prop} (hP:Pr H bp bm sl) (hs:MpL A sl l) (hA:A.le H) (hl8:l.length≤8)
 (k:∀ D,H.le D→impA l l=none→impBf l 0 l=none→K D) (ke:∀ D e,H.le D→(impA l l=some e∨impA l l=none∧impBf l 0 l=some e)→E (flt e.1 e.2.1 e.2.2) D):QbS C E (some (bp,0)) K H:=by
 apply QgG
 unfold QdK
 obtain ⟨_,hbp⟩:=hP.at_
 refine ⟨_,rfl,fL hbp (j:=0) rfl ?_⟩
 have hlen:=SlIs.len hs
 refine ⟨fun y D=>H.le D∧∃ i:Nat,y=(i:Int)∧i≤l.length∧impA l l=impA l (l.drop i),fun y _=>l.length - y.toNat,⟨Heap.le.refl _,0,rfl,Nat.zero_le _,by simp⟩,?_⟩
 rintro _ D ⟨hD,i,rfl,hi,hn⟩
 rw [hlen]
 refine ift.of (fun h=>?_) (fun h=>?_)
 ·have hil : i < l.length := by have := of_decide_eq_true h; omega
  refine hs.ld (hA.trans hD) (fun _=>rfl) (by omega) rfl hil fun y hy=>?_
  rw [Qc5 hil,impA] at hn
  generalize l[i]=m at *
  obtain ⟨hy1,hy2,_⟩:=hy
  have lim:=SlIs.len hy2.1
  have bim:=SlIs.bd hy2.1
  refine boxZ rfl fun b16 D1 n16 l16 h16=>?_
  refine fL h16 (j:=1) rfl ?_
  refine ⟨fun y' D'=>D1.le D'∧∃ j:Nat,y' = (j:Int)∧j≤m.im.length∧impA1 l m.n [] m.im=impA1 l m.n ((m.im.take j).map ImP.n) (m.im.drop j),fun y' _=>m.im.length - y'.toNat,⟨Heap.le.refl _,0,rfl,Nat.zero_le _,by simp⟩,?_⟩
  rintro _ D2 ⟨hD2,j,rfl,hj,hn1⟩
  rw [lim]
  have hHD2:=hD.trans (l16.trans hD2)
  refine ift.of (fun h=>?_) (fun h=>?_)
  ·have hjl : j < m.im.length := by have := of_decide_eq_true h; omega
   refine jn.inl ?_
   refine SlIs.ld hy2.1 (hA.trans hHD2) (z:=3) (fun _=>rfl) (by omega) rfl hjl fun x hx=>?_
   have htk:(m.im.take j).map ImP.n++[m.im[j].n]=(m.im.take (j+1)).map ImP.n:=by rw [List.take_add_one,List.getElem?_eq_getElem hjl,Option.toList_some,List.map_append]; rfl
   rw [Qc5 hjl,impA1,htk] at hn1
   generalize m.im[j]=v at *
   refine boxZ rfl fun b36 D3 n36 l36 h36=>?_
   have hHD3:=hHD2.trans l36
   have k16:=l36 _ _ (hD2 _ _ h16)
   have err:∀ e,impA1 l m.n [] m.im=some e→impA l l=some e:=fun e he=>by rw [hn,he]
   refine fS h36 (j:=2) rfl ?_
   rw [hx.2.1]
   refine QoR (hP.le hHD3) hs (hA.trans hHD3) fun D4 hD4=>?_
   have hHD4:=hHD3.trans hD4
   unfold fIx
   refine ift.of (fun h=>?_) (fun h=>?_)
   ·have hno : l.length ≤ findN l v.n := by
     split at h
     ·have:=of_decide_eq_true h; omega
     ·omega
    rw [if_pos hno] at hn1
    refine bxT (c:=Qa.c) (hD4 _ _ k16) (fPs (x:=x.Pos) (hD4 _ _ h36) rfl rfl ?_)
    exact QdS hy1.1 hx.1 fun F hF=>ke F _ (hHD4.trans hF) (.inl (err _ hn1))
   ·have hno : ¬ l.length ≤ findN l v.n := by
     split at h
     ·omega
     ·exact absurd h (by decide)
    rw [if_neg hno] at hn1
    refine fL (hD4 _ _ k16) (j:=1) rfl ?_
    refine SlIs.pre hy2.1 (z:=3) (fun _=>rfl) hy2.2 rfl (by omega) fun t51 ht51=>?_
    refine cfImport (R:=IpIs) (ok:=fun w=>decide (w.n=v.n)) ht51 (hA.trans hHD4) ?_ fun D5 hD5=>?_
    ·intro w hw x2 F Φ hF hx2 hΦ
     refine ⟨59,[],[pv (some (b36,0))],rfl,Qf1,QfP C x2 (b36,0) Φ F ?_⟩
     unfold Qdb
     refine box1N fun b2 G _ _ l2 h2=>fS h2 (j:=2) rfl (fS (l2 _ _ (hF _ _ (hD4 _ _ h36))) (j:=2) rfl ?_)
     rw [hx2.2.1,hx.2.1,QrK]
     exact hΦ G l2
    ·rw [QrH]
     refine ift.of (fun h=>?_) (fun h=>?_)
     ·rw [if_pos h] at hn1
      refine bxT (c:=Qa.c) (hD5 _ _ (hD4 _ _ k16)) (fPs (x:=x.Pos) (hD5 _ _ (hD4 _ _ h36)) rfl rfl ?_)
      exact QdS hy1.1 hx.1 fun F hF=>ke F _ (hHD4.trans (hD5.trans hF)) (.inl (err _ hn1))
     ·rw [if_neg (by rw [h]; decide)] at hn1
      rw [Q4 (by omega) (by omega)]
      exact ⟨⟨hD2.trans (l36.trans (hD4.trans hD5)),j+1,rfl,by omega,hn1⟩,by first | omega | (dsimp only; omega)⟩
  ·have hje : j = m.im.length := by have := of_decide_eq_false h; omega
   subst hje
   rw [List.drop_length] at hn1
   have hn1:impA1 l m.n [] m.im=none:=hn1
   rw [hn1] at hn
   rw [Q4 (by omega) (by omega)]
   exact ⟨⟨hHD2,i+1,rfl,by omega,hn⟩,by first | omega | (dsimp only; omega)⟩
 ·have hie : i = l.length := by have := of_decide_eq_false h; omega
  subst hie
  rw [List.drop_length] at hn
  have hn:impA l l=none:=hn
  have hf:=QqM hn
  refine ⟨_,rfl,fL (hD _ _ hbp) (j:=0) rfl ?_⟩
  refine ⟨fun y D=>H.le D∧∃ i:Nat,y=(i:Int)∧i≤l.length∧impBf l 0 l=impBf l i (l.drop i),fun y _=>l.length - y.toNat,⟨hD,0,rfl,Nat.zero_le _,by simp⟩,?_⟩
  clear hD
  rintro _ D ⟨hD,i,rfl,hi,hnB⟩
  rw [hlen]
  refine ift.of (fun h=>?_) (fun h=>?_)
  ·have hil : i < l.length := by have := of_decide_eq_true h; omega
   refine hs.ld (hA.trans hD) (fun _=>rfl) (by omega) rfl hil fun y hy=>?_
   have him:=Qjp hn _ (List.getElem_mem hil)
   rw [Qc5 hil,impBf] at hnB
   generalize l[i]=m at *
   obtain ⟨hy1,hy2,_⟩:=hy
   have lim:=SlIs.len hy2.1
   have bim:=SlIs.bd hy2.1
   refine boxZ rfl fun b16 D1 n16 l16 h16=>?_
   refine fL h16 (j:=1) rfl ?_
   refine ⟨fun y' D'=>D1.le D'∧∃ j:Nat,y' = (j:Int)∧j≤m.im.length∧impB1 l m.n i m.im=impB1 l m.n i (m.im.drop j),fun y' _=>m.im.length - y'.toNat,⟨Heap.le.refl _,0,rfl,Nat.zero_le _,by simp⟩,?_⟩
   rintro _ D2 ⟨hD2,j,rfl,hj,hn1⟩
   rw [lim]
   have hHD2:=hD.trans (l16.trans hD2)
   refine ift.of (fun h=>?_) (fun h=>?_)
   ·have hjl : j < m.im.length := by have := of_decide_eq_true h; omega
    refine jn.inl ?_
    refine SlIs.ld hy2.1 (hA.trans hHD2) (z:=3) (fun _=>rfl) (by omega) rfl hjl fun x hx=>?_
    have hfv:=him _ (List.getElem_mem hjl)
    rw [Qc5 hjl,impB1] at hn1
    generalize m.im[j]=v at *
    refine boxZ rfl fun b36 D3 n36 l36 h36=>?_
    have hHD3:=hHD2.trans l36
    have k16:=l36 _ _ (hD2 _ _ h16)
    have err:∀ e,impB1 l m.n i m.im=some e→impBf l 0 l=some e:=fun e he=>by rw [hnB,he]
    refine fS h36 (j:=2) rfl ?_
    rw [hx.2.1]
    refine QoR (hP.le hHD3) hs (hA.trans hHD3) fun D4 hD4=>?_
    have hHD4:=hHD3.trans hD4
    unfold fIx
    rw [if_pos hfv]
    intro bs ns
    have ls:=Heap.le_put ns (g:=.obj (.map #[] 0)) (m:=true)
    have hS:=SnIs.new (H:=D4) (b:=bs)
    generalize D4.put bs (.obj (.map #[] 0))=D5 at *
    have hHD5:=hHD4.trans ls
    have nA:A bs=none:=(hA.trans hHD4).none ns
    have nbp:bp≠bs:=fun e=>by rw [← e,hHD4 _ _ hbp] at ns; cases ns
    have dk:∀ {F},Kp bs D5 F→D4.le F:=fun {F} hF b e hb=>hF.at_ (fun e'=>by rw [e',ns] at hb; cases hb) (ls _ _ hb)
    refine Qrt hs hf nA nbp hl8 (uns l.length (fun _=>false)+1) (S:=fun _=>false) (by omega) hfv rfl rfl rfl (hP.le hHD5) (hA.trans hHD5) hS (fun F hF hrc=>ift.of (fun _=>?_) (fun h=>by cases h)) (fun F S' hF hS' q1 q2 q3=>ift.of (fun h=>by cases h) (fun _=>?_))
    ·rw [if_pos ((Qj0 hf hfv).2 hrc)] at hn1
     have hF:=dk hF
     refine bxT (c:=Qa.c) (hF _ _ (hD4 _ _ k16)) (fPs (x:=x.Pos) (hF _ _ (hD4 _ _ h36)) rfl rfl ?_)
     exact QdS hy1.1 hx.1 fun G hG=>ke G _ (hHD4.trans (hF.trans hG)) (.inr ⟨hn,err _ hn1⟩)
    ·rw [if_neg fun e => QsF q2 (fun j hj => q3 j hj rfl) ((Qj0 hf hfv).1 e)] at hn1
     rw [Q4 (by omega) (by omega)]
     exact ⟨⟨hD2.trans (l36.trans (hD4.trans (dk hF))),j+1,rfl,by omega,hn1⟩,by first | omega | (dsimp only; omega)⟩
   ·have hje : j = m.im.length := by have := of_decide_eq_false h; omega
    subst hje
    rw [List.drop_length] at hn1
    have hn1:impB1 l m.n i m.im=none:=hn1
    rw [hn1] at hnB
    rw [Q4 (by omega) (by omega)]
    exact ⟨⟨hHD2,i+1,rfl,by omega,hnB⟩,by first | omega | (dsimp only; omega)⟩
  ·have hie : i = l.length := by have := of_decide_eq_false h; omega
   subst hie
   rw [List.drop_length] at hnB
   exact k D hD hn hnB
end
end
section
set_option maxRecDepth 100000
open Go Go.Proofs
section
variable {C:Ctx} {H:Heap}
theorem QuK {b1 b3 b5:Nat} {m:Str} {p:Pl} {e:Int} {R:Heap→Prop}
 (k:nw (Qs.c Qs.zero) (fun b4 H4=>stT (b4,0) (Qs.c (⟨⟨m,psP p⟩,e⟩:Qs)) (fun H5=>dr H5 fun Hs=>ldT Hs Qi.c ((b4,0).1,(b4,0).2+0) fun x14=>ldI Hs .i64 ((b4,0).1,(b4,0).2+3) fun x16=>stT (b1,0) (Qa.c Qa.zero) (fun H6=>Heap.le Hs H6∧stT (b3,0) (Qi.c x14) (fun H7=>Heap.le Hs H7∧st (b5,0) (.int .i64 x16) (fun H8=>Heap.le Hs H8∧R H8) H7) H6) H5) H4) H) :
 SpecD Tryz.prog C 21 [pv (some (b1,0)),pv (some (b3,0)),pv (some (b5,0))] (.panicking [⟨flt m p e,false,false⟩]) H (fun u H2=>settle u=.returning∧R H2):=by
 refine SpecD.rec_ (u':=.panicking [{ v:=flt m p e,recovered:=true }]) (v:=flt m p e) (fun c₀ fs h=>.inl (QpN h)) Tryz.func21 rfl Tryz.ntmps21 rfl rfl ?_
 refine GC.block ?_
 refine Zo (Zv (v:=.bool false) (OV.eqlIf (u:=flt m p e) rfl (.inr ⟨_,_,rfl⟩) rfl rfl) (GL.nil (Zd (b:=false) (fun h=>by cases h) fun _=>?_)))
 refine Zo (Zv (OV.typeIs rfl rfl) (Zv (v:=.bool true) (OV.extract (vs:=#[.agg (Qs.c (⟨⟨m,psP p⟩,e⟩:Qs)).toArray,.bool true]) rfl rfl) (Zv (v:=.agg (Qs.c (⟨⟨m,psP p⟩,e⟩:Qs)).toArray) (OV.extract (vs:=#[.agg (Qs.c (⟨⟨m,psP p⟩,e⟩:Qs)).toArray,.bool true]) rfl rfl) (GL.nil (Zd (b:=true) (fun _=>?_) fun h=>by cases h)))))
 refine Zo (GL.alloc (cs:=Qs.c Qs.zero) k trivial rfl rfl rfl ?_)
 intro b4 H4 k
 refine GL.storeT (p:=(b4,0)) (vs:=Qs.c (⟨⟨m,psP p⟩,e⟩:Qs)) k trivial rfl rfl rfl rfl ?_
 intro H5 k
 obtain ⟨Hs,hle,x14,hr14,x16,hr16,k⟩:=k
 refine GL.nil (GC.any (Hs:=Hs) (by kernel_rfl) hle (Zp 0 rfl (OV.build (vs:=[]) (v:=.agg (Qa.c Qa.zero).toArray) rfl (fun _=>by kernel_rfl)) ?_))
 refine Zp 1 rfl (OV.fieldAddr rfl rfl) (Zp 2 rfl (OV.loadT rfl rfl rfl hr14) (Zp 3 rfl (OV.fieldAddr rfl rfl) (Zp 4 rfl (OV.load rfl rfl hr16) (GA.eff 5 rfl (by kernel_rfl) (GL.storeT (p:=(b1,0)) (vs:=Qa.c Qa.zero) k trivial rfl rfl rfl rfl ?_)))))
 rintro H6 ⟨hle6,k⟩
 refine GA.back hle6 (GA.eff 6 rfl (by kernel_rfl) (GL.storeT (p:=(b3,0)) (vs:=Qi.c x14) k trivial rfl rfl rfl rfl ?_))
 rintro H7 ⟨hle7,k⟩
 refine GA.back hle7 (GA.eff 7 rfl (by kernel_rfl) (GL.store (p:=(b5,0)) (v:=.int .i64 x16) k trivial rfl rfl rfl rfl ?_))
 rintro H8 ⟨hle8,k⟩
 refine GA.back hle8 (GA.done (by kernel_rfl) ?_)
 exact fun a w hf hs=>postRn rfl hf hs ⟨rfl,k⟩
theorem QuL {b1 b3 b5:Nat} {R:Heap→Prop} (k:R H) :
 SpecD Tryz.prog C 21 [pv (some (b1,0)),pv (some (b3,0)),pv (some (b5,0))] .returning H (fun u H2=>u=.returning∧R H2):=by
 refine SpecD.rec_ (u':=.returning) (v:=.nilIface) (fun c₀ fs h=>.inr ⟨QpO h,rfl,by rw [← h]⟩) Tryz.func21 rfl Tryz.ntmps21 rfl rfl ?_
 refine GC.block ?_
 refine Zo (Zv (v:=.bool true) (OV.eqlIf (u:=.nilIface) rfl (.inl rfl) rfl rfl) (GL.nil (Zd (b:=true) (fun _=>?_) fun h=>by cases h)))
 refine GC.region (Za ?_)
 exact fun a w hf hs=>postRn rfl hf hs ⟨rfl,k⟩
end
end
section
open Go Go.Proofs
theorem QpW {T:Tl} {o m o':MoP} (h:usedF T o m=.ok o'):o'.ty.length=o.ty.length+m.ty.length∧o'.re.length=o.re.length+m.re.length∧o'.ru.length=o.ru.length+m.ru.length∧o'.ne.length=o.ne.length+m.ne.length∧o'.n=o.n:=by
 unfold usedF at h
 split at h
 ·cases h
 split at h
 ·cases h
 split at h
 ·cases h
 split at h
 ·cases h
 rename_i _ a ha _ b hb _ c hc _ d hd
 injection h with h
 subst h
 simp only [List.length_append,Qc7 ha,Qc7 hb,Qc7 hc,Qc7 hd,and_self]
section
variable {C:Ctx} {A B W D H:Heap} {E:Value→Heap→Prop}
/-- a block that is none of the program's is written -/
theorem Out.put {bo:Nat} {q:Qa} {o:MoP} (h:Out A B W D bo q o) {b:Nat} {g:GO} (hb:∃ e,B b=some e) (hbo:b≠bo) (hW:W b=none):Out A B W (D.put b g) bo q o:=by
 have hq:∀ {x:Nat} {e:Bool×GO},x ∈ blks q→D x=some e→(D.put b g) x=some e:=fun {x e} hx he=>by
  have:x≠b:=fun e'=>by
   obtain ⟨e2,h2⟩:=hb
   rw [← e',(h.fr x hx).1] at h2; cases h2
  rw [Heap.put_ne _ _ _ this]; exact he
 have hnw:Heap.nw A B (D.put b g)=Heap.nw A B D:=Qjs hb
 refine ⟨Heap.dom_put h.dom,h.ab,h.aw,Qbg h.wle hW,?_,h.bB,h.wo,h.nd,h.fr,h.nm,?_,?_,?_,?_⟩
 ·rw [Heap.put_ne _ _ _ (Ne.symm hbo)]; exact h.at_
 all_goals rw [hnw]
 ·exact h.gt.mono (fun x hx e he=>hq (List.mem_append_left _ hx) he) (Heap.le.refl _) TpO.le
 ·exact h.gr.mono (fun x hx e he=>hq (List.mem_append_right _ (List.mem_append_left _ hx)) he) (Heap.le.refl _) RpO.le
 ·exact h.gu.mono (fun x hx e he=>hq (List.mem_append_right _ (List.mem_append_right _ (List.mem_append_left _ hx))) he) (Heap.le.refl _) UpO.le
 ·exact h.gn.mono (fun x hx e he=>hq (List.mem_append_right _ (List.mem_append_right _ (List.mem_append_right _ hx))) he) (Heap.le.refl _) (fun h h'=>NpIs.le h h')
theorem QcD {c vs:List Value} (h:c.length=vs.length):splice c 0 vs=vs:=by
 unfold splice
 rw [List.take_zero,List.nil_append,Nat.zero_add,← h,List.drop_length,List.append_nil]
theorem put_id {D:Heap} {b:Nat} {g:GO} (h:D b=some (true,g)):D.put b g=D:=by
 funext x
 by_cases hx:x=b
 ·subst hx; rw [Heap.put_same,h]
 ·exact Heap.put_ne _ _ _ hx
/-- what is taken: the three results written over -/
theorem Qvr {b1 b3 b5:Nat} {c1 c3 c5:List Value} {m:Str} {p:Pl} {e:Int} {K:Qa→Qi→Int→Heap→Prop} (h13:b1≠b3) (h15:b1≠b5) (h35:b3≠b5) (h1:H b1=some (true,.row c1)) (l1:c1.length=6) (h3:H b3=some (true,.row c3)) (l3:c3.length=3) (h5:H b5=some (true,.row c5)) (l5:c5.length=1)
 (k:∀ D,(((H.del b1).del b3).del b5).le D→K Qa.zero ⟨m,psP p⟩ e D) :
 SpecD Tryz.prog C 21 [pv (some (b1,0)),pv (some (b3,0)),pv (some (b5,0))] (.panicking [⟨flt m p e,false,false⟩]) H (fun u H31=>settle u=.returning∧ldT H31 Qa.c (b1,0) fun x32=>ldT H31 Qi.c (b3,0) fun x33=>ldI H31 .i64 (b5,0) fun x34=>K x32 x33 x34 H31):=by
 refine QuK ?_
 refine boxZ rfl fun b4 H5 n4 l4 h4=>?_
 have ne:∀ b,(∃ e,H b=some e)→b4≠b:=fun b ⟨e,he⟩ e'=>by rw [e',he] at n4; cases n4
 have d4:(((H5.del b1).del b3).del b5) b4=some (true,.row (Qs.c (⟨⟨m,psP p⟩,e⟩:Qs))):=by
  rw [Heap.del_ne _ (ne _ ⟨_,h5⟩),Heap.del_ne _ (ne _ ⟨_,h3⟩),Heap.del_ne _ (ne _ ⟨_,h1⟩)]; exact h4
 have k1:=l4 _ _ h1
 have k3:=l4 _ _ h3
 have k5:=l4 _ _ h5
 have hk:∀ D,(((H5.del b1).del b3).del b5).le D→(((H.del b1).del b3).del b5).le D:=fun D hD b e he=>by
  have n5:b≠b5:=fun e'=>by rw [e',Heap.del_same] at he; cases he
  rw [Heap.del_ne _ n5] at he
  have n3:b≠b3:=fun e'=>by rw [e',Heap.del_same] at he; cases he
  rw [Heap.del_ne _ n3] at he
  have n1:b≠b1:=fun e'=>by rw [e',Heap.del_same] at he; cases he
  rw [Heap.del_ne _ n1] at he
  exact hD b e (by rw [Heap.del_ne _ n5,Heap.del_ne _ n3,Heap.del_ne _ n1]; exact l4 _ _ he)
 have hl0:(((H5.del b1).del b3).del b5).le H5:=fun b e he=>by
  have n5:b≠b5:=fun e'=>by rw [e',Heap.del_same] at he; cases he
  rw [Heap.del_ne _ n5] at he
  have n3:b≠b3:=fun e'=>by rw [e',Heap.del_same] at he; cases he
  rw [Heap.del_ne _ n3] at he
  exact Heap.del_le _ _ _ _ he
 have hp:∀ {D:Heap} {b:Nat} {g:GO},(b=b1∨b=b3∨b=b5)→(((H5.del b1).del b3).del b5).le D→(((H5.del b1).del b3).del b5).le (D.put b g):=fun {D b g} hb hD x e he=>by
  have n5:x≠b5:=fun e'=>by rw [e',Heap.del_same] at he; cases he
  have he':=he
  rw [Heap.del_ne _ n5] at he
  have n3:x≠b3:=fun e'=>by rw [e',Heap.del_same] at he; cases he
  rw [Heap.del_ne _ n3] at he
  have n1:x≠b1:=fun e'=>by rw [e',Heap.del_same] at he; cases he
  rw [Heap.put_ne _ _ _ (by rcases hb with rfl | rfl | rfl <;> assumption)]
  exact hD x e he'
 refine ⟨(((H5.del b1).del b3).del b5),hl0,fT (c:=Qi.c) (x:=⟨m,psP p⟩) d4 (fun i v hv=>by match i,hv with | 0,hv=>exact hv | 1,hv=>exact hv | 2,hv=>exact hv) (fI d4 (j:=3) rfl ?_)⟩
 refine ⟨c1,k1,by rw [l1]; show 0+6≤6; omega,hp (.inl rfl) hl0,c3,by rw [Heap.put_ne _ _ _ (Ne.symm h13)]; exact k3,by rw [l3]; show 0+3≤3; omega,hp (.inr (.inl rfl)) (hp (.inl rfl) hl0),c5,by rw [Heap.put_ne _ _ _ (Ne.symm h35),Heap.put_ne _ _ _ (Ne.symm h15)]; exact k5,by rw [l5]; show 0 < 1; omega,hp (.inr (.inr rfl)) (hp (.inr (.inl rfl)) (hp (.inl rfl) hl0)),?_⟩
 have s1:splice c1 0 (Qa.c Qa.zero)=Qa.c Qa.zero:=QcD (by rw [l1]; rfl)
 have s3:splice c3 0 (Qi.c ⟨m,psP p⟩)=Qi.c ⟨m,psP p⟩:=QcD (by rw [l3]; rfl)
 have s5:c5.set 0 (.int .i64 e)=[.int .i64 e]:=by
  match c5,l5 with
  | [x],_=>rfl
 rw [s1,s3,s5]
 refine bxT (c:=Qa.c) (by rw [Heap.put_ne _ _ _ h15,Heap.put_ne _ _ _ h13]; exact Heap.put_same ..) (bxT (c:=Qi.c) (by rw [Heap.put_ne _ _ _ h35]; exact Heap.put_same ..) ⟨e,by rw [QaC (Heap.put_same ..)]; rfl,?_⟩)
 exact k _ (hk _ (hp (.inr (.inr rfl)) (hp (.inr (.inl rfl)) (hp (.inl rfl) hl0))))
theorem TlIs.same {A B:Heap} {bm:Nat} {T:Tl} (h:TlIs A bm T) (hb:B bm=A bm):TlIs B bm T:=by
 obtain ⟨l,h1,h2⟩:=h
 exact ⟨l,h1.same hb,h2⟩
/-- modules as one program -/
theorem QlG (hT:MaxC C) {l:List MoP} {sl:Sl} {K:Qa→Qi→Int→Heap→Prop} (hs:MpL A sl l) (hA:A.le H) (hd:∀ m ∈ l,moD m.e≤4611686018427387904)
 (k:∀ D B W bo q o,flatF l=.ok o→H.le B→H.le W→Out A B W D bo q o→K q ⟨[],psP (0,0)⟩ 0 D)
 (ke:∀ D e,flatF l=.error e→H.le D→K Qa.zero ⟨e.1,psP e.2.1⟩ e.2.2 D):Qcn C sl K H:=by
 have hlen:=SlIs.len hs
 apply QlH
 unfold QhO
 refine box1N fun b1 H2 n1 _ l1 h1=>box1N fun b3 H4 n3 _ l3 h3=>box1N fun b5 H6 n5 _ l5 h5=>?_
 have h1:=l5 _ _ (l3 _ _ h1)
 have n13:b1≠b3:=fun e=>by
  have:H2 b1=none:=by rw [e]; exact n3
  rw [‹H2 b1=some _›] at this; cases this
 have h3':=l5 _ _ h3
 have n15:b1≠b5:=fun e=>by
  have:H4 b1=none:=by rw [e]; exact n5
  rw [l3 _ _ ‹H2 b1=some _›] at this; cases this
 have n35:b3≠b5:=fun e=>by
  have:H4 b3=none:=by rw [e]; exact n5
  rw [h3] at this; cases this
 have h3:=h3'
 have hH6:=l1.trans (l3.trans l5)
 have m1:H b1=none:=n1
 have m3:H b3=none:=l1.none n3
 have m5:H b5=none:=(l1.trans l3).none n5
 have lit:∀ (z:Int),(∀ D,H.le D→K Qa.zero ⟨[],psP (0,0)⟩ z D)→stT (b1,0) (Qa.c (⟨[],Sl.nil,Sl.nil,Sl.nil,Sl.nil,Sl.nil⟩:Qa)) (fun H8=>stT (b3,0) (Qi.c (⟨[],Qo.zero⟩:Qi)) (fun H9=>st (b5,0) (.int .i64 z) (fun H10=>ldT H10 Qa.c (b1,0) fun x11=>ldT H10 Qi.c (b3,0) fun x13=>ldI H10 .i64 (b5,0) fun x15=>K x11 x13 x15 H10) H9) H8) H6:=fun z hk=>by
  refine ⟨_,h1,by show 0+6≤6; omega,_,by rw [Heap.put_ne _ _ _ (Ne.symm n13)]; exact h3,by show 0+3≤3; omega,_,by rw [Heap.put_ne _ _ _ (Ne.symm n35),Heap.put_ne _ _ _ (Ne.symm n15)]; exact h5,by show 0 < 1; omega,?_⟩
  rw [QcD (by rfl),QcD (by rfl)]
  refine bxT (c:=Qa.c) (by rw [Heap.put_ne _ _ _ n15,Heap.put_ne _ _ _ n13]; exact Heap.put_same ..) (bxT (c:=Qi.c) (by rw [Heap.put_ne _ _ _ n35]; exact Heap.put_same ..) ⟨z,by rw [QaC (Heap.put_same ..)]; rfl,hk _ ?_⟩)
  exact Qbg (Qbg (Qbg hH6 m1) m3) m5
 rw [hlen]
 refine ift.of (fun h=>?_) (fun h=>?_)
 ·have hl0 : l.length = 0 := by have := eq_of_beq h; omega
  exact lit 1 fun D hD=>ke D ([],(0,0),1) (by unfold flatF; rw [if_pos hl0]) hD
 have hl0:l.length≠0:=fun e=>by rw [e] at h; exact absurd h (by decide)
 refine ift.of (fun h=>?_) (fun h=>?_)
 ·have hl8 : 8 < l.length := by have := of_decide_eq_true h; omega
  exact lit 3 fun D hD=>ke D ([],(0,0),3) (by unfold flatF; rw [if_neg hl0,if_pos hl8]) hD
 have hl8:¬ 8 < l.length:=by have:=of_decide_eq_false h; omega
 clear lit
 refine ⟨fun v F=>∃ e c1 c3 c5,flatF l=.error e∧v=flt e.1 e.2.1 e.2.2∧H.le F∧F b1=some (true,.row c1)∧c1.length=6∧F b3=some (true,.row c3)∧c3.length=3∧F b5=some (true,.row c5)∧c5.length=1,?_,?_⟩
 ·rintro v F ⟨e,c1,c3,c5,he,rfl,hF,f1,g1,f3,g3,f5,g5⟩
  refine Qvr n13 n15 n35 f1 g1 f3 g3 f5 g5 fun D hD=>ke D e he fun b x hb=>hD b x ?_
  rw [Heap.del_ne _ (fun e=>by rw [e,m5] at hb; cases hb),Heap.del_ne _ (fun e=>by rw [e,m3] at hb; cases hb),Heap.del_ne _ (fun e=>by rw [e,m1] at hb; cases hb)]
  exact hF b x hb
 intro bm nm
 have lm:=Heap.le_put nm (g:=.obj (.map #[] 0)) (m:=true)
 have hTl:TlIs (H6.put bm (.obj (.map #[] 0))) bm []:=⟨[],MapS.new,fun _=>rfl⟩
 generalize H6.put bm (.obj (.map #[] 0))=H36 at *
 refine box1N fun bp H38 np _ lp_ hp=>?_
 have hHm:H bm=none:=hH6.none nm
 have hAm:A bm=none:=hA.none hHm
 have n1m:b1≠bm:=fun e=>by rw [← e,h1] at nm; cases nm
 have n3m:b3≠bm:=fun e=>by rw [← e,h3] at nm; cases nm
 have n5m:b5≠bm:=fun e=>by rw [← e,h5] at nm; cases nm
 obtain ⟨em,hem⟩:=hTl.has
 have npm:bp≠bm:=fun e=>by rw [e,hem] at np; cases np
 have k1:=lp_ _ _ (lm _ _ h1)
 have k3:=lp_ _ _ (lm _ _ h3)
 have k5:=lp_ _ _ (lm _ _ h5)
 have np1:bp≠b1:=fun e=>by rw [e,lm _ _ h1] at np; cases np
 have np3:bp≠b3:=fun e=>by rw [e,lm _ _ h3] at np; cases np
 have np5:bp≠b5:=fun e=>by rw [e,lm _ _ h5] at np; cases np
 have hPr:Pr H38 bp bm sl:=⟨_,hp⟩
 have hTl:=hTl.le lp_
 have hH38:=hH6.trans (lm.trans lp_)
 clear l1 l3 l5 lm lp_ hp h1 h3 h5 hH6 np nm hem em
 have fin:∀ {F e},H.le F→flatF l=.error e→(∃ c,F b1=some (true,.row c)∧c.length=6)→F b3=some (true,.row (Qi.c Qi.zero))→F b5=some (true,.row [.int .i64 0])→∃ e' c1 c3 c5,flatF l=.error e'∧flt e.1 e.2.1 e.2.2=flt e'.1 e'.2.1 e'.2.2∧H.le F∧F b1=some (true,.row c1)∧c1.length=6∧F b3=some (true,.row c3)∧c3.length=3∧F b5=some (true,.row c5)∧c5.length=1:=
  fun {F e} hF he ⟨c,hc,hcl⟩ f3 f5=>⟨e,c,_,_,he,rfl,hF,hc,hcl,f3,rfl,f5,rfl⟩
 have hkp:∀ {F},Kp bm H38 F→H.le F:=fun {F} hF b e hb=>hF.at_ (fun e'=>by rw [e',hHm] at hb; cases hb) (hH38 _ _ hb)
 have flat0:flatF l=match singleF [] l with
  | some e=>.error e
  | none => match impA l l with
   | some e=>.error e
   | none => match impBf l 0 l with
    | some e=>.error e
    | none => match namesAll l [] with
     | .error e=>.error e
     | .ok T=>if totB l=true then .error ([],(0,0),3) else usedAll T ⟨(l.head?.map MoP.n).getD [],[],[],[],[],[]⟩ l:=by unfold flatF; rw [if_neg hl0,if_neg hl8] <;> rfl
 refine QsN hT hPr hs (hA.trans hH38) hd (fun D1 hD1 hsi=>?_) (fun F e hF he=>fin (hH38.trans hF) (by rw [flat0,he]) ⟨_,hF _ _ k1,rfl⟩ (hF _ _ k3) (hF _ _ k5))
 obtain ⟨q1,q2,_⟩:=Qfj hsi
 have hg:∀ m ∈ l,MoG m:=fun m hm=>moG (q1 m hm)
 rw [hsi] at flat0
 dsimp only at flat0
 refine Qrk (hPr.le hD1) hs (hA.trans (hH38.trans hD1)) (by omega) (fun D2 hD2 hia hib=>?_) (fun F e hF he=>fin (hH38.trans (hD1.trans hF)) (by
  rw [flat0]
  rcases he with he | ⟨he,he2⟩
  ·rw [he]
  ·rw [he]; dsimp only; rw [he2]) ⟨_,hF _ _ (hD1 _ _ k1),rfl⟩ (hF _ _ (hD1 _ _ k3)) (hF _ _ (hD1 _ _ k5)))
 rw [hia] at flat0
 dsimp only at flat0
 rw [hib] at flat0
 dsimp only at flat0
 have hD2:=hD1.trans hD2
 clear hD1
 refine ⟨fun y D=>Kp bm H38 D∧∃ (i:Nat) (T:Tl),y=(i:Int)∧i≤l.length∧namesAll l []=namesAll (l.drop i) T∧TlIs D bm T,fun y _=>l.length - y.toNat,⟨Kp.of hD2,0,[],rfl,Nat.zero_le _,by rw [List.drop_zero],hTl.le hD2⟩,?_⟩
 clear hD2
 rintro _ D ⟨hD,i,T,rfl,hi,hn,hTD⟩
 have hAD:=hA.trans (hkp hD)
 refine ift.of (fun h=>?_) (fun h=>?_)
 ·have hil : i < l.length := by have := of_decide_eq_true h; omega
  refine hs.ld hAD (fun _=>rfl) (by omega) rfl hil fun y hy=>?_
  have hgi:=hg _ (List.getElem_mem hil)
  rw [Qc5 hil,namesAll] at hn
  generalize l[i]=m at *
  refine boxZ rfl fun b52 D3 n52 l52 h52=>?_
  have hD3:=hD.trans (Kp.of l52)
  refine bxT (c:=Qa.c) h52 ?_
  refine Qtm (hAD.trans l52) hAm (hD3.pr npm hPr) npm (hTD.le l52) hy hgi (fun F T' hT' hF hTF=>?_) (fun F e he hF=>?_)
  ·rw [hT'] at hn
   rw [Q4 (by omega) (by omega)]
   exact ⟨⟨hD3.trans hF,i+1,T',rfl,by omega,hn,hTF⟩,by first | omega | (dsimp only; omega)⟩
  ·rw [he] at hn
   have hF:=hD3.trans hF
   exact fin (hkp hF) (by rw [flat0,hn]) ⟨_,hF.at_ n1m k1,rfl⟩ (hF.at_ n3m k3) (hF.at_ n5m k5)
 have hie:i=l.length:=by have:=of_decide_eq_false h; omega
 subst hie
 rw [List.drop_length] at hn
 have hn:namesAll l []=.ok T:=hn
 rw [hn] at flat0
 dsimp only at flat0
 refine QsR (hD.pr npm hPr) hs hAD hg (by omega) (fun D5 hD5 htot=>?_) (fun F hF htot=>?_)
 rotate_left
 ·have hF:=hD.trans (Kp.of hF)
  exact fin (e:=([],(0,0),3)) (hkp hF) (by rw [flat0,if_pos htot]) ⟨_,hF.at_ n1m k1,rfl⟩ (hF.at_ n3m k3) (hF.at_ n5m k5)
 rw [if_neg (by rw [htot]; decide)] at flat0
 have hD5:=hD.trans (Kp.of hD5)
 have hAD5:=hA.trans (hkp hD5)
 have hl1:0 < l.length:=by omega
 refine SlIs.at_ hs hAD5 (z:=6) (fun _=>rfl) (by omega) (i:=0) rfl hl1 fun p y hy hr=>⟨y.Name,hr 0 _ rfl,?_⟩
 have hhd:(l.head?.map MoP.n).getD []=l[0].n:=by
  match l,hl1 with
  | m::l,_=>rfl
 rw [hhd] at flat0
 have hy0:y.Name=l[0].n:=hy.1.1
 clear hr hy hhd
 generalize l[0].n=n0 at *
 have d1:=hD5.at_ n1m k1
 have d3:=hD5.at_ n3m k3
 have d5:=hD5.at_ n5m k5
 obtain ⟨mp,dp⟩:=(hD5.pr npm hPr).at_
 have dT:=hTD.le ‹D.le D5›
 refine QsO (cs2:=Qa.c ⟨n0,Sl.nil,Sl.nil,Sl.nil,Sl.nil,Sl.nil⟩) d1 (show 0 < 6 by omega) (by rw [hy0]; rfl) ?_
 have hHD5:=hkp hD5
 have hO:Out A (D5.put b1 (.row (Qa.c ⟨n0,Sl.nil,Sl.nil,Sl.nil,Sl.nil,Sl.nil⟩))) (D5.del b1) (D5.put b1 (.row (Qa.c ⟨n0,Sl.nil,Sl.nil,Sl.nil,Sl.nil,Sl.nil⟩))) b1 ⟨n0,Sl.nil,Sl.nil,Sl.nil,Sl.nil,Sl.nil⟩ ⟨n0,[],[],[],[],[]⟩:=by
  have nA1:A b1=none:=hA.none m1
  exact ⟨fun _ h=>h,Qbg hAD5 nA1,Heap.le_del hAD5 nA1,Heap.del_put (Heap.del_le _ _),Heap.put_same ..,⟨_,Heap.put_same ..⟩,Heap.del_same ..,by simp [blks,bk,Sl.nil],fun b hb=>by simp [blks,bk,Sl.nil] at hb,⟨rfl,rfl,rfl⟩,Gq.nil,Gq.nil,Gq.nil,Gq.nil⟩
 have hHB:H.le (D5.put b1 (.row (Qa.c ⟨n0,Sl.nil,Sl.nil,Sl.nil,Sl.nil,Sl.nil⟩))):=Qbg hHD5 m1
 have b3B:∃ e,(D5.put b1 (.row (Qa.c ⟨n0,Sl.nil,Sl.nil,Sl.nil,Sl.nil,Sl.nil⟩))) b3=some e:=⟨_,by rw [Heap.put_ne _ _ _ (Ne.symm n13)]; exact d3⟩
 have b5B:∃ e,(D5.put b1 (.row (Qa.c ⟨n0,Sl.nil,Sl.nil,Sl.nil,Sl.nil,Sl.nil⟩))) b5=some e:=⟨_,by rw [Heap.put_ne _ _ _ (Ne.symm n15)]; exact d5⟩
 generalize D5.put b1 (.row (Qa.c ⟨n0,Sl.nil,Sl.nil,Sl.nil,Sl.nil,Sl.nil⟩))=B at *
 have w3:(D5.del b1) b3=some (true,.row (Qi.c Qi.zero)):=by rw [Heap.del_ne _ (Ne.symm n13)]; exact d3
 have w5:(D5.del b1) b5=some (true,.row [.int .i64 0]):=by rw [Heap.del_ne _ (Ne.symm n15)]; exact d5
 have wP:Pr (D5.del b1) bp bm sl:=⟨mp,by rw [Heap.del_ne _ np1]; exact dp⟩
 have wT:TlIs (D5.del b1) bm T:=dT.same (Heap.del_ne _ (Ne.symm n1m))
 have hHW:H.le (((D5.del b1).del b3).del b5):=fun b x hb=>by
  rw [Heap.del_ne _ (fun e=>by rw [e,m5] at hb; cases hb),Heap.del_ne _ (fun e=>by rw [e,m3] at hb; cases hb),Heap.del_ne _ (fun e=>by rw [e,m1] at hb; cases hb)]
  exact hHD5 b x hb
 have hWW:(((D5.del b1).del b3).del b5).le (D5.del b1):=(Heap.del_le _ _).trans (Heap.del_le _ _)
 have hHW1:=hHW.trans hWW
 generalize D5.del b1=W1 at *
 refine ⟨fun y D=>∃ (i:Nat) (q:Qa) (o:MoP),y=(i:Int)∧i≤l.length∧usedAll T ⟨n0,[],[],[],[],[]⟩ l=usedAll T o (l.drop i)∧Out A B W1 D b1 q o∧o.ty.length≤i*256∧o.re.length≤i*256∧o.ru.length≤i*256∧o.ne.length≤i*256,fun y _=>l.length - y.toNat,⟨0,_,_,rfl,Nat.zero_le _,by rw [List.drop_zero],hO,Nat.zero_le _,Nat.zero_le _,Nat.zero_le _,Nat.zero_le _⟩,?_⟩
 clear hO d1 d3 d5 dp dT hD5 hAD5
 rintro _ D ⟨i,q,o,rfl,hi,hu,hO,u1,u2,u3,u4⟩
 have hi8 : i * 256 ≤ 2048 := by have : i ≤ 8 := by omega
                                 omega
 refine ift.of (fun h=>?_) (fun h=>?_)
 ·have hil : i < l.length := by have := of_decide_eq_true h; omega
  refine hs.ld hO.al (fun _=>rfl) (by omega) rfl hil fun y hy=>?_
  have hgi:=hg _ (List.getElem_mem hil)
  rw [Qc5 hil,usedAll] at hu
  generalize l[i]=m at *
  refine boxZ rfl fun b52 D3 n52 l52 h52=>?_
  have hO3:=hO.up l52
  refine bxT (c:=Qa.c) h52 ?_
  refine QuZ hO3 wP wT hy hgi (by omega) (fun F q' o' ho' hO'=>?_) (fun F q' o' p hO' hp=>?_)
  ·rw [ho'] at hu
   obtain ⟨v1,v2,v3,v4,_⟩:=QpW ho'
   have g1:=hgi.lt
   have g2:=hgi.lr
   have g3:=hgi.lu
   have g4:=hgi.ln
   rw [Q4 (by omega) (by omega)]
   exact ⟨⟨i+1,q',o',rfl,by omega,hu,hO',by omega,by omega,by omega,by omega⟩,by first | omega | (dsimp only; omega)⟩
  ·rw [hp] at hu
   exact fin (e:=(m.n,p,63)) (hHW1.trans hO'.wle) (by rw [flat0,hu]) ⟨_,hO'.at_,rfl⟩ (hO'.wle _ _ w3) (hO'.wle _ _ w5)
 ·have hie : i = l.length := by have := of_decide_eq_false h; omega
  subst hie
  rw [List.drop_length] at hu
  have hu:usedAll T ⟨n0,[],[],[],[],[]⟩ l=.ok o:=hu
  rw [hu] at flat0
  refine bxT (c:=Qa.c) hO.at_ ⟨_,hO.at_,by show 0+6≤6; omega,?_⟩
  rw [QcD (by rfl),put_id hO.at_]
  have f3:=hO.wle _ _ w3
  have f5:=hO.wle _ _ w5
  have hO2:=hO.keep (W2:=((W1.del b3).del b5)) (hA.trans hHW) (((Heap.del_le _ _).trans (Heap.del_le _ _)).trans hO.wle) (by rw [Heap.del_ne _ n15,Heap.del_ne _ n13]; exact hO.wo) fun b hb=>((Heap.del_le _ _).trans (Heap.del_le _ _)).none (hO.fr b hb).2
  have hO3:=hO2.put (b:=b3) (g:=.row (Qi.c ⟨[],Qo.zero⟩)) b3B (Ne.symm n13) (by rw [Heap.del_ne _ n35]; exact Heap.del_same ..)
  have hO4:=hO3.put (b:=b5) (g:=.row [.int .i64 0]) b5B (Ne.symm n15) (Heap.del_same ..)
  refine ⟨_,f3,by show 0+3≤3; omega,_,by rw [Heap.put_ne _ _ _ (Ne.symm n35)]; exact f5,by show 0 < 1; omega,?_⟩
  rw [QcD (by rfl)]
  refine QuL ?_
  refine bxT (c:=Qa.c) hO4.at_ (bxT (c:=Qi.c) (x:=⟨[],Qo.zero⟩) (by rw [Heap.put_ne _ _ _ n35]; exact Heap.put_same ..) ⟨0,by rw [QaC (Heap.put_same ..)]; rfl,?_⟩)
  exact k _ B _ b1 q o flat0 hHB hHW hO4
end
end
section
open Go Go.Proofs
/-- all that is known where modules come to a program -/
structure FlatO (l:List MoP) (T:Tl) (o:MoP):Prop where
 l1:0 < l.length
 l8:l.length≤8
 si:singleF [] l=none
 ia:impA l l=none
 ib:impBf l 0 l=none
 na:namesAll l []=.ok T
 tot:totB l=false
 us:usedAll T ⟨(l.head?.map MoP.n).getD [],[],[],[],[],[]⟩ l=.ok o
theorem Qr6 {l:List MoP} {o:MoP} (h:flatF l=.ok o):∃ T,FlatO l T o:=by
 unfold flatF at h
 split at h
 ·cases h
 split at h
 ·cases h
 rename_i h0 h8
 cases h1:singleF [] l with
 | some e=>rw [h1] at h; cases h
 | none=>
  rw [h1] at h
  cases h2:impA l l with
  | some e=>rw [h2] at h; cases h
  | none=>
   rw [h2] at h
   cases h3:impBf l 0 l with
   | some e=>rw [h3] at h; cases h
   | none=>
    rw [h3] at h
    cases h4:namesAll l [] with
    | error e=>rw [h4] at h; cases h
    | ok T=>
     rw [h4] at h
     dsimp only at h
     cases h5:totB l with
     | true=>rw [h5] at h; cases h
     | false=>
      rw [h5] at h
      exact ⟨T,by omega,by omega,h1,h2,h3,h4,h5,h⟩
theorem Qr5 {l:List MoP} {T:Tl} {o:MoP} (h:FlatO l T o):flatF l=.ok o:=by
 have:=h.l1
 have:=h.l8
 unfold flatF
 rw [if_neg (by omega),if_neg (by omega),h.si]
 dsimp only
 rw [h.ia]
 dsimp only
 rw [h.ib]
 dsimp only
 rw [h.na]
 dsimp only
 rw [h.tot]
 exact h.us
theorem FlatO.mo {l:List MoP} {T:Tl} {o:MoP} (h:FlatO l T o):∀ m ∈ l,MoG m:=fun m hm=>moG ((Qfj h.si).1 m hm)
theorem QnA {T:Tl}:∀ {l:List MoP} {o o':MoP},usedAll T o l=.ok o'→o'.ty.length=o.ty.length+total MoP.ty l∧o'.re.length=o.re.length+total MoP.re l∧o'.ru.length=o.ru.length+total MoP.ru l∧o'.ne.length=o.ne.length+total MoP.ne l∧o'.n=o.n
 | [],o,o',h=>by simp only [usedAll] at h; injection h with h; subst h; simp [total]
 | m::l,o,o',h=>by
  simp only [usedAll] at h
  split at h
  ·cases h
  ·rename_i o1 h1
   obtain ⟨a1,a2,a3,a4,a5⟩:=QpW h1
   obtain ⟨b1,b2,b3,b4,b5⟩:=QnA h
   simp only [total]
   refine ⟨by omega,by omega,by omega,by omega,by rw [b5,a5]⟩
theorem FlatO.len {l:List MoP} {T:Tl} {o:MoP} (h:FlatO l T o):o.ty.length≤64∧o.re.length≤64∧o.ru.length≤256∧o.ne.length≤256∧o.n.length≤32:=by
 obtain ⟨a1,a2,a3,a4,a5⟩:=QnA h.us
 have ht:=h.tot
 unfold totB at ht
 simp only [Bool.or_eq_false_iff,decide_eq_false_iff_not] at ht
 simp only [List.length_nil] at a1 a2 a3 a4
 refine ⟨by omega,by omega,by omega,by omega,?_⟩
 rw [a5]
 have:=h.l1
 cases hl:l with
 | nil=>rw [hl] at this; simp at this
 | cons m l'=>exact (h.mo m (by rw [hl]; exact List.mem_cons_self ..)).n
section
variable {α β:Type} {R:Heap→α→β→Prop} {c:β→List Value} {z:Nat} {A B D Z W:Heap} {s:Sl} {l:List α}
/-- a list that grew, read -/
theorem Gq.is (h:Gq R c z Z D s l) (hb:∀ b ∈ bk s,B b=none) (hZ:Z.le (Heap.nw A B D)) (hz:∀ x,(c x).length=z) (hz0:0 < z) (hR:∀ {X Y:Heap} {v x},X.le Y→R X v x→R Y v x) (hl:l.length≤140737488355328):SlIs (R (Heap.nw A B D)) c (Heap.nw A B D) s l:=by
 have hlen:=h.len hz hz0
 obtain ⟨xs,h1,h2,h3⟩:=h
 refine ⟨xs,?_,by omega,h2,hl,fun i v x hv hx=>hR hZ (h3 i v x hv hx)⟩
 obtain ⟨g1,g2,g3,⟨hp,h0⟩ | ⟨b,sp,hp,hbk,_⟩⟩:=h1
 ·refine .inl ?_
  have:s.len=0:=by omega
  rw [this] at g1
  exact List.length_eq_zero_iff.1 (by omega)
 ·refine .inr ⟨g2, _, hp, Qg6 (Qng (hb b (Qgo.2 ⟨_, hp, rfl⟩)) hbk) fun j v hj => ?_⟩
  rw [Nat.zero_add,List.getElem?_append_left (List.getElem?_eq_some_iff.1 hj).1]; exact hj
theorem Out.is {bo:Nat} {q:Qa} {o:MoP} {T:Tl} {l:List MoP} (h:Out A B W D bo q o) (hf:FlatO l T o):MpIs (Heap.nw A B D) o q:=by
 obtain ⟨f1,f2,f3,f4,f5⟩:=hf.len
 have hZ:(offB (blks q) (Heap.nw A B D)).le (Heap.nw A B D):=Qo5 _ _
 have hfr:∀ b ∈ blks q,B b=none:=fun b hb=>(h.fr b hb).1
 refine ⟨⟨h.nm.1,by omega⟩,⟨?_,?_⟩,?_,?_,?_,?_⟩
 ·rw [h.nm.2.1,h.nm.2.2]; exact SlIs.nil
 ·rw [h.nm.2.1]; exact Nat.le_refl _
 ·obtain ⟨xs, g⟩ := h.gt.is (fun b hb => hfr b (List.mem_append_left _ hb)) hZ (fun _ => rfl) (by omega) TpO.le (by omega)
  exact ⟨xs,g.1,g.2.1,g.2.2.1,g.2.2.2.1,fun i v x hv hx=>(g.2.2.2.2 i v x hv hx).1⟩
 ·obtain ⟨xs, g⟩ := h.gr.is (fun b hb => hfr b (List.mem_append_right _ (List.mem_append_left _ hb))) hZ (fun _ => rfl) (by omega) RpO.le (by omega)
  exact ⟨xs,g.1,g.2.1,g.2.2.1,g.2.2.2.1,fun i v x hv hx=>(g.2.2.2.2 i v x hv hx).1⟩
 ·obtain ⟨xs, g⟩ := h.gu.is (fun b hb => hfr b (List.mem_append_right _ (List.mem_append_right _ (List.mem_append_left _ hb)))) hZ (fun _ => rfl) (by omega) UpO.le (by omega)
  exact ⟨xs,g.1,g.2.1,g.2.2.1,g.2.2.2.1,fun i v x hv hx=>(g.2.2.2.2 i v x hv hx).1⟩
 ·exact h.gn.is (fun b hb=>hfr b (List.mem_append_right _ (List.mem_append_right _ (List.mem_append_right _ hb)))) hZ (fun _=>rfl) (by omega) (fun h h'=>NpIs.le h h') (by omega)
theorem Qt5 {R:α→β→Prop} {b:Nat} {m:Bool} {xs:List β} {cs:List Value} {n:Nat} (hb:A b=some (m,.row cs)) (hc:cs=xs.flatMap c) (hn:n=xs.length) (hl:l.length=xs.length) (h1:l.length≤140737488355328) (hR:∀ (i:Nat) (v:α) (x:β),l[i]? = some v→xs[i]? = some x→R v x):SlIs R c A (Sl.of (some (b,0)) n n) l:=by
 subst hc; subst hn
 exact ⟨xs,.inr ⟨rfl,_,rfl,Qg6 hb fun j v hj=>by rw [Nat.zero_add]; exact hj⟩,rfl,hl,h1,hR⟩
/-- a list of one -/
theorem Qmg {R:α→β→Prop} {b:Nat} {m:Bool} {v:α} {x:β} (hb:A b=some (m,.row (c x++[]))) (h:R v x):SlIs R c A (Sl.of (some (b,0)) 1 1) [v]:=by
 refine Qt5 (xs:=[x]) hb (by simp) rfl rfl (by simp) fun i v' x' hv hx=>?_
 cases i with
 | zero=>simp at hv hx; subst hv; subst hx; exact h
 | succ i=>simp at hv
theorem Qvv {R:α→β→Prop} {b:Nat} {m:Bool} {v w:α} {x y:β} (hb:A b=some (m,.row (c x++c y++[]))) (h:R v x) (h2:R w y):SlIs R c A (Sl.of (some (b,0)) 2 2) [v,w]:=by
 refine Qt5 (xs:=[x,y]) hb (by simp) rfl rfl (by simp) fun i v' x' hv hx=>?_
 match i with
 | 0=>simp at hv hx; subst hv; subst hx; exact h
 | 1=>simp at hv hx; subst hv; subst hx; exact h2
 | i+2=>simp at hv
end
end
section
open Go Go.Proofs
def fdA:FdV:=⟨[120],.mk [105,110,116] []⟩
def exA:ExP:=.mk (0,0) 2 [88] V0 []
def gA:MoP:=⟨[103,114,97,112,104],[⟨(0,0),[98,97,115,101]⟩],[],[⟨(0,0),false,false,[112],[fdA]⟩],[⟨(0,0),[112],[exA],[[]],[⟨(0,0),1,[98,97,115,101,46,101],[exA]⟩]⟩],[]⟩
def bA:MoP:=⟨[98,97,115,101],[],[],[⟨(0,0),true,true,[101],[fdA]⟩],[],[]⟩
def oA:MoP:=⟨[103,114,97,112,104],[],[],[⟨(0,0),false,false,[103,114,97,112,104,46,112],[fdA]⟩,⟨(0,0),true,true,[98,97,115,101,46,101],[fdA]⟩],[⟨(0,0),[103,114,97,112,104,46,112],[exA],[[]],[⟨(0,0),1,[98,97,115,101,46,101],[exA]⟩]⟩],[]⟩
theorem flatA:flatF [gA,bA]=.ok oA:=by rfl
theorem Qm7 {b:Bool} {X Y:Prop} (h:b=true) (k:X):ift b X Y:=ift.of (fun _=>k) (fun h'=>by rw [h] at h'; cases h')
theorem Qu4 {A:Heap}:FdIs A fdA ⟨[120],⟨[105,110,116],Sl.nil⟩⟩:=⟨⟨rfl,by decide⟩,Qej.2 ⟨⟨rfl,by decide⟩,SlIs.nil⟩⟩
theorem Qvd {A:Heap}:EpIs A exA ⟨2,Qo.zero,[88],Qe.zero,Sl.nil⟩:=QjV.2 ⟨rfl,rfl,⟨rfl,by decide⟩,QvI,V0_B,SlIs.nil⟩
theorem Qqv {C:Ctx} {H:Heap} (hT:MaxC C) {K:Bool→Heap→Prop} (k:∀ D,H.le D→K true D):QfL C K H:=by
 apply QnG
 unfold Qkt
 refine box1N fun b1 H2 n1 _ l1 h1=>box1N fun b3 H4 n3 _ l3 h3=>box1N fun b5 H6 n5 _ l5 h5=>box1N fun b7 H8 n7 _ l7 h7=>box1N fun b9 H10 n9 _ l9 h9=>box1N fun b11 H12 n11 _ l11 h11=>box1N fun b13 H14 n13 _ l13 h13=>box1N fun b15 H16 n15 _ l15 h15=>box1N fun b17 H18 n17 _ l17 h17=>?_
 have hF:H.le H18:=l1.trans (l3.trans (l5.trans (l7.trans (l9.trans (l11.trans (l13.trans (l15.trans l17)))))))
 have h15:=l17 _ _ h15
 have h13:=l17 _ _ (l15 _ _ h13)
 have h11:=l17 _ _ (l15 _ _ (l13 _ _ h11))
 have h9:=l17 _ _ (l15 _ _ (l13 _ _ (l11 _ _ h9)))
 have h7:=l17 _ _ (l15 _ _ (l13 _ _ (l11 _ _ (l9 _ _ h7))))
 have h5:=l17 _ _ (l15 _ _ (l13 _ _ (l11 _ _ (l9 _ _ (l7 _ _ h5)))))
 have h3:=l17 _ _ (l15 _ _ (l13 _ _ (l11 _ _ (l9 _ _ (l7 _ _ (l5 _ _ h3))))))
 have h1:=l17 _ _ (l15 _ _ (l13 _ _ (l11 _ _ (l9 _ _ (l7 _ _ (l5 _ _ (l3 _ _ h1)))))))
 have f1:FdL H18 (Sl.of (some (b1,0)) 1 1) [fdA]:=Qmg h1 Qu4
 have e3:EpL H18 (Sl.of (some (b3,0)) 1 1) [exA]:=Qmg h3 Qvd
 have i5:IpL H18 (Sl.of (some (b5,0)) 1 1) [⟨(0,0),[98,97,115,101]⟩]:=Qmg (R:=IpIs) h5 ⟨rfl,rfl,by decide⟩
 have r7:RpL H18 (Sl.of (some (b7,0)) 1 1) [⟨(0,0),false,false,[112],[fdA]⟩]:=Qmg h7 ⟨rfl,rfl,rfl,⟨rfl,by decide⟩,f1⟩
 have s9:StL H18 (Sl.of (some (b9,0)) 1 1) [[]]:=Qmg (c:=fun x:Str=>[sv x]) (x:=[]) h9 ⟨rfl,by decide⟩
 have b11':LpL H18 (Sl.of (some (b11,0)) 1 1) [⟨(0,0),1,[98,97,115,101,46,101],[exA]⟩]:=Qmg h11 ⟨rfl,rfl,⟨rfl,by decide⟩,e3⟩
 have u13:UpL H18 (Sl.of (some (b13,0)) 1 1) gA.ru:=Qmg h13 ⟨rfl,⟨rfl,by decide⟩,e3,s9,b11'⟩
 have r15:RpL H18 (Sl.of (some (b15,0)) 1 1) bA.re:=Qmg h15 ⟨rfl,rfl,rfl,⟨rfl,by decide⟩,f1⟩
 have hs:MpL H18 (Sl.of (some (b17,0)) 2 2) [gA,bA]:=Qvv h17 ⟨⟨rfl,by decide⟩,⟨i5,Nat.le_refl _⟩,SlIs.nil,r7,u13,SlIs.nil⟩ ⟨⟨rfl,by decide⟩,⟨SlIs.nil,Nat.le_refl _⟩,SlIs.nil,r15,SlIs.nil,SlIs.nil⟩
 clear h1 h3 h5 h7 h9 h11 h13 h15 h17 f1 e3 i5 r7 s9 b11' u13 r15 n1 n3 n5 n7 n9 n11 n13 n15 n17 l1 l3 l5 l7 l9 l11 l13 l15 l17
 refine QlG hT hs (Heap.le.refl _) (fun m hm=>by
  simp only [List.mem_cons,List.mem_nil_iff,or_false] at hm
  rcases hm with rfl | rfl <;> decide) (fun D B W bo q o ho hB hW hO=>?_) (fun D e he=>by rw [flatA] at he; cases he)
 have e:o=oA:=by rw [flatA] at ho; injection ho with ho; exact ho.symm
 subst e
 obtain ⟨T,hT'⟩:=Qr6 ho
 obtain ⟨⟨m1,_⟩,⟨m2,_⟩,m3,m4,m5,m6⟩:=hO.is hT'
 have hHD:=hF.trans (hW.trans hO.wle)
 have hN:(Heap.nw H18 B D).le D:=QpD hO.al
 refine box1N fun b23 H24 n23 _ l23 h23=>box1N fun b25 H26 n25 _ l25 h25=>?_
 have n2:b23≠b25:=fun e=>by rw [e] at h23; rw [h23] at n25; cases n25
 have nb:D b25=none:=l23.none n25
 refine ⟨_,l25 _ _ h23,by show 0+6≤6; omega,_,by rw [Heap.put_ne _ _ _ (Ne.symm n2)]; exact h25,by show 0+3≤3; omega,?_⟩
 rw [QcD (by rfl),QcD (by rfl)]
 have g23:((H26.put b23 (.row (Qa.c q))).put b25 (.row (Qi.c ⟨[],psP (0,0)⟩))) b23=some (true,.row (Qa.c q)):=by rw [Heap.put_ne _ _ _ n2]; exact Heap.put_same ..
 have g25:((H26.put b23 (.row (Qa.c q))).put b25 (.row (Qi.c ⟨[],psP (0,0)⟩))) b25=some (true,.row (Qi.c ⟨[],psP (0,0)⟩)):=Heap.put_same ..
 have hDG:D.le ((H26.put b23 (.row (Qa.c q))).put b25 (.row (Qi.c ⟨[],psP (0,0)⟩))):=Qbg (Qbg (l23.trans l25) n23) nb
 show jn _ _
 rw [show (H26.put (b23,0).1 (GO.row (Qa.c q))).put (b25,0).1 (GO.row (Qi.c ⟨[],psP (0,0)⟩))=(H26.put b23 (.row (Qa.c q))).put b25 (.row (Qi.c ⟨[],psP (0,0)⟩)) from rfl]
 generalize (H26.put b23 (.row (Qa.c q))).put b25 (.row (Qi.c ⟨[],psP (0,0)⟩))=G at *
 have hNG:=hN.trans hDG
 refine jn.inl (Qm7 rfl (bxT (c:=Qi.c) g25 ?_))
 refine jn.inl (Qm7 (Qk9.2 rfl) (fS g23 (j:=0) rfl ?_))
 rw [m1]
 refine jn.inl (Qm7 rfl (fL g23 (j:=1) rfl ?_))
 refine jn.inl (Qm7 (by rw [SlIs.len m2]; rfl) (fL g23 (j:=3) rfl ?_))
 refine jn.inl (Qm7 (by rw [SlIs.len m4]; rfl) (fL g23 (j:=3) rfl ?_))
 refine SlIs.at_ m4 hNG (z:=6) (fun _=>rfl) (by omega) (i:=0) rfl (by decide) fun p y hy hr=>⟨y.Name,hr 4 _ rfl,?_⟩
 refine jn.inl (Qm7 (by rw [hy.2.2.2.1.1]; rfl) (fL g23 (j:=3) rfl ?_))
 refine SlIs.at_ m4 hNG (z:=6) (fun _=>rfl) (by omega) (i:=1) rfl (by decide) fun p y hy hr=>⟨y.Name,hr 4 _ rfl,?_⟩
 refine jn.inl (Qm7 (by rw [hy.2.2.2.1.1]; rfl) (fL g23 (j:=3) rfl ?_))
 refine SlIs.at_ m4 hNG (z:=6) (fun _=>rfl) (by omega) (i:=1) rfl (by decide) fun p y hy hr=>⟨y.Input,hr 3 _ rfl,?_⟩
 refine jn.inl (Qm7 (by rw [hy.2.2.1]; rfl) (fL g23 (j:=4) rfl ?_))
 refine jn.inl (Qm7 (by rw [SlIs.len m5]; rfl) (fL g23 (j:=4) rfl ?_))
 refine SlIs.at_ m5 hNG (z:=6) (fun _=>rfl) (by omega) (i:=0) rfl (by decide) fun p y hy hr=>⟨y.Rel,hr 2 _ rfl,?_⟩
 refine jn.inl (Qm7 (by rw [hy.2.1.1]; rfl) (fL g23 (j:=4) rfl ?_))
 refine SlIs.at_ m5 hNG (z:=6) (fun _=>rfl) (by omega) (i:=0) rfl (by decide) fun p y hy hr=>⟨y.Body,hr 5 _ rfl,?_⟩
 refine SlIs.at_ hy.2.2.2.2 hNG (z:=5) (fun _=>rfl) (by omega) (i:=0) rfl (by decide) fun p y hy hr=>⟨y.Rel,hr 3 _ rfl,?_⟩
 refine jn.inl (Qm7 (by rw [hy.2.2.1.1]; rfl) (fL g23 (j:=4) rfl ?_))
 refine SlIs.at_ m5 hNG (z:=6) (fun _=>rfl) (by omega) (i:=0) rfl (by decide) fun p y hy hr=>⟨y.Args,hr 3 _ rfl,?_⟩
 have hk:=k G (hHD.trans hDG)
 dsimp only
 rw [SlIs.len hy.2.2.1]
 exact hk
end
section
open Go Go.Proofs
def szM (m:MoP):Nat:=20+10*(m.im.length+m.ty.length+m.re.length+m.ru.length+m.ne.length)
theorem QpR {α:Type} {f:α→Nat} (hf:∀ v,1≤f v):∀ l:List α,l.length≤sL f l
 | []=>Nat.zero_le _
 | v::l=>by have:=QpR hf l; have:=hf v; simp only [sL,List.length_cons]; omega
theorem Qsk (m:MoP):m.im.length≤moSz m.e∧m.ty.length≤moSz m.e∧m.re.length≤moSz m.e∧m.ru.length≤moSz m.e∧m.ne.length≤moSz m.e:=by
 have h1:=QpR (f:=tdSz) (fun v=>by unfold tdSz; omega) (m.ty.map TdP.e)
 have h2:=QpR (f:=rdSz) (fun v=>by unfold rdSz; omega) (m.re.map RdP.e)
 have h3:=QpR (f:=ruSz) (fun v=>by unfold ruSz; omega) (m.ru.map RuP.e)
 have h4:=QpR (f:=neSz) (fun v=>by unfold neSz; omega) (m.ne.map NeP.e)
 simp only [List.length_map] at h1 h2 h3 h4
 unfold moSz MoP.e
 simp only [List.length_map]
 refine ⟨by omega,by omega,by omega,by omega,by omega⟩
section
variable {C:Ctx} {A H:Heap}
theorem Qtg (hT:MaxC C) (hFm:FmtC C) {l:List MoP} {s:Sl} {K:Bool→Heap→Prop} (hs:MpL A s l) (hA:A.le H) (hz:∀ m ∈ l,moSz m.e≤16777216) (hl:l.length≤16777216)
 (k:∀ b D,H.le D→(b=false→sL szM l < 5000∧∀ m ∈ l,moD m.e≤64)→K b D):Qic C s K H:=by
 have hlen:=SlIs.len hs
 apply QnH
 unfold Qku
 refine ⟨fun y D=>H.le D∧∃ (i:Nat) (n:Int),y=(n,(i:Int))∧i≤l.length∧(sL szM (l.take i):Int)≤n∧n≤10000000000000∧∀ m ∈ l.take i,moD m.e≤64,fun y _=>l.length - y.2.toNat,⟨Heap.le.refl _,0,0,rfl,Nat.zero_le _,by simp [sL],by omega,fun m hm=>by simp at hm⟩,?_⟩
 rintro _ D ⟨hD,i,n,rfl,hi,hn,hn2,hd⟩
 rw [hlen]
 refine ift.of (fun h=>?_) (fun h=>?_)
 ·rw [Bool.and_eq_true] at h
  have hil:i < l.length:=by have:=of_decide_eq_true h.1; omega
  have hn5:n < 5000:=of_decide_eq_true h.2
  have hzi:=hz _ (List.getElem_mem hil)
  have hlens:=Qsk l[i]
  have hDz:=Qvm l[i].e
  have htk:=QuQ (f:=szM) hil
  have hmt:∀ m ∈ l.take (i+1),m ∈ l.take i∨m=l[i]:=fun m hm=>by
   rw [List.take_add_one,List.getElem?_eq_getElem hil,Option.toList_some] at hm
   rcases List.mem_append.1 hm with h | h
   ·exact .inl h
   ·exact .inr (by simpa using h)
  refine SlIs.ld hs (hA.trans hD) (z:=6) (fun _=>rfl) (by omega) rfl hil fun y hy=>?_
  have hmt2:=fun (x:Qa) (hx:MpIs A l[i] x)=>QuA (MpIs.e hx)
  refine Qs1 hT hFm (MpIs.e hy) (hA.trans hD) (by omega) (fun h0=>?_) fun D2 hD2=>?_
  ·have:=hmt2 y hy (moC0 h0).2.1
   omega
  have htl:(if moC l[i].e=0 then moT l[i].e else []).length≤400000000000:=by
   split
   ·rename_i h0
    have:=hmt2 y hy (moC0 h0).2.1
    omega
   ·simp
  have hAD:=hA.trans (hD.trans hD2)
  have hHD:=hD.trans hD2
  generalize (if moC l[i].e=0 then moT l[i].e else [])=tx at *
  refine ift.of (fun h=>k true D2 hHD (fun h=>by cases h)) (fun h=>?_)
  have hdp:moD l[i].e≤64:=by
   have h:moC l[i].e≠65:=by simpa using h
   unfold moC at h
   split at h
   ·exact absurd rfl h
   ·omega
  refine SlIs.at_ hs hAD (z:=6) (fun _=>rfl) (by omega) rfl hil fun p y1 hy1 hr=>⟨y1.Rules,hr 4 _ rfl,?_⟩
  dsimp only
  rw [SlIs.len hy1.2.2.2.2.1]
  refine SlIs.at_ hs hAD (z:=6) (fun _=>rfl) (by omega) rfl hil fun p y1 hy1 hr=>⟨y1.Types,hr 2 _ rfl,?_⟩
  dsimp only
  rw [SlIs.len hy1.2.2.1]
  refine SlIs.at_ hs hAD (z:=6) (fun _=>rfl) (by omega) rfl hil fun p y1 hy1 hr=>⟨y1.Rels,hr 3 _ rfl,?_⟩
  dsimp only
  rw [SlIs.len hy1.2.2.2.1]
  refine SlIs.at_ hs hAD (z:=6) (fun _=>rfl) (by omega) rfl hil fun p y1 hy1 hr=>⟨y1.Nevers,hr 5 _ rfl,?_⟩
  dsimp only
  rw [SlIs.len hy1.2.2.2.2.2]
  refine SlIs.at_ hs hAD (z:=6) (fun _=>rfl) (by omega) rfl hil fun p y1 hy1 hr=>⟨y1.Imports,hr 1 _ rfl,?_⟩
  dsimp only
  rw [SlIs.len hy1.2.1.1]
  unfold szM at htk
  generalize hm:l[i]=m at *
  rw [Q4 (x := (m.ru.length : Int) + (m.ty.length : Int)) (by omega) (by omega), Q4 (x := (m.ru.length : Int) + (m.ty.length : Int) + (m.re.length : Int)) (by omega) (by omega), Q4 (x := (m.ru.length : Int) + (m.ty.length : Int) + (m.re.length : Int) + (m.ne.length : Int)) (by omega) (by omega), Q4 (x := (m.ru.length : Int) + (m.ty.length : Int) + (m.re.length : Int) + (m.ne.length : Int) + (m.im.length : Int)) (by omega) (by omega),
   Q4 (x:=10*((m.ru.length:Int)+(m.ty.length:Int)+(m.re.length:Int)+(m.ne.length:Int)+(m.im.length:Int))) (by omega) (by omega),Q4 (x:=n+20) (by omega) (by omega),Q4 (x:=n+20+(tx.length:Int)) (by omega) (by omega),Q4 (x:=n+20+(tx.length:Int)+10*((m.ru.length:Int)+(m.ty.length:Int)+(m.re.length:Int)+(m.ne.length:Int)+(m.im.length:Int))) (by omega) (by omega),Q4 (by omega) (by omega)]
  refine ⟨⟨hHD,i+1,_,rfl,by omega,?_,by omega,fun m' hm'=>?_⟩,by first | omega | (dsimp only; omega)⟩
  ·change ((sL (fun m : MoP => 20 + 10 * (m.im.length + m.ty.length + m.re.length + m.ru.length + m.ne.length)) (l.take (i + 1)) : Nat) : Int) ≤ _
   have hn:((sL (fun m:MoP=>20+10*(m.im.length+m.ty.length+m.re.length+m.ru.length+m.ne.length)) (l.take i):Nat):Int)≤n:=hn
   have htk:sL (fun m:MoP=>20+10*(m.im.length+m.ty.length+m.re.length+m.ru.length+m.ne.length)) (l.take (i+1))=sL (fun m:MoP=>20+10*(m.im.length+m.ty.length+m.re.length+m.ru.length+m.ne.length)) (l.take i)+(20+10*(m.im.length+m.ty.length+m.re.length+m.ru.length+m.ne.length)):=htk
   omega
  ·rcases hmt m' hm' with h' | h'
   ·exact hd m' h'
   ·rw [h']; exact hdp
 ·refine k _ D hD fun hb => ?_
  have hn5:n < 5000:=by have:=of_decide_eq_false hb; dsimp only at this; omega
  have hie:i=l.length:=by
   rcases Bool.and_eq_false_iff.1 h with h | h
   ·have:=of_decide_eq_false h; dsimp only at this; omega
   ·have:=of_decide_eq_false h; dsimp only at this; omega
  subst hie
  rw [List.take_length] at hn hd
  exact ⟨by omega,hd⟩
end
end
section
open Go Go.Proofs
section
variable {C:Ctx} {A H:Heap}
end
end
section
open Go Go.Proofs
section
variable {C:Ctx} {A H:Heap}
end
end
section
open Go Go.Proofs
theorem QoH:∀ {n s:Str},n.contains 46=false→cutD (dotS n s)=some (n,s)
 | [],s,_=>by simp [dotS,cutD]
 | c::t,s,h=>by
  rw [List.contains_cons,Bool.or_eq_false_iff] at h
  have hc:c≠46:=fun e=>by rw [e] at h; simp at h
  have ih:=QoH (n:=t) (s:=s) h.2
  simp only [dotS] at ih
  simp only [dotS,List.cons_append,cutD,if_neg hc,ih]
  rfl
theorem QuB {s:Str} (h:namS s=true):s.contains 46=false:=by
 unfold namS nameS at h
 simp only [Bool.and_eq_true,List.all_eq_true] at h
 cases hc:s.contains 46 with
 | false=>rfl
 | true=>exact absurd (h.1.2 46 (List.contains_iff_mem.1 hc)) (by decide)
section
variable {T:Tl} {m:MoP}
end
end
section
open Go Go.Proofs
section
variable {T:Tl} {m:MoP}
end
end
section
open Go Go.Proofs
section
variable {α β:Type} {c:β→List Value} {z:Nat} {D D2:Heap} {s:Sl} {xs:List β}
theorem QuG (h:Own D z s (xs.flatMap c)) (hz:∀ x,(c x).length=z) (hz0:0 < z):s.len=xs.length:=by
 have:=h.1
 rw [QeY hz] at this
 have:=Nat.eq_of_mul_eq_mul_right hz0 this
 omega
end
section
variable {C:Ctx} {A H:Heap}
end
end
section
open Go Go.Proofs
theorem QoS {β:Type} {c:β→List Value} (h:∀ x,∀ u ∈ c x,u.oneCell' = true) (xs:List β):∀ u ∈ xs.flatMap c,u.oneCell' = true:=fun u hu=>by
 obtain ⟨x,_,hx⟩:=List.mem_flatMap.1 hu
 exact h x u hx
section
variable {C:Ctx} {H:Heap}
end
end
section
open Go Go.Proofs
/-- the same answers -/
def LkE (T S:Tl):Prop:=∀ k,lkL k T=lkL k S
section
variable {T S:Tl} {m:MoP}
theorem Qo0 (h:LkE T S) {s:Str} {k:Int}:meanF T m s k=meanF S m s k:=by unfold meanF; rw [h]
theorem QvT (h:LkE T S) {n:Str}:tnF T m n=tnF S m n:=by unfold tnF; rw [Qo0 h]
mutual
theorem QvC (h:LkE T S):∀ v,tyF T m v=tyF S m v
 | .mk n a=>by rw [tyF,tyF,QvT h,Qt8 h a]
theorem Qt8 (h:LkE T S):∀ l,tysF T m l=tysF S m l
 | []=>rfl
 | v::l=>by rw [tysF,tysF,QvC h v,Qt8 h l]
end
theorem Qvf (h:LkE T S):fdF T m=fdF S m:=by funext f; unfold fdF; rw [QvC h]
theorem QvK (h:LkE T S):cnF T m=cnF S m:=by funext f; unfold cnF; rw [Qvf h]
theorem QvS (h:LkE T S):tdF T m=tdF S m:=by funext f; unfold tdF; rw [QvK h]
theorem QvQ (h:LkE T S):rdF T m=rdF S m:=by funext f; unfold rdF; rw [Qvf h]
mutual
theorem Qve (h:LkE T S):∀ v,exF T m v=exF S m v
 | .mk p k n v a=>by
  rw [exF,exF,QtP h a]
  unfold enF
  rw [Qo0 h]
theorem QtP (h:LkE T S):∀ l,exsF T m l=exsF S m l
 | []=>rfl
 | v::l=>by rw [exsF,exsF,Qve h v,QtP h l]
end
theorem QtO (h:LkE T S):exF T m=exF S m:=funext (Qve h)
theorem Qvl (h:LkE T S):liF T m=liF S m:=by funext x; unfold liF lnF; rw [QtO h,Qo0 h]
theorem QvR (h:LkE T S):ruF T m=ruF S m:=by funext x; unfold ruF; rw [QtO h,Qo0 h,Qvl h]
theorem QvM (h:LkE T S):neF T m=neF S m:=by funext x; unfold neF; rw [Qvl h]
theorem QuY (h:LkE T S) {o:MoP}:usedF T o m=usedF S o m:=by unfold usedF; rw [QvS h,QvQ h,QvR h,QvM h]
end
def Lk0 (T:Tl) (n:Str):Prop:=∀ k,k.1=n→lkL k T=none
theorem Qnf {κ α : Type} [DecidableEq κ] {k : κ} : ∀ {T S : List (κ × α)}, lkL k (T ++ S) = match lkL k T with | some x => some x | none => lkL k S
 | [],S=>rfl
 | p::T,S=>by
  simp only [List.cons_append,lkL]
  split
  ·rfl
  ·exact Qnf
theorem Qpb {T S:Tl} {k:Ky} {b:Bool} (h:lkL k T=none):tellF (T++S) k b=((tellF S k b).1,T++(tellF S k b).2):=by
 unfold tellF
 rw [Qnf,h]
 dsimp only
 cases lkL k S with
 | none=>simp
 | some x=>rfl
theorem Qvb {m:Str} {b:Bool} {T:Tl} (h:Lk0 T m):∀ {l:List CnV} {a:Bool} {S:Tl},csNm m b (a,T++S) l=((csNm m b (a,S) l).1,T++(csNm m b (a,S) l).2)
 | [],a,S=>rfl
 | c::l,a,S=>by
  rw [csNm,csNm]
  dsimp only
  rw [Qpb (h _ rfl)]
  dsimp only
  rw [Qvb h]
theorem QvU {m:Str} {t:TdP} {T S:Tl} (h:Lk0 T m):tyNm m t (T++S)=((tyNm m t S).1,T++(tyNm m t S).2):=by
 unfold tyNm
 rw [Qpb (h _ rfl)]
 dsimp only
 rw [Qvb h]
theorem Qt0 {m : Str} {T : Tl} (h : Lk0 T m) : ∀ {l : List TdP} {S : Tl}, namesTy m l (T ++ S) = match namesTy m l S with | .error e => .error e | .ok R => .ok (T ++ R)
 | [],S=>rfl
 | t::l,S=>by
  rw [namesTy,namesTy,QvU h]
  dsimp only
  split
  ·rfl
  ·split
   ·rfl
   ·exact Qt0 h
theorem QtX {m : Str} {T : Tl} (h : Lk0 T m) : ∀ {l : List RdP} {S : Tl}, namesRe m l (T ++ S) = match namesRe m l S with | .error e => .error e | .ok R => .ok (T ++ R)
 | [],S=>rfl
 | t::l,S=>by
  rw [namesRe,namesRe,Qpb (h _ rfl)]
  dsimp only
  split
  ·rfl
  ·split
   ·rfl
   ·exact QtX h
theorem QtV {m : Str} {T : Tl} (h : Lk0 T m) : ∀ {l : List NeP} {S : Tl}, namesNe m l (T ++ S) = match namesNe m l S with | .error e => .error e | .ok R => .ok (T ++ R)
 | [],S=>rfl
 | t::l,S=>by
  rw [namesNe,namesNe,Qpb (h _ rfl)]
  dsimp only
  split
  ·rfl
  ·exact QtV h
theorem Qvn {m:MoP} {T:Tl} (h:Lk0 T m.n):namesF m T=match namesF m [] with | .error e=>.error e | .ok R=>.ok (T++R):=by
 unfold namesF
 have e:=Qt0 (l:=m.ty) (S:=[]) h
 rw [List.append_nil] at e
 rw [e]
 cases namesTy m.n m.ty [] with
 | error e=>rfl
 | ok R=>
  dsimp only
  rw [QtX h]
  cases namesRe m.n m.re R with
  | error e=>rfl
  | ok R2=>
   dsimp only
   rw [QtV h]
end
section
open Go Go.Proofs
def OnlyK (m:Str) (S:Tl):Prop:=∀ p ∈ S,p.1.1=m
theorem QlE {m:Str} {S:Tl} {k:Ky} {b:Bool} (h:OnlyK m S) (hk:k.1=m):OnlyK m (tellF S k b).2:=by
 unfold tellF
 split
 ·exact h
 ·intro p hp
  rcases List.mem_append.1 hp with hp | hp
  ·exact h p hp
  ·have : p = (k, b) := by simpa using hp
   rw [this]; exact hk
theorem QrQ {m:Str} {b:Bool}:∀ {l:List CnV} {s:Bool×Tl},OnlyK m s.2→OnlyK m (csNm m b s l).2
 | [],s,h=>h
 | c::l,s,h=>by rw [csNm]; exact QrQ (QlE h rfl)
theorem QuV {m:Str} {t:TdP} {S:Tl} (h:OnlyK m S):OnlyK m (tyNm m t S).2:=QrQ (QlE h rfl)
theorem QqV {m:Str}:∀ {l:List TdP} {S R:Tl},OnlyK m S→namesTy m l S=.ok R→OnlyK m R
 | [],S,R,h,e=>by rw [namesTy] at e; injection e with e; subst e; exact h
 | t::l,S,R,h,e=>by
  rw [namesTy] at e
  split at e
  ·cases e
  ·split at e
   ·cases e
   ·exact QqV (QuV h) e
theorem QqU {m:Str}:∀ {l:List RdP} {S R:Tl},OnlyK m S→namesRe m l S=.ok R→OnlyK m R
 | [],S,R,h,e=>by rw [namesRe] at e; injection e with e; subst e; exact h
 | t::l,S,R,h,e=>by
  rw [namesRe] at e
  split at e
  ·cases e
  ·split at e
   ·cases e
   ·exact QqU (QlE h rfl) e
theorem QqT {m:Str}:∀ {l:List NeP} {S R:Tl},OnlyK m S→namesNe m l S=.ok R→OnlyK m R
 | [],S,R,h,e=>by rw [namesNe] at e; injection e with e; subst e; exact h
 | t::l,S,R,h,e=>by
  rw [namesNe] at e
  split at e
  ·cases e
  ·exact QqT (QlE h rfl) e
theorem Qso {m:MoP} {R:Tl} (e:namesF m []=.ok R):OnlyK m.n R:=by
 unfold namesF at e
 split at e
 ·cases e
 ·rename_i T1 h1
  split at e
  ·cases e
  ·rename_i T2 h2
   exact QqT (QqU (QqV (fun p hp=>by cases hp) h1) h2) e
theorem Qst {m:Str} {S:Tl} (h:OnlyK m S) {k:Ky} (hk:k.1≠m):lkL k S=none:=QoX fun p hp e=>hk (by rw [← e]; exact h p hp)
/-- names told by modules whose names are apart -/
theorem QjX:∀ {l:List MoP} {T0:Tl},(∀ m ∈ l,Lk0 T0 m.n)→(l.map MoP.n).Nodup→
 ((∀ m ∈ l,∃ R,namesF m []=.ok R)→∃ T,namesAll l T0=.ok T)∧
 ∀ T,namesAll l T0=.ok T→(∀ m ∈ l,∃ R,namesF m []=.ok R)∧∀ k x,lkL k T=some x↔lkL k T0=some x∨∃ m ∈ l,∃ R,namesF m []=.ok R∧lkL k R=some x
 | [],T0,_,_=>⟨fun _=>⟨T0,rfl⟩,fun T e=>by
  rw [namesAll] at e; injection e with e; subst e
  exact ⟨fun m hm=>(by cases hm),fun k x=>(by simp)⟩⟩
 | m::l,T0,h0,hn=>by
  rw [List.map_cons,List.nodup_cons] at hn
  have hm0:=h0 m (List.mem_cons_self ..)
  have step:∀ R,namesF m []=.ok R→∀ x ∈ l,Lk0 (T0++R) x.n:=fun R hR x hx k hk=>by
   rw [Qnf,h0 x (List.mem_cons_of_mem _ hx) k hk]
   exact Qst (Qso hR) (by rw [hk]; exact fun e=>hn.1 (List.mem_map.2 ⟨x,hx,e⟩))
  refine ⟨fun hall=>?_,fun T e=>?_⟩
  ·obtain ⟨R,hR⟩:=hall m (List.mem_cons_self ..)
   rw [namesAll,Qvn hm0,hR]
   exact (QjX (step R hR) hn.2).1 fun x hx=>hall x (List.mem_cons_of_mem _ hx)
  ·rw [namesAll,Qvn hm0] at e
   cases hR:namesF m [] with
   | error er=>rw [hR] at e; cases e
   | ok R=>
    rw [hR] at e
    obtain ⟨g1,g2⟩:=(QjX (step R hR) hn.2).2 T e
    refine ⟨fun x hx=>?_,fun k x=>?_⟩
    ·rcases List.mem_cons.1 hx with rfl | hx
     ·exact ⟨R,hR⟩
     ·exact g1 x hx
    ·rw [g2 k x,Qnf]
     constructor
     ·rintro (h | ⟨x',hx',R',hR',h⟩)
      ·cases ht:lkL k T0 with
       | some v=>rw [ht] at h; exact .inl h
       | none=>rw [ht] at h; exact .inr ⟨m,List.mem_cons_self ..,R,hR,h⟩
      ·exact .inr ⟨x',List.mem_cons_of_mem _ hx',R',hR',h⟩
     ·rintro (h | ⟨x',hx',R',hR',h⟩)
      ·rw [h]; exact .inl rfl
      ·rcases List.mem_cons.1 hx' with rfl | hx'
       ·rw [hR] at hR'
        injection hR' with hR'
        subst hR'
        have hk:k.1=x'.n:=Classical.byContradiction fun hk=>by rw [Qst (Qso hR) hk] at h; cases h
        rw [hm0 k hk]; exact .inl h
       ·exact .inr ⟨x',hx',R',hR',h⟩
/-- in any order -/
theorem Qsn {l l':List MoP} {T:Tl} (hp:l.Perm l') (hn:(l.map MoP.n).Nodup) (h:namesAll l []=.ok T):∃ T',namesAll l' []=.ok T'∧LkE T T':=by
 have h0:∀ l:List MoP,∀ m ∈ l,Lk0 [] m.n:=fun _ _ _ _ _=>rfl
 have hn':(l'.map MoP.n).Nodup:=(hp.map MoP.n).nodup_iff.1 hn
 obtain ⟨g1,g2⟩:=(QjX (h0 l) hn).2 T h
 obtain ⟨T',hT'⟩:=(QjX (h0 l') hn').1 fun m hm=>g1 m (hp.mem_iff.2 hm)
 obtain ⟨k1,k2⟩:=(QjX (h0 l') hn').2 T' hT'
 refine ⟨T',hT',fun k=>?_⟩
 have:∀ x,lkL k T=some x↔lkL k T' = some x:=fun x=>by
  rw [g2 k x,k2 k x]
  constructor
  ·rintro (h | ⟨m,hm,h⟩)
   ·cases h
   ·exact .inr ⟨m,hp.mem_iff.1 hm,h⟩
  ·rintro (h | ⟨m,hm,h⟩)
   ·cases h
   ·exact .inr ⟨m,hp.mem_iff.2 hm,h⟩
 cases ha:lkL k T with
 | some x=>exact ((this x).1 ha).symm
 | none=>
  cases hb:lkL k T' with
  | none=>rfl
  | some x=>rw [(this x).2 hb] at ha; cases ha
inductive NR (l:List MoP) (a:Str):Str→Prop
 | refl:NR l a a
 | step {m:MoP} {x:ImP}:NR l a m.n→m ∈ l→x ∈ m.im→NR l a x.n
theorem NR.perm {l l':List MoP} (hp:∀ m,m ∈ l→m ∈ l') {a b:Str} (h:NR l a b):NR l' a b:=by
 induction h with
 | refl=>exact .refl
 | step _ hm hx ih=>exact .step ih (hp _ hm) hx
theorem Qm4 {l:List MoP} {s:Str} (h:findN l s < l.length):l[findN l s].n=s:=by
 induction l with
 | nil=>simp at h
 | cons m l ih=>
  by_cases hm:m.n=s
  ·simp only [findN,if_pos hm,List.getElem_cons_zero]; exact hm
  ·simp only [findN,if_neg hm,List.length_cons] at h ⊢
   simp only [List.getElem_cons_succ]
   exact ih (by omega)
theorem QqG {l:List MoP} (hn:(l.map MoP.n).Nodup) {i:Nat} (h:i < l.length):findN l l[i].n=i:=by
 have h1:=Qob h
 have h2:findN l l[i].n < l.length:=by omega
 have h3:=Qm4 h2
 refine Classical.byContradiction fun hne=>?_
 have hlt:findN l l[i].n < i:=by omega
 have:=List.pairwise_iff_getElem.1 hn (findN l l[i].n) i (by rw [List.length_map]; exact h2) (by rw [List.length_map]; exact h) hlt
 rw [List.getElem_map,List.getElem_map] at this
 exact this h3
end
section
open Go Go.Proofs
theorem QqF {l:List MoP} {s:Str}:findN l s < l.length↔s ∈ l.map MoP.n:=by
 induction l with
 | nil=>simp [findN]
 | cons m l ih=>
  by_cases hm:m.n=s
  ·simp only [findN,if_pos hm,List.length_cons,List.map_cons,List.mem_cons]
   exact ⟨fun _=>.inl hm.symm,fun _=>by omega⟩
  ·simp only [findN,if_neg hm,List.length_cons,List.map_cons,List.mem_cons]
   rw [Nat.add_lt_add_iff_right,ih]
   exact ⟨.inr,fun h=>h.resolve_left fun e=>hm e.symm⟩
theorem QvP {l:List MoP} (hf:Fnd l) {a j:Nat} (ha:a < l.length) (h:Rc l a j):∃ hj:j < l.length,NR l l[a].n l[j].n:=by
 induction h with
 | refl=>exact ⟨ha,.refl⟩
 | step _ hj ih=>
  obtain ⟨hi,ih⟩:=ih
  have hjl:=hf _ _ hj
  unfold adj at hj
  rw [List.getElem?_eq_getElem hi] at hj
  obtain ⟨x,hx,rfl⟩:=List.mem_map.1 hj
  refine ⟨hjl,?_⟩
  rw [Qm4 hjl]
  exact .step ih (List.getElem_mem hi) hx
theorem QvN {l:List MoP} (hn:(l.map MoP.n).Nodup) {a s:Str} (h:NR l a s):Rc l (findN l a) (findN l s):=by
 induction h with
 | refl=>exact .refl
 | step _ hm hx ih=>
  rename_i m x _
  obtain ⟨j,hj,rfl⟩:=List.mem_iff_getElem.1 hm
  rw [QqG hn hj] at ih
  refine .step ih ?_
  unfold adj
  rw [List.getElem?_eq_getElem hj]
  exact List.mem_map.2 ⟨x,hx,rfl⟩
theorem Qm8 {l:List MoP} {m:Str} {i:Nat}:∀ {r:List ImP},impB1 l m i r=none ↔ ∀ x ∈ r,reachF l (findN l x.n) i=false
 | []=>by simp [impB1]
 | x::r=>by
  simp only [impB1,List.mem_cons,forall_eq_or_imp]
  cases h:reachF l (findN l x.n) i with
  | true=>simp
  | false=>simp [Qm8 (r:=r)]
theorem QpB {l:List MoP}:∀ {r:List MoP} {i:Nat},impBf l i r=none ↔ ∀ k (h:k < r.length),∀ x ∈ r[k].im,reachF l (findN l x.n) (i+k)=false
 | [],i=>by simp [impBf]
 | m::r,i=>by
  simp only [impBf]
  cases h:impB1 l m.n i m.im with
  | some e=>
   refine ⟨fun h'=>by simp at h',fun h'=>?_⟩
   have:=(Qm8 (m:=m.n) (i:=i+0) (r:=m.im)).2 (h' 0 (by simp))
   rw [Nat.add_zero,h] at this; cases this
  | none=>
   have h0:=Qm8.1 h
   dsimp only
   rw [QpB (r:=r)]
   constructor
   ·intro h' k hk x hx
    cases k with
    | zero=>exact h0 x hx
    | succ k=>
     have:=h' k (by simpa using hk) x hx
     rw [show i+(k+1)=i+1+k by omega]; exact this
   ·intro h' k hk x hx
    have:=h' (k+1) (by simpa using hk) x hx
    rw [show i+1+k=i+(k+1) by omega]; exact this
/-- nobody comes back to itself -/
def Acyc (l:List MoP):Prop:=∀ m ∈ l,∀ x ∈ m.im,¬ NR l x.n m.n
theorem QpA {l:List MoP} (hn:(l.map MoP.n).Nodup) (hia:impA l l=none):impBf l 0 l=none↔Acyc l:=by
 have hf:=QqM hia
 rw [QpB]
 constructor
 ·intro h m hm x hx hr
  obtain ⟨k,hk,rfl⟩:=List.mem_iff_getElem.1 hm
  have h1:=h k hk x hx
  have h2:=QvN hn hr
  rw [QqG hn hk] at h2
  rw [Nat.zero_add,(Qj0 hf (Qjp hia _ hm x hx)).2 h2] at h1
  cases h1
 ·intro h k hk x hx
  rw [Nat.zero_add]
  have hlt:=Qjp hia _ (List.getElem_mem hk) x hx
  cases hr:reachF l (findN l x.n) k with
  | false=>rfl
  | true=>
   obtain ⟨_,h2⟩:=QvP hf hlt ((Qj0 hf hlt).1 hr)
   rw [Qm4 hlt] at h2
   exact absurd h2 (h _ (List.getElem_mem hk) x hx)
theorem Qod {l l':List MoP} {m:Str} (h:∀ s,findN l s < l.length→findN l' s < l'.length):∀ {r:List ImP} {ps:List Str},impA1 l m ps r=none→impA1 l' m ps r=none
 | [],ps,_=>rfl
 | x::r,ps,e=>by
  simp only [impA1] at e ⊢
  split at e
  ·cases e
  ·rename_i h1
   have:=h x.n (by omega)
   rw [if_neg (by omega)]
   split at e
   ·cases e
   ·rename_i h2
    rw [if_neg h2]
    exact Qod h e
theorem QoU {l:List MoP}:∀ {r:List MoP},impA l r=none ↔ ∀ m ∈ r,impA1 l m.n [] m.im=none
 | []=>by simp [impA]
 | m::r=>by
  simp only [impA,List.mem_cons,forall_eq_or_imp]
  cases h:impA1 l m.n [] m.im with
  | some e=>simp
  | none=>simp [QoU (r:=r)]
theorem Qoo:∀ {l:List MoP} {ns:List Str},(∀ m ∈ l,moC m.e=0)→(l.map MoP.n).Nodup→(∀ m ∈ l,m.n ∉ ns)→singleF ns l=none
 | [],ns,_,_,_=>rfl
 | m::l,ns,h1,h2,h3=>by
  rw [List.map_cons,List.nodup_cons] at h2
  simp only [singleF]
  rw [if_neg (by have:=h1 m (List.mem_cons_self ..); omega),if_neg (by rw [List.contains_iff_mem]; exact h3 m (List.mem_cons_self ..))]
  refine Qoo (fun x hx=>h1 x (List.mem_cons_of_mem _ hx)) h2.2 fun x hx hm=>?_
  rcases List.mem_append.1 hm with hm | hm
  ·exact h3 x (List.mem_cons_of_mem _ hx) hm
  ·have : x.n = m.n := by simpa using hm
   exact h2.1 (List.mem_map.2 ⟨x,hx,this⟩)
theorem Qj2 {α:Type} {f:MoP→List α} {l l':List MoP} (h:l.Perm l'):total f l=total f l':=by
 induction h with
 | nil=>rfl
 | cons x _ ih=>simp only [total,ih]
 | swap x y l=>simp only [total]; omega
 | trans _ _ h1 h2=>rw [h1,h2]
def mo0:MoP:=⟨[],[],[],[],[],[]⟩
def upF (T:Tl) (m:MoP):MoP:=match usedF T mo0 m with
 | .ok p=>p
 | .error _=>mo0
theorem Qq7 {T:Tl} {o m o':MoP}:usedF T o m=.ok o' ↔ (∃ p,usedF T mo0 m=.ok p)∧o' = ⟨o.n,o.im,o.ty++(upF T m).ty,o.re++(upF T m).re,o.ru++(upF T m).ru,o.ne++(upF T m).ne⟩:=by
 unfold upF
 unfold usedF
 cases mpE (tdF T m) m.ty with
 | error q=>simp
 | ok a => cases mpE (rdF T m) m.re with
  | error q=>simp
  | ok b => cases mpE (ruF T m) m.ru with
   | error q=>simp
   | ok c => cases mpE (neF T m) m.ne with
    | error q=>simp
    | ok d=>
     simp only [mo0,List.nil_append,Except.ok.injEq,exists_eq',true_and]
     exact eq_comm
theorem Qj3 {T : Tl} : ∀ {l : List MoP} {o o' : MoP}, usedAll T o l = .ok o' ↔ (∀ m ∈ l, ∃ p, usedF T mo0 m = .ok p) ∧ o' = ⟨o.n, o.im, o.ty ++ l.flatMap fun m => (upF T m).ty, o.re ++ l.flatMap fun m => (upF T m).re, o.ru ++ l.flatMap fun m => (upF T m).ru, o.ne ++ l.flatMap fun m => (upF T m).ne⟩
 | [],o,o'=>by
  simp only [usedAll,Except.ok.injEq,List.flatMap_nil,List.append_nil,List.not_mem_nil,false_implies,implies_true,true_and]
  exact eq_comm
 | m::l,o,o'=>by
  simp only [usedAll,List.mem_cons,forall_eq_or_imp,List.flatMap_cons]
  cases h:usedF T o m with
  | error q=>
   refine ⟨fun e=>(by cases e),fun ⟨⟨⟨p,hp⟩,_⟩,_⟩=>?_⟩
   rw [Qq7.2 ⟨⟨p,hp⟩,rfl⟩] at h; cases h
  | ok o1=>
   obtain ⟨hp,rfl⟩:=Qq7.1 h
   dsimp only
   rw [Qj3 (l:=l)]
   simp only [List.append_assoc,hp,true_and]
theorem QvF {T S:Tl} (h:LkE T S) (m:MoP):usedF T mo0 m=usedF S mo0 m∧upF T m=upF S m:=by
 unfold upF
 rw [QuY h]
 exact ⟨rfl,rfl⟩
theorem QtZ {m:Str}:∀ {l:List RdP} {T R:Tl},namesRe m l T=.ok R→(l.map RdP.n).Nodup∧∀ x ∈ l,lkL ((m,x.n,2):Ky) T=none
 | [],T,R,_=>by simp
 | x::l,T,R,h=>by
  rw [namesRe] at h
  split at h
  ·cases h
  ·rename_i h1
   split at h
   ·cases h
   ·have h2 : lkL ((m, x.n, 2) : Ky) T = none := by
     unfold tellF at h1
     cases hk:lkL ((m,x.n,2):Ky) T with
     | none=>rfl
     | some v=>rw [hk] at h1; simp at h1
    have e:tellF T (m,x.n,2) x.b=(true,T++[((m,x.n,2),x.b)]):=by unfold tellF; rw [h2]
    rw [e] at h
    obtain ⟨g1,g2⟩:=QtZ h
    have g3:∀ y ∈ l,lkL ((m,y.n,2):Ky) T=none∧y.n≠x.n:=fun y hy=>by
     have:=g2 y hy
     rw [Qnf] at this
     cases hk:lkL ((m,y.n,2):Ky) T with
     | some v=>rw [hk] at this; cases this
     | none=>
      rw [hk] at this
      refine ⟨rfl,fun e=>?_⟩
      rw [e] at this
      simp [lkL] at this
    refine ⟨?_,fun y hy=>?_⟩
    ·rw [List.map_cons,List.nodup_cons]
     refine ⟨fun hm=>?_,g1⟩
     obtain ⟨y,hy,e⟩:=List.mem_map.1 hm
     exact (g3 y hy).2 e
    ·rcases List.mem_cons.1 hy with rfl | hy
     ·exact h2
     ·exact (g3 y hy).1
theorem QvL {m:MoP} {T R:Tl} (h:namesF m T=.ok R):(m.re.map RdP.n).Nodup:=by
 unfold namesF at h
 split at h
 ·cases h
 ·split at h
  ·cases h
  ·rename_i h2
   exact (QtZ h2).1
theorem QtU {ε α β γ:Type} {f:α→Except ε β} {g:α→γ} {h:β→γ} (e:∀ v w,f v=.ok w→h w=g v):∀ {l:List α} {r:List β},mpE f l=.ok r→r.map h=l.map g
 | [],r,hr=>by rw [mpE] at hr; injection hr with hr; subst hr; rfl
 | v::l,r,hr=>by
  rw [mpE] at hr
  split at hr
  ·cases hr
  ·rename_i w hw
   split at hr
   ·cases hr
   ·rename_i r' hr'
    injection hr with hr
    subst hr
    rw [List.map_cons,List.map_cons,e _ _ hw,QtU e hr']
theorem QuX {T:Tl} {m:MoP} (h:∃ p,usedF T mo0 m=.ok p):(upF T m).re.map RdP.n=m.re.map fun x=>dotS m.n x.n:=by
 obtain ⟨p,hp⟩:=h
 have e:upF T m=p:=by unfold upF; rw [hp]
 rw [e]
 unfold usedF at hp
 split at hp
 ·cases hp
 ·split at hp
  ·cases hp
  ·rename_i b hb
   split at hp
   ·cases hp
   ·split at hp
    ·cases hp
    ·injection hp with hp
     subst hp
     simp only [mo0,List.nil_append]
     refine QtU (fun v w hvw=>?_) hb
     unfold rdF at hvw
     split at hvw
     ·cases hvw
     ·injection hvw with hvw
      subst hvw; rfl
theorem QqA {a b c d:Str} (ha:a.contains 46=false) (hc:c.contains 46=false) (h:dotS a b=dotS c d):a=c∧b=d:=by
 have h1:=QoH (s:=b) ha
 rw [h,QoH hc] at h1
 injection h1 with h1
 exact ⟨(congrArg Prod.fst h1).symm,(congrArg Prod.snd h1).symm⟩
theorem Quz {m:MoP} (h:moC m.e=0):m.n.contains 46=false:=by
 obtain ⟨_,h2,_⟩:=moC0 h
 unfold moOk at h2
 simp only [Bool.and_eq_true] at h2
 exact QuB h2.1.1.1.1.1
theorem FlatO.rn {l:List MoP} {T:Tl} {o:MoP} (h:FlatO l T o):(o.re.map RdP.n).Nodup:=by
 obtain ⟨h1,h2,_⟩:=Qfj h.si
 obtain ⟨u1,u2⟩:=Qj3.1 h.us
 have hno:∀ m ∈ l,m.n.contains 46=false:=fun m hm=>Quz (h1 m hm)
 obtain ⟨g1,_⟩:=(QjX (fun m hm k hk=>rfl) h2).2 T h.na
 rw [u2]
 simp only [List.nil_append]
 rw [List.map_flatMap,List.Nodup,List.pairwise_flatMap]
 refine ⟨fun m hm=>?_,?_⟩
 ·rw [QuX (u1 m hm)]
  obtain ⟨R,hR⟩:=g1 m hm
  have:=QvL hR
  rw [List.Nodup,List.pairwise_map] at this
  rw [List.pairwise_map]
  exact this.imp fun hne e=>hne (QqA (hno m hm) (hno m hm) e).2
 ·rw [List.Nodup,List.pairwise_map] at h2
  refine h2.imp_of_mem fun {a b} ha hb hne x hx y hy e=>?_
  rw [QuX (u1 a ha)] at hx
  rw [QuX (u1 b hb)] at hy
  obtain ⟨v,_,rfl⟩:=List.mem_map.1 hx
  obtain ⟨w,_,e2⟩:=List.mem_map.1 hy
  rw [← e2] at e
  exact hne (QqA (hno a ha) (hno b hb) e).1
/-- in any order behind the first one -/
theorem Qr7 {l l':List MoP} {T:Tl} {o:MoP} (h:FlatO l T o) (hp:l.Perm l') (hh:l.head? = l'.head?):∃ T' o',FlatO l' T' o'∧o'.n=o.n∧o'.ty.length=o.ty.length∧o'.re.Perm o.re∧o'.ru.Perm o.ru∧o'.ne.length=o.ne.length:=by
 obtain ⟨s1,s2,_⟩:=Qfj h.si
 have s2':(l'.map MoP.n).Nodup:=(hp.map MoP.n).nodup_iff.1 s2
 obtain ⟨T',hT',hL⟩:=Qsn hp s2 h.na
 obtain ⟨u1,u2⟩:=Qj3.1 h.us
 have ia':impA l' l' = none:=QoU.2 fun m hm=>Qod (fun s hs=>QqF.2 ((hp.map MoP.n).mem_iff.1 (QqF.1 hs))) (QoU.1 h.ia m (hp.mem_iff.2 hm))
 have hl:=hp.length_eq
 refine ⟨T',_,⟨by have:=h.l1; omega,by have:=h.l8; omega,Qoo (fun m hm=>s1 m (hp.mem_iff.2 hm)) s2' (fun m hm=>by simp),ia',(QpA s2' ia').2 fun m hm x hx hr=>(QpA s2 h.ia).1 h.ib m (hp.mem_iff.2 hm) x hx (hr.perm fun m hm=>hp.mem_iff.2 hm),hT',?_,Qj3.2 ⟨fun m hm=>?_,rfl⟩⟩,?_⟩
 ·have e:=h.tot
  unfold totB at e ⊢
  rw [← Qj2 hp,← Qj2 hp,← Qj2 hp,← Qj2 hp]
  exact e
 ·rw [← (QvF hL m).1]; exact u1 m (hp.mem_iff.2 hm)
 ·have ep : ∀ {α : Type} (f : MoP → List α), (l'.flatMap fun m => f (upF T' m)).Perm (l.flatMap fun m => f (upF T m)) := fun f => by
   have:(fun m=>f (upF T' m))=fun m=>f (upF T m):=by funext m; rw [(QvF hL m).2]
   rw [this]
   exact (hp.flatMap_right _).symm
  rw [u2]
  simp only [List.nil_append]
  refine ⟨by rw [hh],(ep MoP.ty).length_eq,ep MoP.re,ep MoP.ru,(ep MoP.ne).length_eq⟩
/-- each relation once -/
theorem QuJ {l m:List RdP} {x:RdP} (hn:(l.map RdP.n).Nodup) (hp:m.Perm l) (hx:x ∈ l):m.countP (fun y=>decide (x.n=y.n) && sm x.f y.f)=1:=by
 rw [hp.countP_eq]
 have h1:0 < l.countP (fun y=>decide (x.n=y.n) && sm x.f y.f):=List.countP_pos_iff.2 ⟨x,hx,by rw [Qmh rfl]; simp⟩
 have h2:l.countP (fun y=>decide (x.n=y.n) && sm x.f y.f)≤l.countP (fun y=>y.n == x.n):=List.countP_mono_left fun y _ hy=>by
  rw [Bool.and_eq_true] at hy
  rw [of_decide_eq_true hy.1]; simp
 have h3:l.countP (fun y=>y.n == x.n)=(l.map RdP.n).count x.n:=by
  rw [List.count,List.countP_map]; rfl
 have h4:=List.nodup_iff_count.1 hn x.n
 omega
end
section
open Go Go.Proofs
def hiT (t:TdP):TdP:={ t with b:=false }
def hiR (r:RdP):RdP:={ r with b:=false }
def hiM (m:MoP):MoP:={ m with ty:=m.ty.map hiT,re:=m.re.map hiR }
section
variable {T:Tl} {m:MoP}
end
end
section
open Go Go.Proofs
section
variable {β:Type} {c:β→List Value} {g:β→β} {D0:Heap} {r:Sl} {xs:List β}
end
def hidT (x:Qc):Qc:={ x with Pub:=false }
def hidR (x:Qh):Qh:={ x with Pub:=false }
end
section
open Go Go.Proofs
theorem QuF {D:Heap} {z:Nat} {s:Sl} {cs:List Value} (h:Own D z s cs) {p:Nat×Nat} (hp:s.p=some p):∃ e,D p.1=some e:=by
 obtain ⟨g,hg⟩:=h.mine hp
 exact ⟨_,hg⟩
/-- what came first: its lists may be turned -/
structure Fst (D:Heap) (q:Qa) (o:MoP):Prop where
 ex:∃ (ts:List Qc) (rs:List Qh),Own D 6 q.Types (ts.flatMap Qc.c)∧Own D 6 q.Rels (rs.flatMap Qh.c)∧ts.length≤1000∧rs.length≤1000∧
  ∀ F,(Heap.off q.Rels (Heap.off q.Types D)).le F→Own F 6 q.Types ((ts.map hidT).flatMap Qc.c)→Own F 6 q.Rels ((rs.map hidR).flatMap Qh.c)→MpIs F (hiM o) q
 ne:∀ p p',q.Types.p=some p→q.Rels.p=some p'→p.1≠p'.1
end
section
open Go Go.Proofs
theorem Qqf (x:Qa):∀ u ∈ Qa.c x,u.oneCell' = true:=by
 intro u hu
 simp only [Qa.c,List.mem_cons,List.mem_nil_iff,or_false] at hu
 rcases hu with rfl | rfl | rfl | rfl | rfl | rfl <;> rfl
section
variable {C:Ctx} {H:Heap}
end
end
section
open Go Go.Proofs
section
variable {C:Ctx} {H:Heap}
/-- two results laid -/
theorem layQ {D2:Heap} {q:Qa} {u:Qi} {Φ:Nat→Nat→Heap→Prop} (hΦ:∀ b142 b144 G,D2.le G→D2 b142=none→D2 b144=none→b142≠b144→G b142=some (true,.row (Qa.c q))→G b144=some (true,.row (Qi.c u))→Φ b142 b144 G):nw (Qa.c Qa.zero) (fun b142 H143=>nw (Qi.c Qi.zero) (fun b144 H145=>stT (b142,0) (Qa.c q) (fun H146=>stT (b144,0) (Qi.c u) (fun H147=>Φ b142 b144 H147) H146) H145) H143) D2:=by
 refine box1N fun b142 H143 n142 _ l142 h142=>box1N fun b144 H145 n144 _ l144 h144=>?_
 have n2:b142≠b144:=fun e=>by rw [e] at h142; rw [h142] at n144; cases n144
 refine ⟨_,l144 _ _ h142,by show 0+6≤6; omega,_,by rw [Heap.put_ne _ _ _ (Ne.symm n2)]; exact h144,by show 0+3≤3; omega,?_⟩
 rw [QcD (by rfl),QcD (by rfl)]
 refine hΦ b142 b144 _ (Qbg (Qbg (l142.trans l144) n142) (l142.none n144)) n142 (l142.none n144) n2 ?_ (Heap.put_same ..)
 rw [Heap.put_ne _ _ _ n2]; exact Heap.put_same ..
end
end
section
open Go Go.Proofs
def cI (x:Int):List Value:=[.int .i64 x]
def IL (A:Heap):=SlIs (fun v x:Int=>x=v) cI A
theorem IL.rd {A H:Heap} {s:Sl} {l:List Int} (h:IL A s l) (hle:A.le H) {i:Nat} {x:Int} {K:Int→Prop} (hx:x=i) (hi:i < l.length) (k:K l[i]):ixa s x fun p=>ldI H .i64 (p.1,p.2+x.toNat*1) K:=
 SlIs.at_ h hle (z:=1) (fun _=>rfl) (by omega) hx hi fun p y hy hr=>⟨y,hr 0 _ rfl,by rw [hy]; exact k⟩
theorem QqJ {β:Type} {c:β→List Value} {z:Nat} (hz:∀ x,(c x).length=z):∀ (n:Nat) (xs:List β),(xs.drop n).flatMap c=(xs.flatMap c).drop (n*z)
 | 0,xs=>by simp
 | n+1,[]=>by simp
 | n+1,x::xs=>by
  rw [List.drop_succ_cons,List.flatMap_cons,QqJ hz n xs,show (n+1)*z=(c x).length+n*z by rw [hz,Nat.add_mul]; omega,List.drop_append]
  simp
/-- a slice from a place on -/
theorem SlIs.suf {α β:Type} {R:α→β→Prop} {c:β→List Value} {z:Nat} {A:Heap} {s:Sl} {l:List α} {i:Nat} {e f:Int} {K:Sl→Prop} (h:SlIs R c A s l) (hz:∀ x,(c x).length=z) (hc:s.len≤s.cap) (he:e=(i:Int)) (hf:f=(s.len:Int)) (hi:i≤l.length) (k:∀ t,SlIs R c A t (l.drop i)→K t):slL s e f (s.cap:Int) z K:=by
 subst he; subst hf
 obtain ⟨xs,h1,h2,h3,h4,h5⟩:=h
 have hfl:=QeY (c:=c) (xs:=xs) hz
 have r1:=Qoj h1 (lo:=(i:Int)) (hi:=(s.len:Int)) (mx:=(s.cap:Int)) (z:=z) (by omega) (by omega) (by omega) (by
  rw [hfl,Int.toNat_natCast]; exact Nat.mul_le_mul_right _ (by omega))
 rw [Int.toNat_natCast,← QqJ hz,show ((s.len:Int) - i).toNat=(xs.drop i).length by rw [List.length_drop]; omega,← QoT hz,List.take_length] at r1
 refine ⟨by omega,by omega,by omega,by omega,_,rfl,k _ ⟨xs.drop i,?_,?_,?_,?_,?_⟩⟩
 ·rw [Int.toNat_natCast,show ((s.len:Int) - i).toNat=(xs.drop i).length by rw [List.length_drop]; omega]; exact r1
 ·simp only [List.length_drop]; omega
 ·simp only [List.length_drop]; omega
 ·simp only [List.length_drop]; omega
 ·intro j v x hv hx
  rw [List.getElem?_drop] at hv hx
  exact h5 _ v x hv hx
theorem Qsw {α:Type} {pre lf l:List α} {k:Nat} (hp:(pre++lf).Perm l) (hk:k < lf.length):((pre++[lf[k]])++(lf.take k++lf.drop (k+1))).Perm l:=by
 refine List.Perm.trans ?_ hp
 rw [List.append_assoc]
 refine List.Perm.append_left _ ?_
 have e:lf=lf.take k++lf[k]::lf.drop (k+1):=by rw [← List.drop_eq_getElem_cons hk,List.take_append_drop]
 have h2:(lf.take k++lf[k]::lf.drop (k+1)).Perm (lf[k]::(lf.take k++lf.drop (k+1))):=List.perm_middle
 rw [← e] at h2
 exact h2.symm
theorem Qtk {x n:Int} (h0:0 < n) (h1:n≤8):∃ k:Nat,(k:Int) < n∧w .i64 (Int.tmod (w .u64 x) (w .u64 n))=(k:Int):=by
 have e1:w .u64 n=n:=by rw [QvH (by omega) (by omega)]
 have e2:0≤w .u64 x:=by rw [QsX]; omega
 rw [e1]
 have h2:=Int.tmod_nonneg n e2
 have h3:=Int.tmod_lt_of_pos (w .u64 x) h0
 refine ⟨((w .u64 x).tmod n).toNat,by omega,?_⟩
 rw [Q4 (by omega) (by omega)]; omega
end
section
open Go Go.Proofs
theorem QkO {α:Type} {p:α→Bool} {l:List α} {i:Nat} (h:i < l.length):(l.take (i+1)).countP p=(l.take i).countP p+(if p l[i]=true then 1 else 0):=by
 rw [List.take_add_one,List.getElem?_eq_getElem h,Option.toList_some,List.countP_append,List.countP_singleton]
theorem QmW (α:Type) (p:α→Bool) (l:List α) (i:Nat):(l.take i).countP p≤l.length:=Nat.le_trans List.countP_le_length (by rw [List.length_take]; omega)
/-- all that is known while modules are picked -/
structure PickS (A0 D:Heap) (l:List MoP) (s t:Sl) (i:Int) (pre lf:List MoP):Prop where
 le:A0.le D
 fr:Fresh A0 s
 gq:Gq MpIs Qa.c 6 (Heap.off s D) D s pre
 sl:SlIs (MpIs (Heap.off s D)) Qa.c (Heap.off s D) t lf
 cap:t.len≤t.cap
 pe:(pre++lf).Perm l
 hd:pre.head? = l.head?
 ix:i+1=(pre.length:Int)
section
variable {C:Ctx} {H:Heap}
theorem Own.offT {H:Heap} {z:Nat} {s t:Sl} {cs:List Value} (h:Own H z s cs) (hn:∀ p q,s.p=some p→t.p=some q→q.1≠p.1):Own (Heap.off t H) z s cs:=by
 obtain ⟨hl,hx,hc,h0 | ⟨b,sp,hp,hb,h1⟩⟩:=h
 ·exact ⟨hl,hx,hc,.inl h0⟩
 ·exact ⟨hl,hx,hc,.inr ⟨b,sp,hp,Heap.off_some hb fun q hq=>hn _ q hp hq,h1⟩⟩
/-- one is picked -/
theorem Qsx {A0 D:Heap} {l:List MoP} {s t:Sl} {i:Int} {pre lf:List MoP} {k:Nat} {Φ:Sl→Sl→Heap→Prop} (h:PickS A0 D l s t i pre lf) (hk:k < lf.length) (hl8:l.length≤8) (kk:∀ s2 t2 D2,PickS A0 D2 l s2 t2 (i+1) (pre++[lf[k]]) (lf.take k++lf.drop (k+1))→Φ s2 t2 D2) :
 ixa t (k:Int) fun p60=>
 ldT D Qa.c (p60.1,p60.2+(k:Int).toNat*6) fun x65=>
 apd (Qa.c Qa.zero) 136 s ((Qa.c x65)++[]) 1 (fun r67 H68=>
 dr H68 fun Hs69=>
 slL t 0 (k:Int) (Sl.cap t:Int) 6 fun t71=>
 slL t (w .i64 ((k:Int)+1)) (Sl.len t:Int) (Sl.cap t:Int) 6 fun t77=>
 nw ([]) (fun b84 H85=>
 Heap.le Hs69 H85∧
 apS (Qa.c Qa.zero) 136 (Sl.of (some (b84,0)) 0 0) t71 (fun r87 H88=>
 Heap.le Hs69 H88∧
 apS (Qa.c Qa.zero) 136 r87 t77 (fun r90 H91=>
 Heap.le Hs69 H91∧
 Φ r67 r90 H91) H88) H85) H68) D:=by
  have hpl:=h.pe.length_eq
  rw [List.length_append] at hpl
  have hz:∀ x,(Qa.c x).length=6:=fun _=>rfl
  refine SlIs.ld h.sl (Heap.off_le _ _) hz (by omega) rfl hk fun y hy=>?_
  rw [List.append_nil]
  refine h.gq.add (v:=lf[k]) hz (by omega) rfl (by omega) (by omega) fun r D2 hadd hle hf=>?_
  refine ⟨fun _=>none,fun _ _ h=>(nomatch h),SlIs.pre h.sl hz h.cap rfl (by omega) fun t1 h1=>?_⟩
  rw [Q4 (by omega) (by omega)]
  refine SlIs.suf h.sl hz h.cap (i:=k+1) (by omega) rfl (by omega) fun t2 h2=>?_
  intro b84 n84
  refine ⟨fun _ _ h=>(nomatch h),?_⟩
  have o1:=QlW (z:=6) n84
  obtain ⟨xs1,a1,a2,_,a4,a5⟩:=h1
  obtain ⟨xs2,c1,c2,_,c4,c5⟩:=h2
  have e1:xs1.length≤8:=by have:=a2; rw [List.length_take] at *; omega
  have e2:xs2.length≤8:=by rw [List.length_drop] at *; omega
  refine Qmw (zc:=Qa.c Qa.zero) o1 (Qf6 (hle.trans o1.le) a1) (by rw [QeY hz,a2]; rfl) (QoS Qqf xs1) (by dsimp only [Sl.of]; omega) (by dsimp only [Sl.of]; omega) fun r87 D3 o2 l2=>⟨fun _ _ h=>(nomatch h),?_⟩
  rw [List.nil_append] at o2
  have l2':r87.len=xs1.length:=by rw [l2]; dsimp only [Sl.of]; omega
  refine Qmw (zc:=Qa.c Qa.zero) o2 (Qf6 (hle.trans o2.le) c1) (by rw [QeY hz,c2]; rfl) (QoS Qqf xs2) (by omega) (by omega) fun r90 D4 o3 l3=>⟨fun _ _ h=>(nomatch h),?_⟩
  rw [← List.flatMap_append] at o3
  have hne:∀ p q,r90.p=some p→r.p=some q→q.1≠p.1:=fun p q hp hq e=>by
   have hg:=hadd D2 (fun i v x hx=>MpIs.le ?_ hx) (MpIs.le hle hy)
   ·obtain ⟨ys,g1,_⟩:=hg
    obtain ⟨e3,h3⟩:=QuF g1 hq
    have:=o3.fresh p hp
    rw [← e,h3] at this; cases this
   ·exact hle
  have hZ:(Heap.off s D).le (Heap.off r D4):=fun b e hb=>Heap.off_some (o3.le _ _ (hle _ _ hb)) fun p hp e'=>by
   have:=hf p hp
   rw [e',hb] at this; cases this
  have hA:A0.le (Heap.off s D):=fun b e hb=>Heap.off_some (h.le _ _ hb) fun p hp e'=>by
   have:=h.fr p hp
   rw [e',hb] at this; cases this
  have hL:∀ (i:Nat) (v:MoP) (x:Qa),(lf.take k++lf.drop (k+1))[i]? = some v→(xs1++xs2)[i]? = some x→MpIs (Heap.off s D) v x:=fun i v x hv hx=>by
   have lt:xs1.length=(lf.take k).length:=by omega
   by_cases hi:i < xs1.length
   ·rw [List.getElem?_append_left (by omega)] at hv
    rw [List.getElem?_append_left hi] at hx
    exact a5 i v x hv hx
   ·rw [List.getElem?_append_right (by omega)] at hv
    rw [List.getElem?_append_right (by omega),lt] at hx
    exact c5 _ v x hv hx
  have own3:=o3.own
  refine kk r r90 D4 ⟨hA.trans (hle.trans o3.le),hf.le hA,?_,?_,own3.2.2.1,Qsw h.pe hk,?_,?_⟩
  ·exact (hadd _ (fun i v x hx=>MpIs.le hZ hx) (MpIs.le hZ hy)).mono (fun b _ e he=>o3.le _ _ he) (Heap.le.refl _) fun h h'=>MpIs.le h h'
  ·refine ⟨xs1 ++ xs2, (own3.offT hne).rdsl, ?_, ?_, ?_, fun i v x hv hx => MpIs.le hZ (hL i v x hv hx)⟩
   ·rw [List.length_append]; omega
   ·simp only [List.length_append]; omega
   ·simp only [List.length_append,List.length_take,List.length_drop]; omega
  ·rw [← h.hd]
   have hix:=h.ix
   cases pre with
   | nil=>
    have:=h.hd
    cases l with
    | nil=>rw [List.length_nil] at hpl; omega
    | cons a l=>simp at this
   | cons a p=>rfl
  ·have:=h.ix
   simp only [List.length_append,List.length_cons,List.length_nil]; omega
end
end
section
open Go Go.Proofs
theorem QqL {l:List MoP} {m:Str}:∀ {r:List ImP} {ps:List Str} {e:Er},impA1 l m ps r=some e→e.2.2≠0
 | [],ps,e,h=>by simp [impA1] at h
 | x::r,ps,e,h=>by
  simp only [impA1] at h
  split at h
  ·injection h with h; subst h; simp
  ·split at h
   ·injection h with h; subst h; simp
   ·exact QqL h
theorem Qr9 {l:List MoP}:∀ {r:List MoP} {e:Er},impA l r=some e→e.2.2≠0
 | [],e,h=>by simp [impA] at h
 | m::r,e,h=>by
  simp only [impA] at h
  split at h
  ·rename_i h1; injection h with h; subst h; exact QqL h1
  ·exact Qr9 h
theorem QqN {l:List MoP} {m:Str} {i:Nat}:∀ {r:List ImP} {e:Er},impB1 l m i r=some e→e.2.2≠0
 | [],e,h=>by simp [impB1] at h
 | x::r,e,h=>by
  simp only [impB1] at h
  split at h
  ·injection h with h; subst h; simp
  ·exact QqN h
theorem QqO {l:List MoP}:∀ {r:List MoP} {i:Nat} {e:Er},impBf l i r=some e→e.2.2≠0
 | [],i,e,h=>by simp [impBf] at h
 | m::r,i,e,h=>by
  simp only [impBf] at h
  split at h
  ·rename_i h1; injection h with h; subst h; exact QqN h1
  ·exact QqO h
theorem Qon:∀ {l:List MoP} {ns:List Str} {e:Er},singleF ns l=some e→e.2.2≠0
 | [],ns,e,h=>by simp [singleF] at h
 | m::l,ns,e,h=>by
  simp only [singleF] at h
  split at h
  ·rename_i h1; injection h with h; subst h; exact h1
  ·split at h
   ·injection h with h; subst h; simp
   ·exact Qon h
theorem Qt1 {m:Str}:∀ {l:List TdP} {T:Tl} {e:Er},namesTy m l T=.error e→e.2.2≠0
 | [],T,e,h=>by simp [namesTy] at h
 | t::l,T,e,h=>by
  rw [namesTy] at h
  split at h
  ·injection h with h; subst h; simp
  ·split at h
   ·injection h with h; subst h; simp
   ·exact Qt1 h
theorem QtY {m:Str}:∀ {l:List RdP} {T:Tl} {e:Er},namesRe m l T=.error e→e.2.2≠0
 | [],T,e,h=>by simp [namesRe] at h
 | t::l,T,e,h=>by
  rw [namesRe] at h
  split at h
  ·injection h with h; subst h; simp
  ·split at h
   ·injection h with h; subst h; simp
   ·exact QtY h
theorem QtW {m:Str}:∀ {l:List NeP} {T:Tl} {e:Er},namesNe m l T=.error e→e.2.2≠0
 | [],T,e,h=>by simp [namesNe] at h
 | t::l,T,e,h=>by
  rw [namesNe] at h
  split at h
  ·injection h with h; subst h; simp
  ·exact QtW h
theorem Qsm:∀ {l:List MoP} {T:Tl} {e:Er},namesAll l T=.error e→e.2.2≠0
 | [],T,e,h=>by simp [namesAll] at h
 | m::l,T,e,h=>by
  rw [namesAll] at h
  split at h
  ·rename_i h1
   injection h with h; subst h
   unfold namesF at h1
   split at h1
   ·rename_i h2; injection h1 with h1; subst h1; exact Qt1 h2
   ·split at h1
    ·rename_i h2; injection h1 with h1; subst h1; exact QtY h2
    ·exact QtW h1
  ·exact Qsm h
theorem QsV {T:Tl}:∀ {l:List MoP} {o:MoP} {e:Er},usedAll T o l=.error e→e.2.2≠0
 | [],o,e,h=>by simp [usedAll] at h
 | m::l,o,e,h=>by
  rw [usedAll] at h
  split at h
  ·injection h with h; subst h; simp
  ·exact QsV h
theorem Qup {l:List MoP} {e:Er} (h:flatF l=.error e):e.2.2≠0:=by
 unfold flatF at h
 split at h
 ·injection h with h; subst h; simp
 split at h
 ·injection h with h; subst h; simp
 split at h
 ·rename_i h1; injection h with h; subst h; exact Qon h1
 split at h
 ·rename_i h1; injection h with h; subst h; exact Qr9 h1
 split at h
 ·rename_i h1; injection h with h; subst h; exact QqO h1
 split at h
 ·rename_i h1; injection h with h; subst h; exact Qsm h1
 split at h
 ·injection h with h; subst h; simp
 ·exact QsV h
theorem Qpz {b:Bool} {X Y:Prop} (h:b=false) (k:Y):ift b X Y:=ift.of (fun h'=>by rw [h] at h'; cases h') (fun _=>k)
section
variable {C:Ctx} {H:Heap}
theorem QnF (hT:MaxC C) (hFm:FmtC C) {l:List MoP} {s:Sl} {ps:List Int} {sp:Sl} {K:Bool→Heap→Prop} (hs:MpL H s l) (hc:s.len≤s.cap) (hps:IL H sp ps) (hz:∀ m ∈ l,moSz m.e≤16777216) (hl:l.length≤16777216) (k:∀ D,K true D):Qbs C s sp K H:=by
 have hzm:∀ x,(Qa.c x).length=6:=fun _=>rfl
 apply Qj4
 unfold Qfz
 refine Qtg hT hFm hs (Heap.le.refl _) hz hl fun b1 H2 hH2 hb1=>?_
 refine ⟨fun b F=>H.le F∧(b=false→sL szM l < 5000∧∀ m ∈ l,moD m.e≤64),?_,?_⟩
 ·refine ift.of (fun h => ⟨hH2, fun h => by cases h⟩) (fun h => ?_)
  exact Qqv hT fun D hD=>⟨hH2.trans hD,fun _=>hb1 h⟩
 rintro b3 H9 ⟨hH9,hb3⟩
 refine ift.of (fun _=>Qqv hT fun D _=>k D) (fun h3=>?_)
 obtain ⟨_,hdp⟩:=hb3 h3
 clear hb1 hb3 hH2
 have hmd:∀ m ∈ l,moD m.e≤4611686018427387904:=fun m hm=>by have:=hdp m hm; omega
 refine QlG hT (SlIs.le hH9 hs fun v _ x h=>MpIs.le hH9 h) (Heap.le.refl _) hmd (fun F B W bo q o ho hB hW hO=>?ok) (fun F er her hF=>?er)
 case er=>
  refine layQ fun b17 b19 G _ _ _ _ _ _=>?_
  refine ift.of (fun _=>k _) (fun h=>?_)
  exact absurd (Qup her) (by simpa using h)
 obtain ⟨T,hT'⟩:=Qr6 ho
 have hq:=MpIs.le (QpD hO.al) (hO.is hT')
 refine layQ fun b17 b19 A0 hFA n17 _ _ g17 _=>?_
 have hHA:H.le A0:=hH9.trans (hW.trans (hO.wle.trans hFA))
 have hqA:=MpIs.le hFA hq
 have hs0:MpL A0 s l:=SlIs.le hHA hs fun v _ x h=>MpIs.le hHA h
 refine ift.of (fun h=>absurd h (by simp)) (fun _=>?_)
 have l1:=hT'.l1
 have l8:=hT'.l8
 refine SlIs.ld hs hHA (z:=6) hzm (by omega) (i:=0) rfl l1 fun y hy=>?_
 intro b31 n31
 rw [List.append_nil]
 intro b33 n33
 refine SlIs.suf hs hzm hc (i:=1) rfl rfl (by omega) fun t1 h1=>?_
 have e31:(A0.put b31 (.row (Qa.c y))) b31=some (true,.row (Qa.c y)):=Heap.put_same ..
 have l31:A0.le (A0.put b31 (.row (Qa.c y))):=Qbg (Heap.le.refl _) n31
 generalize A0.put b31 (.row (Qa.c y))=A1 at *
 have o1:=QlW (z:=6) n33
 obtain ⟨xs1,a1,a2,_,a4,a5⟩:=h1
 refine Qmw (zc:=Qa.c Qa.zero) o1 (Qf6 (hHA.trans (l31.trans o1.le)) a1) (by rw [QeY hzm,a2]; rfl) (QoS Qqf xs1) (by rw [List.length_drop] at *; dsimp only [Sl.of]; omega) (by rw [List.length_drop] at *; dsimp only [Sl.of]; omega) fun r41 A2 o2 l2=>?_
 rw [List.nil_append] at o2
 have h02:A0.le A2:=l31.trans o2.le
 have r41b:∀ p q,r41.p=some p→(Sl.of (some (b31,0)) 1 1).p=some q→q.1≠p.1:=fun p q hp hq e=>by
  have:=o2.fresh p hp
  have hq:(b31,0)=q:=by simpa using hq
  rw [← e,← hq,e31] at this; cases this
 have hZ0:A0.le (Heap.off (Sl.of (some (b31,0)) 1 1) A2):=fun b e hb=>Heap.off_some (h02 _ _ hb) fun p hp e'=>by
  have hp:(b31,0)=p:=by simpa using hp
  rw [← hp] at e'
  rw [← e',n31] at hb; cases hb
 have P0:PickS A0 A2 l (Sl.of (some (b31,0)) 1 1) r41 0 [l[0]] (l.drop 1):=by
  refine ⟨h02,fun p hp=>?_,⟨[y],⟨rfl,rfl,Nat.le_refl _,.inr ⟨b31,[],rfl,?_,Nat.le_refl _⟩⟩,rfl,fun i v x hv hx=>?_⟩,⟨xs1,(o2.own.offT r41b).rdsl,?_,?_,by rw [List.length_drop]; omega,fun i v x hv hx=>MpIs.le (hHA.trans hZ0) (a5 i v x hv hx)⟩,o2.own.2.2.1,?_,?_,rfl⟩
  ·have hp : (b31, 0) = p := by simpa using hp
   rw [← hp]; exact n31
  ·rw [List.append_nil,List.flatMap_cons,List.flatMap_nil,List.append_nil]; exact o2.le _ _ e31
  ·cases i with
   | zero=>simp at hv hx; subst hv; subst hx; exact MpIs.le (hHA.trans hZ0) hy
   | succ i=>simp at hv
  ·rw [l2]; dsimp only [Sl.of]; omega
  ·omega
  ·rw [List.singleton_append,← List.drop_eq_getElem_cons l1,List.drop_zero]
  ·cases l with
   | nil=>exact absurd l1 (by simp)
   | cons a l=>rfl
 generalize Sl.of (some (b31,0)) 1 1=s0 at *
 clear o1 o2 a1 a2 a4 a5 e31 l31 hZ0 r41b l2 h02 hy n31 n33
 refine ⟨fun y D=>∃ pre lf,PickS A0 D l y.1 y.2.1 y.2.2 pre lf,fun y _=>y.2.1.len,⟨_,_,P0⟩,?_⟩
 clear P0
 rintro ⟨s1,t1,i⟩ D ⟨pre,lf,hP⟩
 dsimp only at hP ⊢
 have htl:=SlIs.len hP.sl
 have hpl:=hP.pe.length_eq
 rw [List.length_append] at hpl
 have hix:=hP.ix
 have hpn:0 < pre.length:=by
  have:=hP.hd
  cases pre with
  | nil=>
   cases l with
   | nil=>exact absurd l1 (by simp)
   | cons a l=>simp at this
  | cons a p=>simp
 refine ift.of (fun h=>?_) (fun h=>?_)
 ·have h0 : 0 < lf.length := by have := of_decide_eq_true h; omega
  refine ⟨fun x E=>E=D∧∃ j:Nat,x=(j:Int)∧j < lf.length,?_,?_⟩
  ·refine ift.of (fun h => ?_) (fun h => ⟨rfl, 0, rfl, h0⟩)
   have hi:i < (ps.length:Int):=by have:=of_decide_eq_true h; rw [SlIs.len hps] at this; exact this
   have hi0:i=(i.toNat:Int):=by omega
   refine IL.rd hps (hHA.trans hP.le) hi0 (by omega) ?_
   have e1:w .u64 (t1.len:Int)=(t1.len:Int):=by rw [QvH (by omega) (by omega)]
   obtain ⟨j, j1, j2⟩ := Qtk (x := ps[i.toNat]'(by omega)) (n := (t1.len : Int)) (by omega) (by omega)
   exact ⟨by rw [e1]; omega,rfl,j,j2,by omega⟩
  ·rintro x E ⟨rfl,j,rfl,hj⟩
   refine Qsx (Φ:=fun r67 r90 H91=>_) hP hj l8 fun s2 t2 D2 hP2=>?_
   rw [Q4 (by omega) (by omega)]
   refine ⟨⟨_,_,hP2⟩,?_⟩
   have h2:=SlIs.len hP2.sl
   have:(lf.take j++lf.drop (j+1)).length < lf.length:=by simp only [List.length_append,List.length_take,List.length_drop]; omega
   show t2.len < t1.len
   omega
 -- all are picked
 have h0:lf=[]:=List.length_eq_zero_iff.1 (by have:=of_decide_eq_false h; omega)
 subst h0
 have hpe:=hP.pe
 rw [List.append_nil] at hpe
 obtain ⟨T2,o2,hT2,en,et,er,eu,ee⟩:=Qr7 hT' hpe.symm hP.hd.symm
 have hs2:MpL D s1 pre:=by
  have el:=hP.gq.len hzm (by omega)
  obtain ⟨xs,g1,g2,g3⟩:=hP.gq
  exact ⟨xs,g1.rdsl,QuG g1 hzm (by omega),g2,by omega,fun i v x hv hx=>MpIs.le (Heap.off_le _ _) (g3 i v x hv hx)⟩
 refine QlG hT hs2 (Heap.le.refl _) (fun m hm=>hmd m (hpe.mem_iff.1 hm)) (fun F2 B2 W2 bo2 q2 o2' ho2 hB2 hW2 hO2=>?_) (fun F2 er2 her2 _=>by rw [Qr5 hT2] at her2; cases her2)
 rw [Qr5 hT2] at ho2
 injection ho2 with ho2
 subst ho2
 have hq2:=MpIs.le (QpD hO2.al) (hO2.is hT2)
 refine layQ fun b96 b98 G hG _ _ _ g96 _=>?_
 have hAG:A0.le G:=hP.le.trans (hW2.trans (hO2.wle.trans hG))
 have k1:=hAG _ _ g17
 have m1:=MpIs.le hAG hqA
 have m2:=MpIs.le hG hq2
 clear hP hs2 hqA hq2 hO hO2 hs0 hix
 have lt1:=SlIs.len m1.2.2.1
 have lt2:=SlIs.len m2.2.2.1
 have lr1:=SlIs.len m1.2.2.2.1
 have lr2:=SlIs.len m2.2.2.2.1
 have lu1:=SlIs.len m1.2.2.2.2.1
 have lu2:=SlIs.len m2.2.2.2.2.1
 have ln1:=SlIs.len m1.2.2.2.2.2
 have ln2:=SlIs.len m2.2.2.2.2.2
 have erl:=er.length_eq
 have eul:=eu.length_eq
 obtain ⟨_,f2,f3,_,_⟩:=hT'.len
 refine jn.inl (Qpz (by simp) (fS k1 (j:=0) rfl (fS g96 (j:=0) rfl ?_)))
 have e1:(!(q.Name == q2.Name))=false:=by rw [m1.1.1,m2.1.1,en]; simp
 rw [e1]
 refine jn.inl (Qpz rfl (fL k1 (j:=2) rfl (fL g96 (j:=2) rfl ?_)))
 have e2:(((Sl.len q.Types:Int):Int) != (Sl.len q2.Types:Int))=false:=by rw [lt1,lt2,et]; simp
 rw [e2]
 refine jn.inl (Qpz rfl (fL k1 (j:=3) rfl (fL g96 (j:=3) rfl ?_)))
 have e3:(((Sl.len q.Rels:Int):Int) != (Sl.len q2.Rels:Int))=false:=by rw [lr1,lr2,erl]; simp
 rw [e3]
 refine jn.inl (Qpz rfl (fL k1 (j:=4) rfl (fL g96 (j:=4) rfl ?_)))
 have e4:(((Sl.len q.Rules:Int):Int) != (Sl.len q2.Rules:Int))=false:=by rw [lu1,lu2,eul]; simp
 rw [e4]
 refine jn.inl (Qpz rfl (fL k1 (j:=5) rfl (fL g96 (j:=5) rfl ?_)))
 have e5:(((Sl.len q.Nevers:Int):Int) != (Sl.len q2.Nevers:Int))=false:=by rw [ln1,ln2,ee]; simp
 rw [e5]
 refine Qpz rfl ?_
 -- relations, each once
 refine ⟨fun y E=>E=G∧∃ i:Nat,y=(i:Int)∧i≤o.re.length,fun y _=>o.re.length - y.toNat,⟨rfl,0,rfl,Nat.zero_le _⟩,?_⟩
 rintro _ G ⟨rfl,i,rfl,hi⟩
 refine fL k1 (j:=3) rfl ?_
 rw [lr1]
 refine ift.of (fun h=>?_) (fun h=>?_)
 ·have hil : i < o.re.length := by have := of_decide_eq_true h; omega
  refine ⟨fun y E=>E=G∧∃ j:Nat,y=((((o2.re.take j).countP fun y=>decide (o.re[i].n=y.n) && sm o.re[i].f y.f:Nat):Int),(j:Int))∧j≤o2.re.length,fun y _=>o2.re.length - y.2.toNat,⟨rfl,0,by simp,Nat.zero_le _⟩,?_⟩
  rintro _ G ⟨rfl,j,rfl,hj⟩
  refine fL g96 (j:=3) rfl ?_
  rw [lr2]
  refine ift.of (fun h=>?_) (fun h=>?_)
  ·have hjl : j < o2.re.length := by have := of_decide_eq_true h; dsimp only at this; omega
   have hcl:=QmW _ (fun y=>decide (o.re[i].n=y.n) && sm o.re[i].f y.f) o2.re j
   have hct:=QkO (p:=fun y=>decide (o.re[i].n=y.n) && sm o.re[i].f y.f) hjl
   refine jn.inl ⟨fun b E=>E=G∧b=(decide (o.re[i].n=o2.re[j].n) && sm o.re[i].f o2.re[j].f),?_,?_⟩
   ·refine ⟨G,Heap.le.refl _,fL k1 (j:=3) rfl ?_⟩
    refine SlIs.at_ m1.2.2.2.1 (Heap.le.refl _) (z:=6) (fun _=>rfl) (by omega) rfl hil fun p1 y1 hy1 hr1=>⟨y1.Name,hr1 4 _ rfl,fL g96 (j:=3) rfl ?_⟩
    refine SlIs.at_ m2.2.2.2.1 (Heap.le.refl _) (z:=6) (fun _=>rfl) (by omega) rfl hjl fun p2 y2 hy2 hr2=>⟨y2.Name,hr2 4 _ rfl,?_⟩
    rw [hy1.2.2.2.1.1,hy2.2.2.2.1.1]
    refine ift.of (fun h=>?_) (fun h=>⟨rfl,?_⟩)
    ·refine fL k1 (j := 3) rfl (SlIs.at_ m1.2.2.2.1 (Heap.le.refl _) (z := 6) (fun _ => rfl) (by omega) rfl hil fun p1 y1 hy1 hr1 => ⟨y1.Fields, hr1 5 _ rfl, fL g96 (j := 3) rfl ?_⟩)
     refine SlIs.at_ m2.2.2.2.1 (Heap.le.refl _) (z:=6) (fun _=>rfl) (by omega) rfl hjl fun p2 y2 hy2 hr2=>⟨y2.Fields,hr2 5 _ rfl,?_⟩
     refine Qot hy1.2.2.2.2 hy2.2.2.2.2 (Heap.le.refl _) ⟨Heap.le.refl _,rfl,?_⟩
     have:o.re[i].n=o2.re[j].n:=eq_of_beq h
     rw [decide_eq_true this,Bool.true_and]
    ·have : ¬ o.re[i].n = o2.re[j].n := fun e => by rw [e] at h; simp at h
     rw [decide_eq_false this,Bool.false_and]
   ·rintro b G ⟨rfl,rfl⟩
    refine ift.of (fun h=>?_) (fun h=>?_)
    ·rw [if_pos h] at hct
     refine ⟨⟨rfl,j+1,?_,by omega⟩,by dsimp only; rw [Q4 (by omega) (by omega)]; omega⟩
     dsimp only
     rw [Q4 (by omega) (by omega),Q4 (by omega) (by omega),hct]; rfl
    ·rw [if_neg (by rw [h]; decide)] at hct
     refine ⟨⟨rfl,j+1,?_,by omega⟩,by dsimp only; rw [Q4 (by omega) (by omega)]; omega⟩
     dsimp only
     rw [Q4 (by omega) (by omega),hct]; rfl
  ·have hje : j = o2.re.length := by have := of_decide_eq_false h; dsimp only at this; omega
   subst hje
   have h1:=QuJ hT'.rn er (List.getElem_mem hil)
   rw [List.take_length,h1]
   refine Qpz (by simp) ⟨⟨rfl,i+1,?_,by omega⟩,?_⟩
   ·rw [Q4 (by omega) (by omega)]; rfl
   ·rw [Q4 (by omega) (by omega)]; dsimp only; omega
 -- rules, as often
 refine ⟨fun y E=>E=G∧∃ i:Nat,y=(i:Int)∧i≤o.ru.length,fun y _=>o.ru.length - y.toNat,⟨rfl,0,rfl,Nat.zero_le _⟩,?_⟩
 rintro _ G ⟨rfl,i,rfl,hi⟩
 refine fL k1 (j:=4) rfl ?_
 rw [lu1]
 refine ift.of (fun h=>?_) (fun _=>k _)
 have hil:i < o.ru.length:=by have:=of_decide_eq_true h; omega
 refine ⟨fun y E=>E=G∧∃ j:Nat,y=((((o2.ru.take j).countP fun y=>sm o.ru[i].e y.e:Nat):Int),(((o.ru.take j).countP fun y=>sm o.ru[i].e y.e:Nat):Int),(j:Int))∧j≤o2.ru.length,fun y _=>o2.ru.length - y.2.2.toNat,⟨rfl,0,by simp,Nat.zero_le _⟩,?_⟩
 rintro _ G ⟨rfl,j,rfl,hj⟩
 refine fL g96 (j:=4) rfl ?_
 rw [lu2]
 refine ift.of (fun h=>?_) (fun h=>?_)
 ·have hjl : j < o2.ru.length := by have := of_decide_eq_true h; dsimp only at this; omega
  have hjl1:j < o.ru.length:=by omega
  have c1:=QmW _ (fun y=>sm o.ru[i].e y.e) o2.ru j
  have c2:=QmW _ (fun y=>sm o.ru[i].e y.e) o.ru j
  have t1:=QkO (p:=fun y=>sm o.ru[i].e y.e) hjl
  have t2:=QkO (p:=fun y=>sm o.ru[i].e y.e) hjl1
  refine ⟨fun x E=>E=G∧x=((((o2.ru.take (j+1)).countP fun y=>sm o.ru[i].e y.e:Nat):Int),(((o.ru.take (j+1)).countP fun y=>sm o.ru[i].e y.e:Nat):Int)),?_,?_⟩
  ·refine ⟨fun x E => E = G ∧ x = (((o2.ru.take (j + 1)).countP fun y => sm o.ru[i].e y.e : Nat) : Int), ?_, ?_⟩
   ·refine ⟨G,Heap.le.refl _,fL k1 (j:=4) rfl ?_⟩
    refine SlIs.ld m1.2.2.2.2.1 (Heap.le.refl _) (z:=6) (fun _=>rfl) (by omega) rfl hil fun y1 hy1=>fL g96 (j:=4) rfl ?_
    refine SlIs.ld m2.2.2.2.2.1 (Heap.le.refl _) (z:=6) (fun _=>rfl) (by omega) rfl hjl fun y2 hy2=>?_
    refine QmC (UpIs.e hy1) (UpIs.e hy2) (Heap.le.refl _) ⟨Heap.le.refl _,?_⟩
    refine ift.of (fun h=>⟨rfl,?_⟩) (fun h=>⟨rfl,?_⟩)
    ·rw [t1,if_pos h,Q4 (by dsimp only; omega) (by dsimp only; omega)]; rfl
    ·rw [t1,if_neg (by rw [h]; decide)]; rfl
   ·rintro x G ⟨rfl,rfl⟩
    refine ⟨G,Heap.le.refl _,fL k1 (j:=4) rfl ?_⟩
    refine SlIs.ld m1.2.2.2.2.1 (Heap.le.refl _) (z:=6) (fun _=>rfl) (by omega) rfl hil fun y1 hy1=>fL k1 (j:=4) rfl ?_
    refine SlIs.ld m1.2.2.2.2.1 (Heap.le.refl _) (z:=6) (fun _=>rfl) (by omega) rfl hjl1 fun y2 hy2=>?_
    refine QmC (UpIs.e hy1) (UpIs.e hy2) (Heap.le.refl _) ⟨Heap.le.refl _,?_⟩
    refine ift.of (fun h=>⟨rfl,?_⟩) (fun h=>⟨rfl,?_⟩)
    ·rw [t2,if_pos h,Q4 (by dsimp only; omega) (by dsimp only; omega)]; rfl
    ·rw [t2,if_neg (by rw [h]; decide)]; rfl
  ·rintro x G ⟨rfl,rfl⟩
   refine ⟨⟨rfl,j+1,?_,by omega⟩,by dsimp only; rw [Q4 (by omega) (by omega)]; omega⟩
   dsimp only
   rw [Q4 (by omega) (by omega)]; rfl
 ·have hje : j = o2.ru.length := by have := of_decide_eq_false h; dsimp only at this; omega
  subst hje
  rw [List.take_length,eul,List.take_length,eu.countP_eq]
  refine Qpz (by simp) ⟨⟨rfl,i+1,?_,by omega⟩,?_⟩
  ·rw [Q4 (by omega) (by omega)]; rfl
  ·rw [Q4 (by omega) (by omega)]; dsimp only; omega
end
end
section
set_option maxRecDepth 100000
open Go Go.Proofs
theorem Qks {α β : Type} (f : β → Nat) (g : α → β) : ∀ l : List α, sL f (l.map g) = sL (fun v => f (g v)) l
 | []=>rfl
 | v::l=>by simp only [List.map_cons,sL,Qks f g l]
section
variable {P:Program} {W:World}
theorem Tr.pos {B n:Nat} {t:TypeId} {cs:List Value} (h:Tr P W B n t cs):1≤B:=by
 obtain ⟨H,enc,x,h,hB⟩:=h
 have:=QlB x.1
 omega
theorem Ql0 {H : Type} : ∀ (ys : List (DataW H × List MemPlace)), (ys.map fun y => sizeD y.1).sum = sizeDs (ys.map (·.1))
 | []=>rfl
 | y::ys=>by simp only [List.map_cons,List.sum_cons,sizeDs,Ql0 ys]
theorem Tr.sliceS {B n:Nat} {t e:TypeId} {cs:List Value} {z:Nat} (h:Tr P W B n t cs) (ht:P.underlying t=some (.slice e)) (hz:P.cellsOf e=z) (hz0:0 < z) :
 ∃ (s:Sl) (css:List (List Value)) (bs:List Nat) (m:Nat),m < n∧cs=[slv s]∧s.len≤s.cap∧css.length=s.len∧bs.length=s.len∧rdsl (heapOf W) s css.flatten∧bs.sum+1≤B∧s.len≤B∧∀ (i:Nat) (c:List Value) (b:Nat),css[i]? = some c→bs[i]? = some b→Tr P W b m e c:=by
 obtain ⟨H,enc,x,h,hB⟩:=h
 obtain ⟨s,css,ys,m,hm,p0,p1,p2,p3,p4,p5,p6⟩:=Ql1 ht (by omega) h
 have hl:=Qj1 (ys.map (·.1))
 rw [List.length_map] at hl
 refine ⟨s,css,ys.map fun y=>sizeD y.1,m,hm,p0,p1,p2,by rw [List.length_map]; exact p3,p4,by rw [Ql0]; omega,by omega,fun i c b hc hb=>?_⟩
 rw [List.getElem?_map] at hb
 cases hy:ys[i]? with
 | none=>rw [hy] at hb; cases hb
 | some y=>
  rw [hy] at hb
  injection hb with hb
  exact ⟨H,enc,y,(p6 i c y hc hy).2,by rw [← hb]; exact Nat.le_refl _⟩
theorem Tr.structS {B n:Nat} {t:TypeId} {fs:Array Field} {cs:List Value} (h:Tr P W B n t cs) (ht:P.underlying t=some (.struct fs)) :
 cs.length=P.cellsOf t∧∃ (m:Nat) (bs:List Nat),n=m+1∧bs.length=fs.size∧bs.sum+1≤B∧∀ (i:Nat) (f:Field) (b:Nat),fs[i]? = some f→bs[i]? = some b→Tr P W b m f.type ((cs.drop f.offset).take (P.cellsOf f.type)):=by
 obtain ⟨H,enc,x,h,hB⟩:=h
 obtain ⟨xs,m,rfl,hx,hl,hxl,hf⟩:=DataW.trod_struct ht h
 refine ⟨hl,m,xs.map fun y=>sizeD y.1,rfl,by rw [List.length_map]; exact hxl,by rw [Ql0]; rw [hx] at hB; simp only [sizeD] at hB; omega,fun i f b hi hb=>?_⟩
 have h1:=hf i f hi
 have h2:i < fs.size:=(Array.getElem?_eq_some_iff.1 hi).1
 rw [List.getElem?_map,List.getElem?_eq_getElem (by omega)] at hb
 injection hb with hb
 rw [List.getElem?_eq_getElem (by omega)] at h1
 exact ⟨H,enc,_,h1,by rw [← hb]; exact Nat.le_refl _⟩
theorem Qfk {α β:Type} {R:α→β→Prop} {c:β→List Value} {f:α→Nat} {t e:TypeId} {z n B:Nat} {cs:List Value} (h:Tr P W B n t cs) (ht:P.underlying t=some (.slice e)) (hz:P.cellsOf e=z) (hz0:0 < z) (hB:B≤1000000000)
 (ih:∀ m,m < n→∀ cs b,b≤1000000000→Tr P W b m e cs→∃ (v:α) (x:β),cs=c x∧R v x∧f v≤b):∃ (s:Sl) (l:List α),cs=[slv s]∧SlIs R c (heapOf W) s l∧s.len≤s.cap∧sL f l+1≤B∧l.length≤B:=by
 obtain ⟨s,css,bs,m,hm,h1,h2,h3,h4,h5,h6,h7,h8⟩:=h.sliceS ht hz hz0
 have key:∀ (css:List (List Value)) (bs:List Nat),css.length=bs.length→bs.sum≤1000000000→(∀ (i:Nat) (c':List Value) (b:Nat),css[i]? = some c'→bs[i]? = some b→Tr P W b m e c')→∃ (l:List α) (xs:List β),css.flatten=xs.flatMap c∧css.length=xs.length∧l.length=xs.length∧sL f l≤bs.sum∧∀ (i:Nat) (v:α) (x:β),l[i]? = some v→xs[i]? = some x→R v x:=by
  intro css
  induction css with
  | nil=>intro bs _ _ _; exact ⟨[],[],rfl,rfl,rfl,Nat.zero_le _,fun i v x hv=>by simp at hv⟩
  | cons c' css ihc=>
   intro bs hl hb hh
   cases bs with
   | nil=>simp at hl
   | cons b bs=>
    rw [List.sum_cons] at hb
    obtain ⟨v,x,g1,g2,g3⟩:=ih m hm c' b (by omega) (hh 0 c' b rfl rfl)
    obtain ⟨l,xs,k1,k2,k3,k5,k4⟩:=ihc bs (by simpa using hl) (by omega) fun i c' b hc hb=>hh (i+1) c' b (by simpa using hc) (by simpa using hb)
    refine ⟨v::l,x::xs,by rw [List.flatten_cons,List.flatMap_cons,k1,g1],by simp [k2],by simp [k3],by simp only [sL,List.sum_cons]; omega,fun i v' x' hv hx=>?_⟩
    cases i with
    | zero=>simp at hv hx; subst hv; subst hx; exact g2
    | succ i=>exact k4 i v' x' (by simpa using hv) (by simpa using hx)
 obtain ⟨l,xs,k1,k2,k3,k5,k4⟩:=key css bs (by omega) (by omega) h8
 exact ⟨s,l,h1,⟨xs,by rw [← k1]; exact h5,by omega,k3,by omega,k4⟩,h2,by omega,by omega⟩
theorem Qu1 {t tl:TypeId} (hT:ValT P t tl) {n B:Nat} {cs:List Value} (h:Tr P W B n t cs) (hB:B≤1000000000):∃ (v:V) (y:Qe),cs=Qe.c y∧VIs (heapOf W) v y∧VB v:=by
 obtain ⟨H,enc,x,h,hx⟩:=h
 obtain ⟨v,y,h1,h2,h3,_⟩:=QvG hT n h (by omega)
 exact ⟨v,y,h1,h2,h3⟩
end
section
variable {W:World}
theorem valT6:ValT Tryz.prog 38 36:=⟨⟨_,Tryz.underlying38,rfl,⟨_,_,rfl,rfl,rfl,Tryz.underlying5,by kernel_rfl⟩,⟨_,_,rfl,rfl,rfl,Tryz.underlying2,by kernel_rfl⟩,⟨_,_,rfl,rfl,rfl,Tryz.underlying9,by kernel_rfl⟩,⟨_,rfl,rfl,rfl,by kernel_rfl⟩⟩,by kernel_rfl,Tryz.underlying36⟩
theorem Qnv {n B:Nat} {cs:List Value} (h:Tr Tryz.prog W B n 26 cs):∃ p:Pl,cs=[.int .i64 (psP p).Line,.int .i64 (psP p).Col]:=by
 obtain ⟨hl,m,rfl,hf⟩:=h.struct Tryz.underlying26
 rw [show Tryz.prog.cellsOf 26=2 by kernel_rfl] at hl
 match cs,hl with
 | [q0,q1],_=>
 have g0:Tr Tryz.prog W B m 3 (([q0,q1].drop 0).take (Tryz.prog.cellsOf 3)):=hf 0 _ rfl
 have g1:Tr Tryz.prog W B m 3 (([q0,q1].drop 1).take (Tryz.prog.cellsOf 3)):=hf 1 _ rfl
 rw [show Tryz.prog.cellsOf 3=1 by kernel_rfl] at g0 g1
 obtain ⟨x0,e0,_⟩:=g0.int Tryz.underlying3
 obtain ⟨x1,e1,_⟩:=g1.int Tryz.underlying3
 refine ⟨(x0,x1),?_⟩
 injection e0 with e0; injection e1 with e1
 rw [e0,e1]; rfl
theorem Qud:∀ (n:Nat) {cs:List Value} {B:Nat},B≤1000000000→Tr Tryz.prog W B n 24 cs→∃ (v:TyV) (x:Qd),cs=Qd.c x∧TyIs (heapOf W) v x∧tySz v≤B:=by
 intro n
 induction n using Nat.strongRecOn with
 | _ n ih=>
 intro cs B hB h
 have hpos:=h.pos
 obtain ⟨hl,m,bs,rfl,hbl,hbs,hf⟩:=h.structS Tryz.underlying24
 rw [show Tryz.prog.cellsOf 24=2 by kernel_rfl] at hl
 match cs,hl,bs,hbl,hbs,hf with
 | [q0,q1],_,[y0,y1],_,hbs,hf=>
 simp only [List.sum_cons,List.sum_nil] at hbs
 have g0:Tr Tryz.prog W y0 m 9 (([q0,q1].drop 0).take (Tryz.prog.cellsOf 9)):=hf 0 _ y0 rfl rfl
 rw [show Tryz.prog.cellsOf 9=1 by kernel_rfl] at g0
 replace g0:Tr Tryz.prog W y0 m 9 [q0]:=g0
 obtain ⟨x0,e0,_,w0⟩:=g0.str Tryz.underlying9
 have w0:x0.length≤140737488355328:=by omega
 have g1:Tr Tryz.prog W y1 m 22 (([q0,q1].drop 1).take (Tryz.prog.cellsOf 22)):=hf 1 _ y1 rfl rfl
 rw [show Tryz.prog.cellsOf 22=1 by kernel_rfl] at g1
 replace g1:Tr Tryz.prog W y1 m 22 [q1]:=g1
 obtain ⟨x1,l1,e1,r1,c1,s1,_⟩:=Qfk (R:=(TyIs (heapOf W))) (c:=Qd.c) (f:=tySz) g1 Tryz.underlying22 (show Tryz.prog.cellsOf 24=2 by kernel_rfl) (by omega) (by omega) (fun m hm cs b hb hc=>ih m (by omega) hb hc)
 exact ⟨.mk x0 l1,⟨x0,x1⟩,(show [q0,q1]=[q0]++([q1]) from rfl).trans (by rw [e0,e1]; rfl),Qej.2 ⟨⟨rfl,w0⟩,r1⟩,by rw [Qpe]; show sL tySz l1+1≤B; omega⟩
theorem QmA:∀ (n:Nat) {cs:List Value} {B:Nat},B≤1000000000→Tr Tryz.prog W B n 31 cs→∃ (v:FdV) (x:Qf),cs=Qf.c x∧FdIs (heapOf W) v x∧(fun f:FdV=>tySz f.t) v≤B:=by
 intro n
 intro cs B hB h
 have hpos:=h.pos
 obtain ⟨hl,m,bs,rfl,hbl,hbs,hf⟩:=h.structS Tryz.underlying31
 rw [show Tryz.prog.cellsOf 31=3 by kernel_rfl] at hl
 match cs,hl,bs,hbl,hbs,hf with
 | [q0,q1,q2],_,[y0,y1],_,hbs,hf=>
 simp only [List.sum_cons,List.sum_nil] at hbs
 have g0:Tr Tryz.prog W y0 m 9 (([q0,q1,q2].drop 0).take (Tryz.prog.cellsOf 9)):=hf 0 _ y0 rfl rfl
 rw [show Tryz.prog.cellsOf 9=1 by kernel_rfl] at g0
 replace g0:Tr Tryz.prog W y0 m 9 [q0]:=g0
 obtain ⟨x0,e0,_,w0⟩:=g0.str Tryz.underlying9
 have w0:x0.length≤140737488355328:=by omega
 have g1:Tr Tryz.prog W y1 m 24 (([q0,q1,q2].drop 1).take (Tryz.prog.cellsOf 24)):=hf 1 _ y1 rfl rfl
 rw [show Tryz.prog.cellsOf 24=2 by kernel_rfl] at g1
 replace g1:Tr Tryz.prog W y1 m 24 [q1,q2]:=g1
 obtain ⟨v1,x1,e1,r1,s1⟩:=Qud _ (by omega) g1
 exact ⟨⟨x0,v1⟩,⟨x0,x1⟩,(show [q0,q1,q2]=[q0]++([q1,q2]) from rfl).trans (by rw [e0,e1]; rfl),⟨⟨rfl,w0⟩,r1⟩,by show tySz v1≤B; omega⟩
theorem QrA:∀ (n:Nat) {cs:List Value} {B:Nat},B≤1000000000→Tr Tryz.prog W B n 40 cs→∃ (v:ExP) (x:Qb),cs=Qb.c x∧EpIs (heapOf W) v x∧(fun v:ExP=>exSz v.e) v≤B:=by
 intro n
 induction n using Nat.strongRecOn with
 | _ n ih=>
 intro cs B hB h
 have hpos:=h.pos
 obtain ⟨hl,m,bs,rfl,hbl,hbs,hf⟩:=h.structS Tryz.underlying40
 rw [show Tryz.prog.cellsOf 40=9 by kernel_rfl] at hl
 match cs,hl,bs,hbl,hbs,hf with
 | [q0,q1,q2,q3,q4,q5,q6,q7,q8],_,[y0,y1,y2,y3,y4],_,hbs,hf=>
 simp only [List.sum_cons,List.sum_nil] at hbs
 have g0:Tr Tryz.prog W y0 m 5 (([q0,q1,q2,q3,q4,q5,q6,q7,q8].drop 0).take (Tryz.prog.cellsOf 5)):=hf 0 _ y0 rfl rfl
 rw [show Tryz.prog.cellsOf 5=1 by kernel_rfl] at g0
 replace g0:Tr Tryz.prog W y0 m 5 [q0]:=g0
 obtain ⟨x0,e0,_⟩:=g0.int Tryz.underlying5
 have g1:Tr Tryz.prog W y1 m 26 (([q0,q1,q2,q3,q4,q5,q6,q7,q8].drop 1).take (Tryz.prog.cellsOf 26)):=hf 1 _ y1 rfl rfl
 rw [show Tryz.prog.cellsOf 26=2 by kernel_rfl] at g1
 replace g1:Tr Tryz.prog W y1 m 26 [q1,q2]:=g1
 obtain ⟨p1,e1⟩:=Qnv g1
 have g2:Tr Tryz.prog W y2 m 9 (([q0,q1,q2,q3,q4,q5,q6,q7,q8].drop 3).take (Tryz.prog.cellsOf 9)):=hf 2 _ y2 rfl rfl
 rw [show Tryz.prog.cellsOf 9=1 by kernel_rfl] at g2
 replace g2:Tr Tryz.prog W y2 m 9 [q3]:=g2
 obtain ⟨x2,e2,_,w2⟩:=g2.str Tryz.underlying9
 have w2:x2.length≤140737488355328:=by omega
 have g3:Tr Tryz.prog W y3 m 38 (([q0,q1,q2,q3,q4,q5,q6,q7,q8].drop 4).take (Tryz.prog.cellsOf 38)):=hf 3 _ y3 rfl rfl
 rw [show Tryz.prog.cellsOf 38=4 by kernel_rfl] at g3
 replace g3:Tr Tryz.prog W y3 m 38 [q4,q5,q6,q7]:=g3
 obtain ⟨v3,x3,e3,r3,b3⟩:=Qu1 valT6 g3 (by omega)
 have g4:Tr Tryz.prog W y4 m 33 (([q0,q1,q2,q3,q4,q5,q6,q7,q8].drop 8).take (Tryz.prog.cellsOf 33)):=hf 4 _ y4 rfl rfl
 rw [show Tryz.prog.cellsOf 33=1 by kernel_rfl] at g4
 replace g4:Tr Tryz.prog W y4 m 33 [q8]:=g4
 obtain ⟨x4,l4,e4,r4,c4,s4,_⟩:=Qfk (R:=(EpIs (heapOf W))) (c:=Qb.c) (f:=(fun v:ExP=>exSz v.e)) g4 Tryz.underlying33 (show Tryz.prog.cellsOf 40=9 by kernel_rfl) (by omega) (by omega) (fun m hm cs b hb hc=>ih m (by omega) hb hc)
 exact ⟨.mk p1 x0 x2 v3 l4,⟨x0,psP p1,x2,x3,x4⟩,(show [q0,q1,q2,q3,q4,q5,q6,q7,q8]=[q0]++([q1,q2]++([q3]++([q4,q5,q6,q7]++([q8])))) from rfl).trans (by rw [e0,e1,e2,e3,e4]; rfl),QjV.2 ⟨rfl,rfl,⟨rfl,w2⟩,r3,b3,r4⟩,by show exSz (ExP.e (.mk p1 x0 x2 v3 l4))≤B; rw [ExP.e_eq,Qp9]; show sL exSz (l4.map ExP.e)+1≤B; rw [Qks]; omega⟩
theorem Qn5:∀ (n:Nat) {cs:List Value} {B:Nat},B≤1000000000→Tr Tryz.prog W B n 35 cs→∃ (v:LiP) (x:Qk),cs=Qk.c x∧LpIs (heapOf W) v x∧(fun v:LiP=>liSz v.e) v≤B:=by
 intro n
 intro cs B hB h
 have hpos:=h.pos
 obtain ⟨hl,m,bs,rfl,hbl,hbs,hf⟩:=h.structS Tryz.underlying35
 rw [show Tryz.prog.cellsOf 35=5 by kernel_rfl] at hl
 match cs,hl,bs,hbl,hbs,hf with
 | [q0,q1,q2,q3,q4],_,[y0,y1,y2,y3],_,hbs,hf=>
 simp only [List.sum_cons,List.sum_nil] at hbs
 have g0:Tr Tryz.prog W y0 m 5 (([q0,q1,q2,q3,q4].drop 0).take (Tryz.prog.cellsOf 5)):=hf 0 _ y0 rfl rfl
 rw [show Tryz.prog.cellsOf 5=1 by kernel_rfl] at g0
 replace g0:Tr Tryz.prog W y0 m 5 [q0]:=g0
 obtain ⟨x0,e0,_⟩:=g0.int Tryz.underlying5
 have g1:Tr Tryz.prog W y1 m 26 (([q0,q1,q2,q3,q4].drop 1).take (Tryz.prog.cellsOf 26)):=hf 1 _ y1 rfl rfl
 rw [show Tryz.prog.cellsOf 26=2 by kernel_rfl] at g1
 replace g1:Tr Tryz.prog W y1 m 26 [q1,q2]:=g1
 obtain ⟨p1,e1⟩:=Qnv g1
 have g2:Tr Tryz.prog W y2 m 9 (([q0,q1,q2,q3,q4].drop 3).take (Tryz.prog.cellsOf 9)):=hf 2 _ y2 rfl rfl
 rw [show Tryz.prog.cellsOf 9=1 by kernel_rfl] at g2
 replace g2:Tr Tryz.prog W y2 m 9 [q3]:=g2
 obtain ⟨x2,e2,_,w2⟩:=g2.str Tryz.underlying9
 have w2:x2.length≤140737488355328:=by omega
 have g3:Tr Tryz.prog W y3 m 33 (([q0,q1,q2,q3,q4].drop 4).take (Tryz.prog.cellsOf 33)):=hf 3 _ y3 rfl rfl
 rw [show Tryz.prog.cellsOf 33=1 by kernel_rfl] at g3
 replace g3:Tr Tryz.prog W y3 m 33 [q4]:=g3
 obtain ⟨x3,l3,e3,r3,c3,s3,_⟩:=Qfk (R:=(EpIs (heapOf W))) (c:=Qb.c) (f:=(fun v:ExP=>exSz v.e)) g3 Tryz.underlying33 (show Tryz.prog.cellsOf 40=9 by kernel_rfl) (by omega) (by omega) (fun m hm cs b hb hc=>QrA m hb hc)
 exact ⟨⟨p1,x0,x2,l3⟩,⟨x0,psP p1,x2,x3⟩,(show [q0,q1,q2,q3,q4]=[q0]++([q1,q2]++([q3]++([q4]))) from rfl).trans (by rw [e0,e1,e2,e3]; rfl),⟨rfl,rfl,⟨rfl,w2⟩,r3⟩,by show sL exSz (l3.map ExP.e)+1≤B; rw [Qks]; omega⟩
theorem Qq9:∀ (n:Nat) {cs:List Value} {B:Nat},B≤1000000000→Tr Tryz.prog W B n 63 cs→∃ (v:CnV) (x:Qg),cs=Qg.c x∧CnIs (heapOf W) v x∧cnSz v≤B:=by
 intro n
 intro cs B hB h
 have hpos:=h.pos
 obtain ⟨hl,m,bs,rfl,hbl,hbs,hf⟩:=h.structS Tryz.underlying63
 rw [show Tryz.prog.cellsOf 63=2 by kernel_rfl] at hl
 match cs,hl,bs,hbl,hbs,hf with
 | [q0,q1],_,[y0,y1],_,hbs,hf=>
 simp only [List.sum_cons,List.sum_nil] at hbs
 have g0:Tr Tryz.prog W y0 m 9 (([q0,q1].drop 0).take (Tryz.prog.cellsOf 9)):=hf 0 _ y0 rfl rfl
 rw [show Tryz.prog.cellsOf 9=1 by kernel_rfl] at g0
 replace g0:Tr Tryz.prog W y0 m 9 [q0]:=g0
 obtain ⟨x0,e0,_,w0⟩:=g0.str Tryz.underlying9
 have w0:x0.length≤140737488355328:=by omega
 have g1:Tr Tryz.prog W y1 m 27 (([q0,q1].drop 1).take (Tryz.prog.cellsOf 27)):=hf 1 _ y1 rfl rfl
 rw [show Tryz.prog.cellsOf 27=1 by kernel_rfl] at g1
 replace g1:Tr Tryz.prog W y1 m 27 [q1]:=g1
 obtain ⟨x1,l1,e1,r1,c1,s1,_⟩:=Qfk (R:=(FdIs (heapOf W))) (c:=Qf.c) (f:=(fun f:FdV=>tySz f.t)) g1 Tryz.underlying27 (show Tryz.prog.cellsOf 31=3 by kernel_rfl) (by omega) (by omega) (fun m hm cs b hb hc=>QmA m hb hc)
 exact ⟨⟨x0,l1⟩,⟨x0,x1⟩,(show [q0,q1]=[q0]++([q1]) from rfl).trans (by rw [e0,e1]; rfl),⟨⟨rfl,w0⟩,r1⟩,by show sL (fun f:FdV=>tySz f.t) l1+1≤B; omega⟩
theorem Qra:∀ (n:Nat) {cs:List Value} {B:Nat},B≤1000000000→Tr Tryz.prog W B n 66 cs→∃ (v:TdP) (x:Qc),cs=Qc.c x∧TpIs (heapOf W) v x∧(fun v:TdP=>tdSz v.e) v≤B:=by
 intro n
 intro cs B hB h
 have hpos:=h.pos
 obtain ⟨hl,m,bs,rfl,hbl,hbs,hf⟩:=h.structS Tryz.underlying66
 rw [show Tryz.prog.cellsOf 66=6 by kernel_rfl] at hl
 match cs,hl,bs,hbl,hbs,hf with
 | [q0,q1,q2,q3,q4,q5],_,[y0,y1,y2,y3,y4],_,hbs,hf=>
 simp only [List.sum_cons,List.sum_nil] at hbs
 have g0:Tr Tryz.prog W y0 m 26 (([q0,q1,q2,q3,q4,q5].drop 0).take (Tryz.prog.cellsOf 26)):=hf 0 _ y0 rfl rfl
 rw [show Tryz.prog.cellsOf 26=2 by kernel_rfl] at g0
 replace g0:Tr Tryz.prog W y0 m 26 [q0,q1]:=g0
 obtain ⟨p0,e0⟩:=Qnv g0
 have g1:Tr Tryz.prog W y1 m 4 (([q0,q1,q2,q3,q4,q5].drop 2).take (Tryz.prog.cellsOf 4)):=hf 1 _ y1 rfl rfl
 rw [show Tryz.prog.cellsOf 4=1 by kernel_rfl] at g1
 replace g1:Tr Tryz.prog W y1 m 4 [q2]:=g1
 obtain ⟨x1,e1⟩:=g1.bool Tryz.underlying4
 have g2:Tr Tryz.prog W y2 m 9 (([q0,q1,q2,q3,q4,q5].drop 3).take (Tryz.prog.cellsOf 9)):=hf 2 _ y2 rfl rfl
 rw [show Tryz.prog.cellsOf 9=1 by kernel_rfl] at g2
 replace g2:Tr Tryz.prog W y2 m 9 [q3]:=g2
 obtain ⟨x2,e2,_,w2⟩:=g2.str Tryz.underlying9
 have w2:x2.length≤140737488355328:=by omega
 have g3:Tr Tryz.prog W y3 m 43 (([q0,q1,q2,q3,q4,q5].drop 4).take (Tryz.prog.cellsOf 43)):=hf 3 _ y3 rfl rfl
 rw [show Tryz.prog.cellsOf 43=1 by kernel_rfl] at g3
 replace g3:Tr Tryz.prog W y3 m 43 [q4]:=g3
 obtain ⟨x3,l3,e3,r3,c3,s3,_⟩:=Qfk (R:=(fun (v:Str) (x:Str)=>Nm x v)) (c:=(fun x=>[sv x])) (f:=(fun _:Str=>1)) g3 Tryz.underlying43 (show Tryz.prog.cellsOf 9=1 by kernel_rfl) (by omega) (by omega) (fun m hm cs b hb hc=>by have h1:=hc.pos; obtain ⟨s,hs,_,hw⟩:=hc.str Tryz.underlying9; exact ⟨s,s,hs,⟨rfl,by omega⟩,h1⟩)
 have g4:Tr Tryz.prog W y4 m 64 (([q0,q1,q2,q3,q4,q5].drop 5).take (Tryz.prog.cellsOf 64)):=hf 4 _ y4 rfl rfl
 rw [show Tryz.prog.cellsOf 64=1 by kernel_rfl] at g4
 replace g4:Tr Tryz.prog W y4 m 64 [q5]:=g4
 obtain ⟨x4,l4,e4,r4,c4,s4,_⟩:=Qfk (R:=(CnIs (heapOf W))) (c:=Qg.c) (f:=cnSz) g4 Tryz.underlying64 (show Tryz.prog.cellsOf 63=2 by kernel_rfl) (by omega) (by omega) (fun m hm cs b hb hc=>Qq9 m hb hc)
 exact ⟨⟨p0,x1,x2,l3,l4⟩,⟨psP p0,x1,x2,x3,x4⟩,(show [q0,q1,q2,q3,q4,q5]=[q0,q1]++([q2]++([q3]++([q4]++([q5])))) from rfl).trans (by rw [e0,e1,e2,e3,e4]; rfl),⟨rfl,rfl,⟨rfl,w2⟩,⟨r3,c3⟩,r4⟩,by show sL cnSz l4+l3.length+1≤B; rw [Qnx] at s3; omega⟩
theorem QrD:∀ (n:Nat) {cs:List Value} {B:Nat},B≤1000000000→Tr Tryz.prog W B n 29 cs→∃ (v:RdP) (x:Qh),cs=Qh.c x∧RpIs (heapOf W) v x∧(fun v:RdP=>rdSz v.e) v≤B:=by
 intro n
 intro cs B hB h
 have hpos:=h.pos
 obtain ⟨hl,m,bs,rfl,hbl,hbs,hf⟩:=h.structS Tryz.underlying29
 rw [show Tryz.prog.cellsOf 29=6 by kernel_rfl] at hl
 match cs,hl,bs,hbl,hbs,hf with
 | [q0,q1,q2,q3,q4,q5],_,[y0,y1,y2,y3,y4],_,hbs,hf=>
 simp only [List.sum_cons,List.sum_nil] at hbs
 have g0:Tr Tryz.prog W y0 m 26 (([q0,q1,q2,q3,q4,q5].drop 0).take (Tryz.prog.cellsOf 26)):=hf 0 _ y0 rfl rfl
 rw [show Tryz.prog.cellsOf 26=2 by kernel_rfl] at g0
 replace g0:Tr Tryz.prog W y0 m 26 [q0,q1]:=g0
 obtain ⟨p0,e0⟩:=Qnv g0
 have g1:Tr Tryz.prog W y1 m 4 (([q0,q1,q2,q3,q4,q5].drop 2).take (Tryz.prog.cellsOf 4)):=hf 1 _ y1 rfl rfl
 rw [show Tryz.prog.cellsOf 4=1 by kernel_rfl] at g1
 replace g1:Tr Tryz.prog W y1 m 4 [q2]:=g1
 obtain ⟨x1,e1⟩:=g1.bool Tryz.underlying4
 have g2:Tr Tryz.prog W y2 m 4 (([q0,q1,q2,q3,q4,q5].drop 3).take (Tryz.prog.cellsOf 4)):=hf 2 _ y2 rfl rfl
 rw [show Tryz.prog.cellsOf 4=1 by kernel_rfl] at g2
 replace g2:Tr Tryz.prog W y2 m 4 [q3]:=g2
 obtain ⟨x2,e2⟩:=g2.bool Tryz.underlying4
 have g3:Tr Tryz.prog W y3 m 9 (([q0,q1,q2,q3,q4,q5].drop 4).take (Tryz.prog.cellsOf 9)):=hf 3 _ y3 rfl rfl
 rw [show Tryz.prog.cellsOf 9=1 by kernel_rfl] at g3
 replace g3:Tr Tryz.prog W y3 m 9 [q4]:=g3
 obtain ⟨x3,e3,_,w3⟩:=g3.str Tryz.underlying9
 have w3:x3.length≤140737488355328:=by omega
 have g4:Tr Tryz.prog W y4 m 27 (([q0,q1,q2,q3,q4,q5].drop 5).take (Tryz.prog.cellsOf 27)):=hf 4 _ y4 rfl rfl
 rw [show Tryz.prog.cellsOf 27=1 by kernel_rfl] at g4
 replace g4:Tr Tryz.prog W y4 m 27 [q5]:=g4
 obtain ⟨x4,l4,e4,r4,c4,s4,_⟩:=Qfk (R:=(FdIs (heapOf W))) (c:=Qf.c) (f:=(fun f:FdV=>tySz f.t)) g4 Tryz.underlying27 (show Tryz.prog.cellsOf 31=3 by kernel_rfl) (by omega) (by omega) (fun m hm cs b hb hc=>QmA m hb hc)
 exact ⟨⟨p0,x1,x2,x3,l4⟩,⟨psP p0,x1,x2,x3,x4⟩,(show [q0,q1,q2,q3,q4,q5]=[q0,q1]++([q2]++([q3]++([q4]++([q5])))) from rfl).trans (by rw [e0,e1,e2,e3,e4]; rfl),⟨rfl,rfl,rfl,⟨rfl,w3⟩,r4⟩,by show sL (fun f:FdV=>tySz f.t) l4+1≤B; omega⟩
theorem Qua:∀ (n:Nat) {cs:List Value} {B:Nat},B≤1000000000→Tr Tryz.prog W B n 45 cs→∃ (v:RuP) (x:Qj),cs=Qj.c x∧UpIs (heapOf W) v x∧(fun v:RuP=>ruSz v.e) v≤B:=by
 intro n
 intro cs B hB h
 have hpos:=h.pos
 obtain ⟨hl,m,bs,rfl,hbl,hbs,hf⟩:=h.structS Tryz.underlying45
 rw [show Tryz.prog.cellsOf 45=6 by kernel_rfl] at hl
 match cs,hl,bs,hbl,hbs,hf with
 | [q0,q1,q2,q3,q4,q5],_,[y0,y1,y2,y3,y4],_,hbs,hf=>
 simp only [List.sum_cons,List.sum_nil] at hbs
 have g0:Tr Tryz.prog W y0 m 26 (([q0,q1,q2,q3,q4,q5].drop 0).take (Tryz.prog.cellsOf 26)):=hf 0 _ y0 rfl rfl
 rw [show Tryz.prog.cellsOf 26=2 by kernel_rfl] at g0
 replace g0:Tr Tryz.prog W y0 m 26 [q0,q1]:=g0
 obtain ⟨p0,e0⟩:=Qnv g0
 have g1:Tr Tryz.prog W y1 m 9 (([q0,q1,q2,q3,q4,q5].drop 2).take (Tryz.prog.cellsOf 9)):=hf 1 _ y1 rfl rfl
 rw [show Tryz.prog.cellsOf 9=1 by kernel_rfl] at g1
 replace g1:Tr Tryz.prog W y1 m 9 [q2]:=g1
 obtain ⟨x1,e1,_,w1⟩:=g1.str Tryz.underlying9
 have w1:x1.length≤140737488355328:=by omega
 have g2:Tr Tryz.prog W y2 m 33 (([q0,q1,q2,q3,q4,q5].drop 3).take (Tryz.prog.cellsOf 33)):=hf 2 _ y2 rfl rfl
 rw [show Tryz.prog.cellsOf 33=1 by kernel_rfl] at g2
 replace g2:Tr Tryz.prog W y2 m 33 [q3]:=g2
 obtain ⟨x2,l2,e2,r2,c2,s2,_⟩:=Qfk (R:=(EpIs (heapOf W))) (c:=Qb.c) (f:=(fun v:ExP=>exSz v.e)) g2 Tryz.underlying33 (show Tryz.prog.cellsOf 40=9 by kernel_rfl) (by omega) (by omega) (fun m hm cs b hb hc=>QrA m hb hc)
 have g3:Tr Tryz.prog W y3 m 43 (([q0,q1,q2,q3,q4,q5].drop 4).take (Tryz.prog.cellsOf 43)):=hf 3 _ y3 rfl rfl
 rw [show Tryz.prog.cellsOf 43=1 by kernel_rfl] at g3
 replace g3:Tr Tryz.prog W y3 m 43 [q4]:=g3
 obtain ⟨x3,l3,e3,r3,c3,s3,_⟩:=Qfk (R:=(fun (v:Str) (x:Str)=>Nm x v)) (c:=(fun x=>[sv x])) (f:=(fun _:Str=>1)) g3 Tryz.underlying43 (show Tryz.prog.cellsOf 9=1 by kernel_rfl) (by omega) (by omega) (fun m hm cs b hb hc=>by have h1:=hc.pos; obtain ⟨s,hs,_,hw⟩:=hc.str Tryz.underlying9; exact ⟨s,s,hs,⟨rfl,by omega⟩,h1⟩)
 have g4:Tr Tryz.prog W y4 m 42 (([q0,q1,q2,q3,q4,q5].drop 5).take (Tryz.prog.cellsOf 42)):=hf 4 _ y4 rfl rfl
 rw [show Tryz.prog.cellsOf 42=1 by kernel_rfl] at g4
 replace g4:Tr Tryz.prog W y4 m 42 [q5]:=g4
 obtain ⟨x4,l4,e4,r4,c4,s4,_⟩:=Qfk (R:=(LpIs (heapOf W))) (c:=Qk.c) (f:=(fun v:LiP=>liSz v.e)) g4 Tryz.underlying42 (show Tryz.prog.cellsOf 35=5 by kernel_rfl) (by omega) (by omega) (fun m hm cs b hb hc=>Qn5 m hb hc)
 exact ⟨⟨p0,x1,l2,l3,l4⟩,⟨psP p0,x1,x2,x3,x4⟩,(show [q0,q1,q2,q3,q4,q5]=[q0,q1]++([q2]++([q3]++([q4]++([q5])))) from rfl).trans (by rw [e0,e1,e2,e3,e4]; rfl),⟨rfl,⟨rfl,w1⟩,r2,r3,r4⟩,by show sL exSz (l2.map ExP.e)+sL liSz (l4.map LiP.e)+1≤B; rw [Qks,Qks]; omega⟩
theorem Qs0:∀ (n:Nat) {cs:List Value} {B:Nat},B≤1000000000→Tr Tryz.prog W B n 68 cs→∃ (v:NeP) (x:Qm),cs=Qm.c x∧NpIs (heapOf W) v x∧(fun v:NeP=>neSz v.e) v≤B:=by
 intro n
 intro cs B hB h
 have hpos:=h.pos
 obtain ⟨hl,m,bs,rfl,hbl,hbs,hf⟩:=h.structS Tryz.underlying68
 rw [show Tryz.prog.cellsOf 68=4 by kernel_rfl] at hl
 match cs,hl,bs,hbl,hbs,hf with
 | [q0,q1,q2,q3],_,[y0,y1,y2],_,hbs,hf=>
 simp only [List.sum_cons,List.sum_nil] at hbs
 have g0:Tr Tryz.prog W y0 m 26 (([q0,q1,q2,q3].drop 0).take (Tryz.prog.cellsOf 26)):=hf 0 _ y0 rfl rfl
 rw [show Tryz.prog.cellsOf 26=2 by kernel_rfl] at g0
 replace g0:Tr Tryz.prog W y0 m 26 [q0,q1]:=g0
 obtain ⟨p0,e0⟩:=Qnv g0
 have g1:Tr Tryz.prog W y1 m 9 (([q0,q1,q2,q3].drop 2).take (Tryz.prog.cellsOf 9)):=hf 1 _ y1 rfl rfl
 rw [show Tryz.prog.cellsOf 9=1 by kernel_rfl] at g1
 replace g1:Tr Tryz.prog W y1 m 9 [q2]:=g1
 obtain ⟨x1,e1,_,w1⟩:=g1.str Tryz.underlying9
 have w1:x1.length≤140737488355328:=by omega
 have g2:Tr Tryz.prog W y2 m 42 (([q0,q1,q2,q3].drop 3).take (Tryz.prog.cellsOf 42)):=hf 2 _ y2 rfl rfl
 rw [show Tryz.prog.cellsOf 42=1 by kernel_rfl] at g2
 replace g2:Tr Tryz.prog W y2 m 42 [q3]:=g2
 obtain ⟨x2,l2,e2,r2,c2,s2,_⟩:=Qfk (R:=(LpIs (heapOf W))) (c:=Qk.c) (f:=(fun v:LiP=>liSz v.e)) g2 Tryz.underlying42 (show Tryz.prog.cellsOf 35=5 by kernel_rfl) (by omega) (by omega) (fun m hm cs b hb hc=>Qn5 m hb hc)
 exact ⟨⟨p0,x1,l2⟩,⟨psP p0,x1,x2⟩,(show [q0,q1,q2,q3]=[q0,q1]++([q2]++([q3])) from rfl).trans (by rw [e0,e1,e2]; rfl),⟨rfl,⟨rfl,w1⟩,r2⟩,by show sL liSz (l2.map LiP.e)+1≤B; rw [Qks]; omega⟩
theorem QrB:∀ (n:Nat) {cs:List Value} {B:Nat},B≤1000000000→Tr Tryz.prog W B n 48 cs→∃ (v:ImP) (x:Qp),cs=Qp.c x∧IpIs v x∧(fun _:ImP=>1) v≤B:=by
 intro n
 intro cs B hB h
 have hpos:=h.pos
 obtain ⟨hl,m,bs,rfl,hbl,hbs,hf⟩:=h.structS Tryz.underlying48
 rw [show Tryz.prog.cellsOf 48=3 by kernel_rfl] at hl
 match cs,hl,bs,hbl,hbs,hf with
 | [q0,q1,q2],_,[y0,y1],_,hbs,hf=>
 simp only [List.sum_cons,List.sum_nil] at hbs
 have g0:Tr Tryz.prog W y0 m 26 (([q0,q1,q2].drop 0).take (Tryz.prog.cellsOf 26)):=hf 0 _ y0 rfl rfl
 rw [show Tryz.prog.cellsOf 26=2 by kernel_rfl] at g0
 replace g0:Tr Tryz.prog W y0 m 26 [q0,q1]:=g0
 obtain ⟨p0,e0⟩:=Qnv g0
 have g1:Tr Tryz.prog W y1 m 9 (([q0,q1,q2].drop 2).take (Tryz.prog.cellsOf 9)):=hf 1 _ y1 rfl rfl
 rw [show Tryz.prog.cellsOf 9=1 by kernel_rfl] at g1
 replace g1:Tr Tryz.prog W y1 m 9 [q2]:=g1
 obtain ⟨x1,e1,_,w1⟩:=g1.str Tryz.underlying9
 have w1:x1.length≤140737488355328:=by omega
 exact ⟨⟨p0,x1⟩,⟨psP p0,x1⟩,(show [q0,q1,q2]=[q0,q1]++([q2]) from rfl).trans (by rw [e0,e1]; rfl),⟨rfl,rfl,w1⟩,by omega⟩
theorem QrC:∀ (n:Nat) {cs:List Value} {B:Nat},B≤1000000000→Tr Tryz.prog W B n 55 cs→∃ (v:MoP) (x:Qa),cs=Qa.c x∧MpIs (heapOf W) v x∧(fun v:MoP=>moSz v.e) v≤B:=by
 intro n
 intro cs B hB h
 have hpos:=h.pos
 obtain ⟨hl,m,bs,rfl,hbl,hbs,hf⟩:=h.structS Tryz.underlying55
 rw [show Tryz.prog.cellsOf 55=6 by kernel_rfl] at hl
 match cs,hl,bs,hbl,hbs,hf with
 | [q0,q1,q2,q3,q4,q5],_,[y0,y1,y2,y3,y4,y5],_,hbs,hf=>
 simp only [List.sum_cons,List.sum_nil] at hbs
 have g0:Tr Tryz.prog W y0 m 9 (([q0,q1,q2,q3,q4,q5].drop 0).take (Tryz.prog.cellsOf 9)):=hf 0 _ y0 rfl rfl
 rw [show Tryz.prog.cellsOf 9=1 by kernel_rfl] at g0
 replace g0:Tr Tryz.prog W y0 m 9 [q0]:=g0
 obtain ⟨x0,e0,_,w0⟩:=g0.str Tryz.underlying9
 have w0:x0.length≤140737488355328:=by omega
 have g1:Tr Tryz.prog W y1 m 49 (([q0,q1,q2,q3,q4,q5].drop 1).take (Tryz.prog.cellsOf 49)):=hf 1 _ y1 rfl rfl
 rw [show Tryz.prog.cellsOf 49=1 by kernel_rfl] at g1
 replace g1:Tr Tryz.prog W y1 m 49 [q1]:=g1
 obtain ⟨x1,l1,e1,r1,c1,s1,_⟩:=Qfk (R:=(IpIs)) (c:=Qp.c) (f:=(fun _:ImP=>1)) g1 Tryz.underlying49 (show Tryz.prog.cellsOf 48=3 by kernel_rfl) (by omega) (by omega) (fun m hm cs b hb hc=>QrB m hb hc)
 have g2:Tr Tryz.prog W y2 m 51 (([q0,q1,q2,q3,q4,q5].drop 2).take (Tryz.prog.cellsOf 51)):=hf 2 _ y2 rfl rfl
 rw [show Tryz.prog.cellsOf 51=1 by kernel_rfl] at g2
 replace g2:Tr Tryz.prog W y2 m 51 [q2]:=g2
 obtain ⟨x2,l2,e2,r2,c2,s2,_⟩:=Qfk (R:=(TpIs (heapOf W))) (c:=Qc.c) (f:=(fun v:TdP=>tdSz v.e)) g2 Tryz.underlying51 (show Tryz.prog.cellsOf 66=6 by kernel_rfl) (by omega) (by omega) (fun m hm cs b hb hc=>Qra m hb hc)
 have g3:Tr Tryz.prog W y3 m 50 (([q0,q1,q2,q3,q4,q5].drop 3).take (Tryz.prog.cellsOf 50)):=hf 3 _ y3 rfl rfl
 rw [show Tryz.prog.cellsOf 50=1 by kernel_rfl] at g3
 replace g3:Tr Tryz.prog W y3 m 50 [q3]:=g3
 obtain ⟨x3,l3,e3,r3,c3,s3,_⟩:=Qfk (R:=(RpIs (heapOf W))) (c:=Qh.c) (f:=(fun v:RdP=>rdSz v.e)) g3 Tryz.underlying50 (show Tryz.prog.cellsOf 29=6 by kernel_rfl) (by omega) (by omega) (fun m hm cs b hb hc=>QrD m hb hc)
 have g4:Tr Tryz.prog W y4 m 52 (([q0,q1,q2,q3,q4,q5].drop 4).take (Tryz.prog.cellsOf 52)):=hf 4 _ y4 rfl rfl
 rw [show Tryz.prog.cellsOf 52=1 by kernel_rfl] at g4
 replace g4:Tr Tryz.prog W y4 m 52 [q4]:=g4
 obtain ⟨x4,l4,e4,r4,c4,s4,_⟩:=Qfk (R:=(UpIs (heapOf W))) (c:=Qj.c) (f:=(fun v:RuP=>ruSz v.e)) g4 Tryz.underlying52 (show Tryz.prog.cellsOf 45=6 by kernel_rfl) (by omega) (by omega) (fun m hm cs b hb hc=>Qua m hb hc)
 have g5:Tr Tryz.prog W y5 m 53 (([q0,q1,q2,q3,q4,q5].drop 5).take (Tryz.prog.cellsOf 53)):=hf 5 _ y5 rfl rfl
 rw [show Tryz.prog.cellsOf 53=1 by kernel_rfl] at g5
 replace g5:Tr Tryz.prog W y5 m 53 [q5]:=g5
 obtain ⟨x5,l5,e5,r5,c5,s5,_⟩:=Qfk (R:=(NpIs (heapOf W))) (c:=Qm.c) (f:=(fun v:NeP=>neSz v.e)) g5 Tryz.underlying53 (show Tryz.prog.cellsOf 68=4 by kernel_rfl) (by omega) (by omega) (fun m hm cs b hb hc=>Qs0 m hb hc)
 exact ⟨⟨x0,l1,l2,l3,l4,l5⟩,⟨x0,x1,x2,x3,x4,x5⟩,(show [q0,q1,q2,q3,q4,q5]=[q0]++([q1]++([q2]++([q3]++([q4]++([q5]))))) from rfl).trans (by rw [e0,e1,e2,e3,e4,e5]; rfl),⟨⟨rfl,w0⟩,⟨r1,c1⟩,r2,r3,r4,r5⟩,by show (l1.map ImP.n).length+sL tdSz (l2.map TdP.e)+sL rdSz (l3.map RdP.e)+sL ruSz (l4.map RuP.e)+sL neSz (l5.map NeP.e)≤B; rw [Qks,Qks,Qks,Qks,List.length_map]; rw [Qnx] at s1; omega⟩
theorem QrJ {H : Type} {enc : TypeId × Value → H} {base : Nat} {v : Value} {d : DataW H} {p : List MemPlace} (hv : Value.okWide Tryz.prog W .any base 59 v) (h : DataW.Trod enc Tryz.prog W 0 (fun _ => true) true 59 v d p) (hs : sizeD d ≤ 1048576) :
 ∃ (s:Sl) (a:List MoP),v=slv s∧MpL (heapOf W) s a∧(∀ m ∈ a,moSz m.e≤1048576)∧a.length≤1048576∧s.len≤s.cap:=by
 obtain ⟨x,len,c,rfl⟩:=WideShapes.okWide_slice Tryz.underlying59 hv
 obtain ⟨n,hn⟩:=Tr.of h
 obtain ⟨s,a,h1,h2,h3,h4,h5⟩:=Qfk (R:=MpIs (heapOf W)) (c:=Qa.c) (f:=fun v:MoP=>moSz v.e) hn Tryz.underlying59 (show Tryz.prog.cellsOf 55=6 by kernel_rfl) (by omega) (by omega) (fun m hm cs b hb hc=>QrC m hb hc)
 have hm:∀ l:List MoP,∀ m ∈ l,moSz m.e≤sL (fun v:MoP=>moSz v.e) l:=by
  intro l
  induction l with
  | nil=>intro m h; cases h
  | cons y l ih=>
   intro m h
   simp only [sL]
   rcases List.mem_cons.1 h with rfl | h
   ·omega
   ·have:=ih m h; omega
 refine ⟨s,a,?_,h2,fun m hm'=>by have:=hm a m hm'; omega,by omega,h3⟩
 simpa [Value.cells] using h1
end
end
section
open Go Go.Proofs
section
variable {H:Type} {enc:TypeId×Value→H} {P:Program} {W:World}
theorem Qte {ti e : TypeId} (hti : P.underlying ti = some (.slice e)) (hte : P.underlying e = some (.int .i64)) (hc : P.cellsOf e = 1) {n : Nat} {cs : List Value} {x : DataW H × List MemPlace} (h : DataW.trod enc P W 0 (fun _ => true) true n ti cs = some x) (hs : sizeD x.1 ≤ 1048576) :
 ∃ (s:Sl) (l:List Int),cs=[slv s]∧IL (heapOf W) s l∧(∀ z ∈ l,-9223372036854775808≤z∧z≤9223372036854775807)∧l.length≤1048576∧s.len≤s.cap:=by
 obtain ⟨s,css,ys,m,hm,p0,p1,p2,p3,p4,p5,p6⟩:=Ql1 hti (by rw [hc]; omega) h
 have key : ∀ (css : List (List Value)) (ys : List (DataW H × List MemPlace)), css.length = ys.length → (∀ (i : Nat) (c : List Value) (y : DataW H × List MemPlace), css[i]? = some c → ys[i]? = some y → DataW.trod enc P W 0 (fun _ => true) true m e c = some y) →
  ∃ l:List Int,css.flatten=l.flatMap cI∧css.length=l.length∧∀ z ∈ l,-9223372036854775808≤z∧z≤9223372036854775807:=by
  intro css
  induction css with
  | nil=>intro ys _ _; exact ⟨[],rfl,rfl,fun z hz=>by cases hz⟩
  | cons c css ih=>
   intro ys hl hh
   cases ys with
   | nil=>simp at hl
   | cons y ys=>
    obtain ⟨z,z1,z2,z3⟩:=DataW.trod_int hte (hh 0 c y rfl rfl)
    obtain ⟨l,k1,k2,k3⟩:=ih ys (by simpa using hl) fun i c' y' a b=>hh (i+1) c' y' (by simpa using a) (by simpa using b)
    refine ⟨z::l,by rw [List.flatten_cons,List.flatMap_cons,k1,z1]; rfl,by simp [k2],fun q hq=>?_⟩
    rcases List.mem_cons.1 hq with rfl | hq
    ·simpa [Lit.wf,IntKind.min,IntKind.max,IntKind.signed,IntKind.bits] using z3
    ·exact k3 q hq
 obtain ⟨l,k1,k2,k3⟩:=key css ys (by omega) fun i c y hc hy=>(p6 i c y hc hy).2
 have hsl:=Qj1 (ys.map (·.1))
 rw [List.length_map] at hsl
 refine ⟨s,l,p0,⟨l,by rw [← k1]; exact p4,by omega,rfl,by omega,fun i v y hv hy=>by rw [hv] at hy; injection hy with hy; exact hy.symm⟩,k3,by omega,p1⟩
theorem QrI {ti e : TypeId} (hti : P.underlying ti = some (.slice e)) (hte : P.underlying e = some (.int .i64)) (hc : P.cellsOf e = 1) {base : Nat} {v : Value} {d : DataW H} {p : List MemPlace} (hv : Value.okWide P W .any base ti v) (h : DataW.Trod enc P W 0 (fun _ => true) true ti v d p) (hs : sizeD d ≤ 1048576) :
 ∃ (s:Sl) (l:List Int),v=slv s∧IL (heapOf W) s l∧(∀ z ∈ l,-9223372036854775808≤z∧z≤9223372036854775807)∧l.length≤1048576∧s.len≤s.cap:=by
 obtain ⟨a,len,c,rfl⟩:=WideShapes.okWide_slice hti hv
 obtain ⟨n,hn⟩:=h
 obtain ⟨s,ls,h1,h2⟩:=Qte hti hte hc hn hs
 exact ⟨s,ls,by simpa [Value.cells] using h1,h2⟩
end
end
section
open Go Go.Proofs
theorem QmB {C:Ctx} {H:Heap} (hT:MaxC C) (hFm:FmtC C) {a:List MoP} {s:Sl} {ps:List Int} {sp:Sl} (ha:MpL H s a∧(∀ m ∈ a,moSz m.e≤1048576)∧a.length≤1048576∧s.len≤s.cap) (hp:IL H sp ps):Qbs C s sp (fun r _=>r=true) H:=QnF hT hFm ha.1 ha.2.2.2 hp (fun m hm=>Nat.le_trans (ha.2.1 m hm) (by omega)) (Nat.le_trans ha.2.2.1 (by omega)) fun _=>rfl
end
end Sx
end
noncomputable section
set_option linter.unusedVariables false
namespace Go.Proofs.YtmeefnmaphmpkaaGreatDoor
open Sx
mutual
theorem Qql {H:Type}:∀ (d:DataW H),sizeD d≤Rows.uptoBulk d
 | .lit l=>by cases l <;> simp [sizeD,Rows.uptoBulk]
 | .nil=>by simp [sizeD,Rows.uptoBulk]
 | .ptr d=>by have:=Qql d; simp only [sizeD,Rows.uptoBulk]; omega
 | .slice e s=>by have:=QlC e; have:=QlC s; simp only [sizeD,Rows.uptoBulk]; omega
 | .agg p=>by have:=QlC p; simp only [sizeD,Rows.uptoBulk]; omega
 | .iface _ d=>by have:=Qql d; simp only [sizeD,Rows.uptoBulk]; omega
 | .map _=>by simp [sizeD,Rows.uptoBulk]
 | .held _=>by simp [sizeD,Rows.uptoBulk]
theorem QlC {H:Type}:∀ (l:List (DataW H)),sizeDs l≤Rows.uptoBulkAll l
 | []=>by simp [sizeDs,Rows.uptoBulkAll]
 | d::r=>by have:=Qql d; have:=QlC r; simp only [sizeDs,Rows.uptoBulkAll]; omega
end
theorem Qq3 {H:Type} {ds:List (DataW H)} (hk:Rows.uptoSmall H ds=true) {d:DataW H} (hd:d ∈ ds):sizeD d≤1048576:=by
 have h:Rows.uptoBulkAll ds≤1048576:=of_decide_eq_true hk
 have h1:=QlC ds
 have h2:=QhX hd
 omega
end Go.Proofs.YtmeefnmaphmpkaaGreatDoor
namespace Sx
open Go
end Sx
end

noncomputable section

end

