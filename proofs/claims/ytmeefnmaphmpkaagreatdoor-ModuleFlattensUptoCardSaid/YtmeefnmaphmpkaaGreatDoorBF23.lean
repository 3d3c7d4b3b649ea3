/-
  Texts of this family, one behind the other: Mod15, Mod16, Mod17, Mod18, Mod19, Mod20, Mod21, Mod22, Mod23, Mod24, Mod25, Mod26, Mod33, Mod34, Fl1, Fl2, Fl3, Fl4, Fl5, Fl6, Fl7, Fl8, Fl9, Fl10, Fl11, Fl12, Fl13, Fl14, Fl15, Fl16, Fl17, Fl18.
-/
import Derived.Test.YtmeefnmaphmpkaaGreatDoorBF22
noncomputable section
set_option linter.unusedVariables false
set_option linter.unusedSimpArgs false
set_option maxRecDepth 10000
namespace Sx
section
open Go Go.Proofs
theorem SnIs.new {H:Heap} {b:Nat}:SnIs (H.put b (.obj (.map #[] 0))) b (fun _=>false):=⟨[],MapS.new,fun j=>by simp [lkL]⟩
theorem Qt2 {l:List ImP} {s:Str}:(l.any fun y=>decide (y.n=s))=(l.map ImP.n).contains s:=by
 rw [Vn,List.any_eq_true,List.contains_iff_mem,List.mem_map]
 simp only [Vj]
section
variable {C:Ctx} {A H:Heap} {E:Value→HP}
theorem QtB {l:List MoP} {bp bm:Nat} {sl:Sl} {K:HP} (hP:Pr H bp bm sl) (hs:MpL A sl l) (T:A.le H) (c3:l.length≤8)
 (k:∀ D,H.le D→impA l l=none→impBf l 0 l=none→K D) (ke:∀ D e,H.le D→(impA l l=some e∨impA l l=none∧impBf l 0 l=some e)→E (flt e.1 e.2.1 e.2.2) D):Qca C E (some (bp,0)) K H:=by
 apply Qhz
 unfold Qd6
 obtain ⟨_,a2⟩:=hP.at_
 refine ⟨_,rfl,fL a2 (j:=0) rfl ?_⟩
 have a0:=SlIs.len hs
 refine ⟨fun y D=>H.le D∧∃ i:Nat,y=(i:Int)∧i≤l.length∧impA l l=impA l (l.drop i),fun y _=>l.length - y.toNat,⟨Heap.le.refl _,0,rfl,Nat.zero_le _,by simp⟩,?_⟩
 rintro _ D ⟨U,i,rfl,hi,hn⟩
 rw [a0]
 refine ift.of (fun h=>?_) (fun h=>?_)
 ·have M : i < l.length := by have := Vb h; omega
  refine hs.ld (T.trans U) (fun _=>rfl) (by omega) rfl M fun y hy=>?_
  rw [QbK M,impA] at hn
  generalize l[i]=m at *
  obtain ⟨Y,t,_⟩:=hy
  have a7:=SlIs.len t.1
  have b6:=SlIs.bd t.1
  refine boxZ rfl fun b5 D1 c7 a6 O=>?_
  refine fL O (j:=1) rfl ?_
  refine ⟨fun y' D'=>D1.le D'∧∃ j:Nat,y' = (j:Int)∧j≤m.im.length∧impA1 l m.n [] m.im=impA1 l m.n ((m.im.take j).map ImP.n) (m.im.drop j),fun y' _=>m.im.length - y'.toNat,⟨Heap.le.refl _,0,rfl,Nat.zero_le _,by simp⟩,?_⟩
  rintro _ D2 ⟨B,j,rfl,hj,d⟩
  rw [a7]
  have q:=U.trans (a6.trans B)
  refine ift.of (fun h=>?_) (fun h=>?_)
  ·have J : j < m.im.length := by have := Vb h; omega
   refine jn.inl ?_
   refine SlIs.ld t.1 (T.trans q) (z:=3) (fun _=>rfl) (by omega) rfl J fun x hx=>?_
   have c5:(m.im.take j).map ImP.n++[m.im[j].n]=(m.im.take (j+1)).map ImP.n:=by rw [Vp,Vf J,Vo,List.map_append]; rfl
   rw [QbK J,impA1,c5] at d
   generalize m.im[j]=v at *
   refine boxZ rfl fun a1 D3 c8 L u=>?_
   have r:=q.trans L
   have P:=L _ _ (B _ _ O)
   have Q:∀ e,impA1 l m.n [] m.im=some e→impA l l=some e:=fun e he=>by rw [hn,he]
   refine fS u (j:=2) rfl ?_
   rw [hx.2.1]
   refine QqX (hP.le r) hs (T.trans r) fun D4 f=>?_
   have o:=r.trans f
   unfold fIx
   refine ift.of (fun h=>?_) (fun h=>?_)
   ·have a5 : l.length ≤ findN l v.n := by
     split at h
     ·have:=Vb h; omega
     ·omega
    rw [if_pos a5] at d
    refine bxT (c:=Qa.c) (f _ _ P) (fPs (x:=x.Pos) (f _ _ u) rfl rfl ?_)
    exact Qei Y.1 hx.1 fun F I=>ke F _ (o.trans I) (.inl (Q _ d))
   ·have a5 : ¬ l.length ≤ findN l v.n := by
     split at h
     ·omega
     ·exact absurd h (by decide)
    rw [if_neg a5] at d
    refine fL (f _ _ P) (j:=1) rfl ?_
    refine X4 t.1 (z:=3) (fun _=>rfl) t.2 rfl (by omega) fun e2 b0=>?_
    refine cfImport (R:=IpIs) (ok:=fun w=>decide (w.n=v.n)) b0 (T.trans o) ?_ fun D5 W=>?_
    ·intro w hw x2 F Φ I c6 hΦ
     refine ⟨59,[],[pv (some (a1,0))],rfl,Qdk,QgO C x2 (a1,0) Φ F ?_⟩
     unfold Qdp
     refine box1N fun b2 G _ _ l2 h2=>fS h2 (j:=2) rfl (fS (l2 _ _ (I _ _ (f _ _ u))) (j:=2) rfl ?_)
     rw [c6.2.1,hx.2.1,Qt4]
     exact hΦ G l2
    ·rw [Qt2]
     refine ift.of (fun h=>?_) (fun h=>?_)
     ·rw [if_pos h] at d
      refine bxT (c:=Qa.c) (W _ _ (f _ _ P)) (fPs (x:=x.Pos) (W _ _ (f _ _ u)) rfl rfl ?_)
      exact Qei Y.1 hx.1 fun F I=>ke F _ (o.trans (W.trans I)) (.inl (Q _ d))
     ·rw [if_neg (by rw [h]; decide)] at d
      rw [Qu (by omega) (by omega)]
      exact ⟨⟨B.trans (L.trans (f.trans W)),j+1,rfl,by omega,d⟩,by first | omega | (dsimp only; omega)⟩
  ·have a4 : j = m.im.length := by have := Vc h; omega
   subst a4
   rw [List.drop_length] at d
   have d:impA1 l m.n [] m.im=none:=d
   rw [d] at hn
   rw [Qu (by omega) (by omega)]
   exact ⟨⟨q,i+1,rfl,by omega,hn⟩,by first | omega | (dsimp only; omega)⟩
 ·have a3 : i = l.length := by have := Vc h; omega
  subst a3
  rw [List.drop_length] at hn
  have hn:impA l l=none:=hn
  have hf:=Qs3 hn
  refine ⟨_,rfl,fL (U _ _ a2) (j:=0) rfl ?_⟩
  refine ⟨fun y D=>H.le D∧∃ i:Nat,y=(i:Int)∧i≤l.length∧impBf l 0 l=impBf l i (l.drop i),fun y _=>l.length - y.toNat,⟨U,0,rfl,Nat.zero_le _,by simp⟩,?_⟩
  clear U
  rintro _ D ⟨U,i,rfl,hi,N⟩
  rw [a0]
  refine ift.of (fun h=>?_) (fun h=>?_)
  ·have M : i < l.length := by have := Vb h; omega
   refine hs.ld (T.trans U) (fun _=>rfl) (by omega) rfl M fun y hy=>?_
   have c1:=QoN hn _ (Vg M)
   rw [QbK M,impBf] at N
   generalize l[i]=m at *
   obtain ⟨Y,t,_⟩:=hy
   have a7:=SlIs.len t.1
   have b6:=SlIs.bd t.1
   refine boxZ rfl fun b5 D1 c7 a6 O=>?_
   refine fL O (j:=1) rfl ?_
   refine ⟨fun y' D'=>D1.le D'∧∃ j:Nat,y' = (j:Int)∧j≤m.im.length∧impB1 l m.n i m.im=impB1 l m.n i (m.im.drop j),fun y' _=>m.im.length - y'.toNat,⟨Heap.le.refl _,0,rfl,Nat.zero_le _,by simp⟩,?_⟩
   rintro _ D2 ⟨B,j,rfl,hj,d⟩
   rw [a7]
   have q:=U.trans (a6.trans B)
   refine ift.of (fun h=>?_) (fun h=>?_)
   ·have J : j < m.im.length := by have := Vb h; omega
    refine jn.inl ?_
    refine SlIs.ld t.1 (T.trans q) (z:=3) (fun _=>rfl) (by omega) rfl J fun x hx=>?_
    have X:=c1 _ (Vg J)
    rw [QbK J,impB1] at d
    generalize m.im[j]=v at *
    refine boxZ rfl fun a1 D3 c8 L u=>?_
    have r:=q.trans L
    have P:=L _ _ (B _ _ O)
    have Q:∀ e,impB1 l m.n i m.im=some e→impBf l 0 l=some e:=fun e he=>by rw [N,he]
    refine fS u (j:=2) rfl ?_
    rw [hx.2.1]
    refine QqX (hP.le r) hs (T.trans r) fun D4 f=>?_
    have o:=r.trans f
    unfold fIx
    rw [if_pos X]
    intro bs ns
    have ls:=Xc ns (g:=.obj (.map #[] 0)) (m:=true)
    have hS:=SnIs.new (H:=D4) (b:=bs)
    generalize D4.put bs (.obj (.map #[] 0))=D5 at *
    have Z:=o.trans ls
    have nA:A bs=none:=(T.trans o).none ns
    have c9:bp≠bs:=fun e=>by rw [← e,o _ _ a2] at ns; cases ns
    have dk:∀ {F},Kp bs D5 F→D4.le F:=fun {F} I b e hb=>I.at_ (fun e'=>by rw [e',ns] at hb; cases hb) (ls _ _ hb)
    refine QtN hs hf nA c9 c3 (uns l.length (fun _=>false)+1) (S:=fun _=>false) (by omega) X rfl rfl rfl (hP.le Z) (T.trans Z) hS (fun F I c4=>ift.of (fun _=>?_) (fun h=>by cases h)) (fun F S' I d7 q1 q2 q3=>ift.of (fun h=>by cases h) (fun _=>?_))
    ·rw [if_pos ((Qnm hf X).2 c4)] at d
     have I:=dk I
     refine bxT (c:=Qa.c) (I _ _ (f _ _ P)) (fPs (x:=x.Pos) (I _ _ (f _ _ u)) rfl rfl ?_)
     exact Qei Y.1 hx.1 fun G hG=>ke G _ (o.trans (I.trans hG)) (.inr ⟨hn,Q _ d⟩)
    ·rw [if_neg fun e => QuX q2 (fun j hj => q3 j hj rfl) ((Qnm hf X).1 e)] at d
     rw [Qu (by omega) (by omega)]
     exact ⟨⟨B.trans (L.trans (f.trans (dk I))),j+1,rfl,by omega,d⟩,by first | omega | (dsimp only; omega)⟩
   ·have a4 : j = m.im.length := by have := Vc h; omega
    subst a4
    rw [List.drop_length] at d
    have d:impB1 l m.n i m.im=none:=d
    rw [d] at N
    rw [Qu (by omega) (by omega)]
    exact ⟨⟨q,i+1,rfl,by omega,N⟩,by first | omega | (dsimp only; omega)⟩
  ·have a3 : i = l.length := by have := Vc h; omega
   subst a3
   rw [List.drop_length] at N
   exact k D U hn N
end
end
section
set_option maxRecDepth 100000
open Go Go.Proofs
section
variable {C:Ctx} {H:Heap}
theorem Qxj {o b3 b5:Nat} {m:Str} {p:Pl} {e:Int} {R:HP}
 (k:nw (Qs.c Qs.zero) (fun b4 H4=>stT (b4,0) (Qs.c (⟨⟨m,psP p⟩,e⟩:Qs)) (fun H5=>dr H5 fun Hs=>ldT Hs Qc.c ((b4,0).1,(b4,0).2+0) fun x14=>ldI Hs .i64 ((b4,0).1,(b4,0).2+3) fun x16=>stT (o,0) (Qa.c Qa.zero) (fun H6=>Heap.le Hs H6∧stT (b3,0) (Qc.c x14) (fun H7=>Heap.le Hs H7∧st (b5,0) (.int .i64 x16) (fun H8=>Heap.le Hs H8∧R H8) H7) H6) H5) H4) H) :
 SpecD P0 C 21 [pv (some (o,0)),pv (some (b3,0)),pv (some (b5,0))] (.panicking [⟨flt m p e,false,false⟩]) H (fun u H2=>settle u=.returning∧R H2):=by
 refine SpecD.rec_ (u':=.panicking [{ v:=flt m p e,recovered:=true }]) (v:=flt m p e) (fun t fs h=>.inl (QrX h)) Tryz.func21 rfl Tryz.ntmps21 rfl rfl ?_
 refine GC.block ?_
 refine Zo (Zv (v:=.bool false) (Xah (u:=flt m p e) rfl (.inr ⟨_,_,rfl⟩) rfl rfl) (GL.nil (Zd (b:=false) (fun h=>by cases h) fun _=>?_)))
 refine Zo (Zv (Xav rfl rfl) (Zv (v:=.bool true) (OV.extract (vs:=#[.agg (Qs.c (⟨⟨m,psP p⟩,e⟩:Qs)).toArray,.bool true]) rfl rfl) (Zv (v:=.agg (Qs.c (⟨⟨m,psP p⟩,e⟩:Qs)).toArray) (OV.extract (vs:=#[.agg (Qs.c (⟨⟨m,psP p⟩,e⟩:Qs)).toArray,.bool true]) rfl rfl) (GL.nil (Zd (b:=true) (fun _=>?_) fun h=>by cases h)))))
 refine Zo (GL.alloc (cs:=Qs.c Qs.zero) k trivial rfl rfl rfl ?_)
 intro b4 H4 k
 refine Xl (p:=(b4,0)) (vs:=Qs.c (⟨⟨m,psP p⟩,e⟩:Qs)) k trivial rfl rfl rfl rfl ?_
 intro H5 k
 obtain ⟨Hs,hle,x14,i,x16,j,k⟩:=k
 refine GL.nil (GC.any (Hs:=Hs) (by kernel_rfl) hle (Zp 0 rfl (OV.build (vs:=[]) (v:=.agg (Qa.c Qa.zero).toArray) rfl (fun _=>by kernel_rfl)) ?_))
 refine Zp 1 rfl (OV.fieldAddr rfl rfl) (Zp 2 rfl (Xm rfl rfl rfl i) (Zp 3 rfl (OV.fieldAddr rfl rfl) (Zp 4 rfl (OV.load rfl rfl j) (GA.eff 5 rfl (by kernel_rfl) (Xl (p:=(o,0)) (vs:=Qa.c Qa.zero) k trivial rfl rfl rfl rfl ?_)))))
 rintro H6 ⟨d,k⟩
 refine GA.back d (GA.eff 6 rfl (by kernel_rfl) (Xl (p:=(b3,0)) (vs:=Qc.c x14) k trivial rfl rfl rfl rfl ?_))
 rintro H7 ⟨f,k⟩
 refine GA.back f (GA.eff 7 rfl (by kernel_rfl) (GL.store (p:=(b5,0)) (v:=.int .i64 x16) k trivial rfl rfl rfl rfl ?_))
 rintro H8 ⟨g,k⟩
 refine GA.back g (GA.done (by kernel_rfl) ?_)
 exact fun a w q r=>postRn rfl q r ⟨rfl,k⟩
theorem Qxk {d b3 b5:Nat} {R:HP} (k:R H) :
 SpecD P0 C 21 [pv (some (d,0)),pv (some (b3,0)),pv (some (b5,0))] .returning H (fun u H2=>u=.returning∧R H2):=by
 refine SpecD.rec_ (u':=.returning) (v:=.nilIface) (fun i fs h=>.inr ⟨QrY h,rfl,by rw [← h]⟩) Tryz.func21 rfl Tryz.ntmps21 rfl rfl ?_
 refine GC.block ?_
 refine Zo (Zv (v:=.bool true) (Xah (u:=.nilIface) rfl (.inl rfl) rfl rfl) (GL.nil (Zd (b:=true) (fun _=>?_) fun h=>by cases h)))
 refine GC.region (Za ?_)
 exact fun a w f g=>postRn rfl f g ⟨rfl,k⟩
end
end
section
open Go Go.Proofs
theorem Qo9 {T:Tl} {o m o':MoP} (h:usedF T o m=.ok o'):o'.ty.length=o.ty.length+m.ty.length∧o'.re.length=o.re.length+m.re.length∧o'.ru.length=o.ru.length+m.ru.length∧o'.ne.length=o.ne.length+m.ne.length∧o'.n=o.n:=by
 unfold usedF at h
 split at h
 ·cases h
 split at h
 ·cases h
 split at h
 ·cases h
 split at h
 ·cases h
 rename_i _ a f _ b g _ c i _ d j
 injection h with h
 subst h
 simp only [Va,Qap f,Qap g,Qap i,Qap j,and_self]
section
variable {C:Ctx} {A B W D H:Heap} {E:Value→HP}
theorem Out.put {bo:Nat} {q:Qa} {o:MoP} (h:Out A B W D bo q o) {b:Nat} {g:GO} (hb:∃ e,B b=some e) (hbo:b≠bo) (hW:W b=none):Out A B W (D.put b g) bo q o:=by
 have hq:∀ {x:Nat} {e:Bool×GO},x ∈ blks q→D x=some e→(D.put b g) x=some e:=fun {x e} hx he=>by
  have:x≠b:=fun e'=>by
   obtain ⟨e2,h2⟩:=hb
   rw [← e',(h.fr x hx).1] at h2; cases h2
  rw [Xb _ _ _ this]; exact he
 have hnw:Heap.nw A B (D.put b g)=Heap.nw A B D:=QhR hb
 refine ⟨Xs h.dom,h.ab,h.aw,QP h.wle hW,?_,h.bB,h.wo,h.nd,h.fr,h.nm,?_,?_,?_,?_⟩
 ·rw [Xb _ _ _ (Ne.symm hbo)]; exact h.at_
 all_goals rw [hnw]
 ·exact h.gt.mono (fun x hx e he=>hq (Vi _ hx) he) (Heap.le.refl _) TpO.le
 ·exact h.gr.mono (fun x hx e he=>hq (Vh _ (Vi _ hx)) he) (Heap.le.refl _) RpO.le
 ·exact h.gu.mono (fun x hx e he=>hq (Vh _ (Vh _ (Vi _ hx))) he) (Heap.le.refl _) UpO.le
 ·exact h.gn.mono (fun x hx e he=>hq (Vh _ (Vh _ (Vh _ hx))) he) (Heap.le.refl _) (fun h h'=>NpIs.le h h')
theorem QeS {c vs:List Value} (h:c.length=vs.length):splice c 0 vs=vs:=by
 unfold splice
 rw [List.take_zero,List.nil_append,Nat.zero_add,← h,List.drop_length,List.append_nil]
theorem put_id {D:Heap} {b:Nat} {g:GO} (h:D b=some (true,g)):D.put b g=D:=by
 funext x
 by_cases hx:x=b
 ·subst hx; rw [Xa,h]
 ·exact Xb _ _ _ hx
theorem QxX {b1 b3 b5:Nat} {c1 c3 c5:List Value} {m:Str} {p:Pl} {e:Int} {K:Qa→Qc→Int→HP} (h13:b1≠b3) (h15:b1≠b5) (h35:b3≠b5) (h1:H b1=some (true,.row c1)) (l1:c1.length=6) (h3:H b3=some (true,.row c3)) (l3:c3.length=3) (h5:H b5=some (true,.row c5)) (l5:c5.length=1)
 (k:∀ D,(((H.del b1).del b3).del b5).le D→K Qa.zero ⟨m,psP p⟩ e D) :
 SpecD P0 C 21 [pv (some (b1,0)),pv (some (b3,0)),pv (some (b5,0))] (.panicking [⟨flt m p e,false,false⟩]) H (fun u H31=>settle u=.returning∧ldT H31 Qa.c (b1,0) fun x32=>ldT H31 Qc.c (b3,0) fun x33=>ldI H31 .i64 (b5,0) fun x34=>K x32 x33 x34 H31):=by
 refine Qxj ?_
 refine boxZ rfl fun b4 H5 n4 l4 h4=>?_
 have ne:∀ b,(∃ e,H b=some e)→b4≠b:=fun b ⟨e,he⟩ e'=>by rw [e',he] at n4; cases n4
 have d4:(((H5.del b1).del b3).del b5) b4=some (true,.row (Qs.c (⟨⟨m,psP p⟩,e⟩:Qs))):=by
  rw [Xd _ (ne _ ⟨_,h5⟩),Xd _ (ne _ ⟨_,h3⟩),Xd _ (ne _ ⟨_,h1⟩)]; exact h4
 have k1:=l4 _ _ h1
 have k3:=l4 _ _ h3
 have k5:=l4 _ _ h5
 have hk:∀ D,(((H5.del b1).del b3).del b5).le D→(((H.del b1).del b3).del b5).le D:=fun D hD b e he=>by
  have n5:b≠b5:=fun e'=>by rw [e',Xg] at he; cases he
  rw [Xd _ n5] at he
  have n3:b≠b3:=fun e'=>by rw [e',Xg] at he; cases he
  rw [Xd _ n3] at he
  have n1:b≠b1:=fun e'=>by rw [e',Xg] at he; cases he
  rw [Xd _ n1] at he
  exact hD b e (by rw [Xd _ n5,Xd _ n3,Xd _ n1]; exact l4 _ _ he)
 have hl0:(((H5.del b1).del b3).del b5).le H5:=fun b e he=>by
  have n5:b≠b5:=fun e'=>by rw [e',Xg] at he; cases he
  rw [Xd _ n5] at he
  have n3:b≠b3:=fun e'=>by rw [e',Xg] at he; cases he
  rw [Xd _ n3] at he
  exact Xf _ _ _ _ he
 have hp:∀ {D:Heap} {b:Nat} {g:GO},(b=b1∨b=b3∨b=b5)→(((H5.del b1).del b3).del b5).le D→(((H5.del b1).del b3).del b5).le (D.put b g):=fun {D b g} hb hD x e he=>by
  have n5:x≠b5:=fun e'=>by rw [e',Xg] at he; cases he
  have he':=he
  rw [Xd _ n5] at he
  have n3:x≠b3:=fun e'=>by rw [e',Xg] at he; cases he
  rw [Xd _ n3] at he
  have n1:x≠b1:=fun e'=>by rw [e',Xg] at he; cases he
  rw [Xb _ _ _ (by rcases hb with rfl | rfl | rfl <;> assumption)]
  exact hD x e he'
 refine ⟨(((H5.del b1).del b3).del b5),hl0,fT (c:=Qc.c) (x:=⟨m,psP p⟩) d4 (fun i v hv=>by match i,hv with | 0,hv=>exact hv | 1,hv=>exact hv | 2,hv=>exact hv) (fI d4 (j:=3) rfl ?_)⟩
 refine ⟨c1,k1,by rw [l1]; show 0+6≤6; omega,hp (.inl rfl) hl0,c3,by rw [Xb _ _ _ (Ne.symm h13)]; exact k3,by rw [l3]; show 0+3≤3; omega,hp (.inr (.inl rfl)) (hp (.inl rfl) hl0),c5,by rw [Xb _ _ _ (Ne.symm h35),Xb _ _ _ (Ne.symm h15)]; exact k5,by rw [l5]; show 0 < 1; omega,hp (.inr (.inr rfl)) (hp (.inr (.inl rfl)) (hp (.inl rfl) hl0)),?_⟩
 have s1:splice c1 0 (Qa.c Qa.zero)=Qa.c Qa.zero:=QeS (by rw [l1]; rfl)
 have s3:splice c3 0 (Qc.c ⟨m,psP p⟩)=Qc.c ⟨m,psP p⟩:=QeS (by rw [l3]; rfl)
 have s5:c5.set 0 (.int .i64 e)=[.int .i64 e]:=by
  match c5,l5 with
  | [x],_=>rfl
 rw [s1,s3,s5]
 refine bxT (c:=Qa.c) (by rw [Xb _ _ _ h15,Xb _ _ _ h13]; exact Xa ..) (bxT (c:=Qc.c) (by rw [Xb _ _ _ h35]; exact Xa ..) ⟨e,by rw [Qaq (Xa ..)]; rfl,?_⟩)
 exact k _ (hk _ (hp (.inr (.inr rfl)) (hp (.inr (.inl rfl)) (hp (.inl rfl) hl0))))
theorem TlIs.same {A B:Heap} {bm:Nat} {T:Tl} (h:TlIs A bm T) (f:B bm=A bm):TlIs B bm T:=by
 obtain ⟨l,b,d⟩:=h
 exact ⟨l,b.same f,d⟩
theorem Qm2 (hT:MaxC C) {l:List MoP} {sl:Sl} {K:Qa→Qc→Int→HP} (hs:MpL A sl l) (hA:A.le H) (hd:∀ m ∈ l,moD m.e≤4611686018427387904)
 (k:∀ D B W bo q o,flatF l=.ok o→H.le B→H.le W→Out A B W D bo q o→K q ⟨[],psP (0,0)⟩ 0 D)
 (ke:∀ D e,flatF l=.error e→H.le D→K Qa.zero ⟨e.1,psP e.2.1⟩ e.2.2 D):QbN C sl K H:=by
 have hlen:=SlIs.len hs
 apply Qm4
 unfold Qio
 refine box1N fun b1 H2 n1 _ l1 h1=>box1N fun b3 H4 n3 _ l3 h3=>box1N fun b5 H6 n5 _ l5 h5=>?_
 have h1:=l5 _ _ (l3 _ _ h1)
 have n13:b1≠b3:=fun e=>by
  have:H2 b1=none:=by rw [e]; exact n3
  rw [‹H2 b1=some _›] at this; cases this
 have h3':=l5 _ _ h3
 have n15:b1≠b5:=fun e=>by
  have:H4 b1=none:=by rw [e]; exact n5
  rw [l3 _ _ ‹H2 b1=some _›] at this; cases this
 have n35:b3≠b5:=fun e=>by
  have:H4 b3=none:=by rw [e]; exact n5
  rw [h3] at this; cases this
 have h3:=h3'
 have hH6:=l1.trans (l3.trans l5)
 have m1:H b1=none:=n1
 have m3:H b3=none:=l1.none n3
 have m5:H b5=none:=(l1.trans l3).none n5
 have lit:∀ (z:Int),(∀ D,H.le D→K Qa.zero ⟨[],psP (0,0)⟩ z D)→stT (b1,0) (Qa.c (⟨[],Sl.nil,Sl.nil,Sl.nil,Sl.nil,Sl.nil⟩:Qa)) (fun H8=>stT (b3,0) (Qc.c (⟨[],Qk.zero⟩:Qc)) (fun H9=>st (b5,0) (.int .i64 z) (fun H10=>ldT H10 Qa.c (b1,0) fun x11=>ldT H10 Qc.c (b3,0) fun x13=>ldI H10 .i64 (b5,0) fun x15=>K x11 x13 x15 H10) H9) H8) H6:=fun z hk=>by
  refine ⟨_,h1,by show 0+6≤6; omega,_,by rw [Xb _ _ _ (Ne.symm n13)]; exact h3,by show 0+3≤3; omega,_,by rw [Xb _ _ _ (Ne.symm n35),Xb _ _ _ (Ne.symm n15)]; exact h5,by show 0 < 1; omega,?_⟩
  rw [QeS (by rfl),QeS (by rfl)]
  refine bxT (c:=Qa.c) (by rw [Xb _ _ _ n15,Xb _ _ _ n13]; exact Xa ..) (bxT (c:=Qc.c) (by rw [Xb _ _ _ n35]; exact Xa ..) ⟨z,by rw [Qaq (Xa ..)]; rfl,hk _ ?_⟩)
  exact QP (QP (QP hH6 m1) m3) m5
 rw [hlen]
 refine ift.of (fun h=>?_) (fun h=>?_)
 ·have hl0 : l.length = 0 := by have := eq_of_beq h; omega
  exact lit 1 fun D hD=>ke D ([],(0,0),1) (by unfold flatF; rw [if_pos hl0]) hD
 have hl0:l.length≠0:=fun e=>by rw [e] at h; exact absurd h (by decide)
 refine ift.of (fun h=>?_) (fun h=>?_)
 ·have hl8 : 8 < l.length := by have := Vb h; omega
  exact lit 3 fun D hD=>ke D ([],(0,0),3) (by unfold flatF; rw [if_neg hl0,if_pos hl8]) hD
 have hl8:¬ 8 < l.length:=by have:=Vc h; omega
 clear lit
 refine ⟨fun v F=>∃ e c1 c3 c5,flatF l=.error e∧v=flt e.1 e.2.1 e.2.2∧H.le F∧F b1=some (true,.row c1)∧c1.length=6∧F b3=some (true,.row c3)∧c3.length=3∧F b5=some (true,.row c5)∧c5.length=1,?_,?_⟩
 ·rintro v F ⟨e,c1,c3,c5,he,rfl,hF,f1,g1,f3,g3,f5,g5⟩
  refine QxX n13 n15 n35 f1 g1 f3 g3 f5 g5 fun D hD=>ke D e he fun b x hb=>hD b x ?_
  rw [Xd _ (fun e=>by rw [e,m5] at hb; cases hb),Xd _ (fun e=>by rw [e,m3] at hb; cases hb),Xd _ (fun e=>by rw [e,m1] at hb; cases hb)]
  exact hF b x hb
 intro bm nm
 have lm:=Xc nm (g:=.obj (.map #[] 0)) (m:=true)
 have hTl:TlIs (H6.put bm (.obj (.map #[] 0))) bm []:=⟨[],MapS.new,fun _=>rfl⟩
 generalize H6.put bm (.obj (.map #[] 0))=H36 at *
 refine box1N fun bp H38 np _ lp_ hp=>?_
 have hHm:H bm=none:=hH6.none nm
 have hAm:A bm=none:=hA.none hHm
 have n1m:b1≠bm:=fun e=>by rw [← e,h1] at nm; cases nm
 have n3m:b3≠bm:=fun e=>by rw [← e,h3] at nm; cases nm
 have n5m:b5≠bm:=fun e=>by rw [← e,h5] at nm; cases nm
 obtain ⟨em,hem⟩:=hTl.has
 have npm:bp≠bm:=fun e=>by rw [e,hem] at np; cases np
 have k1:=lp_ _ _ (lm _ _ h1)
 have k3:=lp_ _ _ (lm _ _ h3)
 have k5:=lp_ _ _ (lm _ _ h5)
 have np1:bp≠b1:=fun e=>by rw [e,lm _ _ h1] at np; cases np
 have np3:bp≠b3:=fun e=>by rw [e,lm _ _ h3] at np; cases np
 have np5:bp≠b5:=fun e=>by rw [e,lm _ _ h5] at np; cases np
 have hPr:Pr H38 bp bm sl:=⟨_,hp⟩
 have hTl:=hTl.le lp_
 have hH38:=hH6.trans (lm.trans lp_)
 clear l1 l3 l5 lm lp_ hp h1 h3 h5 hH6 np nm hem em
 have fin:∀ {F e},H.le F→flatF l=.error e→(∃ c,F b1=some (true,.row c)∧c.length=6)→F b3=some (true,.row (Qc.c Qc.zero))→F b5=some (true,.row [.int .i64 0])→∃ e' c1 c3 c5,flatF l=.error e'∧flt e.1 e.2.1 e.2.2=flt e'.1 e'.2.1 e'.2.2∧H.le F∧F b1=some (true,.row c1)∧c1.length=6∧F b3=some (true,.row c3)∧c3.length=3∧F b5=some (true,.row c5)∧c5.length=1:=
  fun {F e} hF he ⟨c,hc,hcl⟩ f3 f5=>⟨e,c,_,_,he,rfl,hF,hc,hcl,f3,rfl,f5,rfl⟩
 have hkp:∀ {F},Kp bm H38 F→H.le F:=fun {F} hF b e hb=>hF.at_ (fun e'=>by rw [e',hHm] at hb; cases hb) (hH38 _ _ hb)
 have flat0:flatF l=match singleF [] l with
  | some e=>.error e
  | none => match impA l l with
   | some e=>.error e
   | none => match impBf l 0 l with
    | some e=>.error e
    | none => match namesAll l [] with
     | .error e=>.error e
     | .ok T=>if totB l=true then .error ([],(0,0),3) else usedAll T ⟨(l.head?.map MoP.n).getD [],[],[],[],[],[]⟩ l:=by unfold flatF; rw [if_neg hl0,if_neg hl8] <;> rfl
 refine Qu5 hT hPr hs (hA.trans hH38) hd (fun D1 hD1 hsi=>?_) (fun F e hF he=>fin (hH38.trans hF) (by rw [flat0,he]) ⟨_,hF _ _ k1,rfl⟩ (hF _ _ k3) (hF _ _ k5))
 obtain ⟨q1,q2,_⟩:=Qhy hsi
 have hg:∀ m ∈ l,MoG m:=fun m hm=>moG (q1 m hm)
 rw [hsi] at flat0
 dsimp only at flat0
 refine QtB (hPr.le hD1) hs (hA.trans (hH38.trans hD1)) (by omega) (fun D2 hD2 hia hib=>?_) (fun F e hF he=>fin (hH38.trans (hD1.trans hF)) (by
  rw [flat0]
  rcases he with he | ⟨he,he2⟩
  ·rw [he]
  ·rw [he]; dsimp only; rw [he2]) ⟨_,hF _ _ (hD1 _ _ k1),rfl⟩ (hF _ _ (hD1 _ _ k3)) (hF _ _ (hD1 _ _ k5)))
 rw [hia] at flat0
 dsimp only at flat0
 rw [hib] at flat0
 dsimp only at flat0
 have hD2:=hD1.trans hD2
 clear hD1
 refine ⟨fun y D=>Kp bm H38 D∧∃ (i:Nat) (T:Tl),y=(i:Int)∧i≤l.length∧namesAll l []=namesAll (l.drop i) T∧TlIs D bm T,fun y _=>l.length - y.toNat,⟨Kp.of hD2,0,[],rfl,Nat.zero_le _,by rw [List.drop_zero],hTl.le hD2⟩,?_⟩
 clear hD2
 rintro _ D ⟨hD,i,T,rfl,hi,hn,hTD⟩
 have hAD:=hA.trans (hkp hD)
 refine ift.of (fun h=>?_) (fun h=>?_)
 ·have hil : i < l.length := by have := Vb h; omega
  refine hs.ld hAD (fun _=>rfl) (by omega) rfl hil fun y hy=>?_
  have hgi:=hg _ (Vg hil)
  rw [QbK hil,namesAll] at hn
  generalize l[i]=m at *
  refine boxZ rfl fun b52 D3 n52 l52 h52=>?_
  have hD3:=hD.trans (Kp.of l52)
  refine bxT (c:=Qa.c) h52 ?_
  refine QvL (hAD.trans l52) hAm (hD3.pr npm hPr) npm (hTD.le l52) hy hgi (fun F T' hT' hF hTF=>?_) (fun F e he hF=>?_)
  ·rw [hT'] at hn
   rw [Qu (by omega) (by omega)]
   exact ⟨⟨hD3.trans hF,i+1,T',rfl,by omega,hn,hTF⟩,by first | omega | (dsimp only; omega)⟩
  ·rw [he] at hn
   have hF:=hD3.trans hF
   exact fin (hkp hF) (by rw [flat0,hn]) ⟨_,hF.at_ n1m k1,rfl⟩ (hF.at_ n3m k3) (hF.at_ n5m k5)
 have hie:i=l.length:=by have:=Vc h; omega
 subst hie
 rw [List.drop_length] at hn
 have hn:namesAll l []=.ok T:=hn
 rw [hn] at flat0
 dsimp only at flat0
 refine Qvb (hD.pr npm hPr) hs hAD hg (by omega) (fun D5 hD5 htot=>?_) (fun F hF htot=>?_)
 rotate_left
 ·have hF:=hD.trans (Kp.of hF)
  exact fin (e:=([],(0,0),3)) (hkp hF) (by rw [flat0,if_pos htot]) ⟨_,hF.at_ n1m k1,rfl⟩ (hF.at_ n3m k3) (hF.at_ n5m k5)
 rw [if_neg (by rw [htot]; decide)] at flat0
 have hD5:=hD.trans (Kp.of hD5)
 have hAD5:=hA.trans (hkp hD5)
 have hl1:0 < l.length:=by omega
 refine SlIs.at_ hs hAD5 (z:=6) (fun _=>rfl) (by omega) (i:=0) rfl hl1 fun p y hy hr=>⟨y.Name,hr 0 _ rfl,?_⟩
 have hhd:(l.head?.map MoP.n).getD []=l[0].n:=by
  match l,hl1 with
  | m::l,_=>rfl
 rw [hhd] at flat0
 have hy0:y.Name=l[0].n:=hy.1.1
 clear hr hy hhd
 generalize l[0].n=n0 at *
 have d1:=hD5.at_ n1m k1
 have d3:=hD5.at_ n3m k3
 have d5:=hD5.at_ n5m k5
 obtain ⟨mp,dp⟩:=(hD5.pr npm hPr).at_
 have dT:=hTD.le ‹D.le D5›
 refine Qu6 (cs2:=Qa.c ⟨n0,Sl.nil,Sl.nil,Sl.nil,Sl.nil,Sl.nil⟩) d1 (show 0 < 6 by omega) (by rw [hy0]; rfl) ?_
 have hHD5:=hkp hD5
 have hO:Out A (D5.put b1 (.row (Qa.c ⟨n0,Sl.nil,Sl.nil,Sl.nil,Sl.nil,Sl.nil⟩))) (D5.del b1) (D5.put b1 (.row (Qa.c ⟨n0,Sl.nil,Sl.nil,Sl.nil,Sl.nil,Sl.nil⟩))) b1 ⟨n0,Sl.nil,Sl.nil,Sl.nil,Sl.nil,Sl.nil⟩ ⟨n0,[],[],[],[],[]⟩:=by
  have nA1:A b1=none:=hA.none m1
  exact ⟨fun _ h=>h,QP hAD5 nA1,Xo hAD5 nA1,Xk (Xf _ _),Xa ..,⟨_,Xa ..⟩,Xg ..,by simp [blks,bk,Sl.nil],fun b hb=>by simp [blks,bk,Sl.nil] at hb,⟨rfl,rfl,rfl⟩,Gq.nil,Gq.nil,Gq.nil,Gq.nil⟩
 have hHB:H.le (D5.put b1 (.row (Qa.c ⟨n0,Sl.nil,Sl.nil,Sl.nil,Sl.nil,Sl.nil⟩))):=QP hHD5 m1
 have b3B:∃ e,(D5.put b1 (.row (Qa.c ⟨n0,Sl.nil,Sl.nil,Sl.nil,Sl.nil,Sl.nil⟩))) b3=some e:=⟨_,by rw [Xb _ _ _ (Ne.symm n13)]; exact d3⟩
 have b5B:∃ e,(D5.put b1 (.row (Qa.c ⟨n0,Sl.nil,Sl.nil,Sl.nil,Sl.nil,Sl.nil⟩))) b5=some e:=⟨_,by rw [Xb _ _ _ (Ne.symm n15)]; exact d5⟩
 generalize D5.put b1 (.row (Qa.c ⟨n0,Sl.nil,Sl.nil,Sl.nil,Sl.nil,Sl.nil⟩))=B at *
 have w3:(D5.del b1) b3=some (true,.row (Qc.c Qc.zero)):=by rw [Xd _ (Ne.symm n13)]; exact d3
 have w5:(D5.del b1) b5=some (true,.row [.int .i64 0]):=by rw [Xd _ (Ne.symm n15)]; exact d5
 have wP:Pr (D5.del b1) bp bm sl:=⟨mp,by rw [Xd _ np1]; exact dp⟩
 have wT:TlIs (D5.del b1) bm T:=dT.same (Xd _ (Ne.symm n1m))
 have hHW:H.le (((D5.del b1).del b3).del b5):=fun b x hb=>by
  rw [Xd _ (fun e=>by rw [e,m5] at hb; cases hb),Xd _ (fun e=>by rw [e,m3] at hb; cases hb),Xd _ (fun e=>by rw [e,m1] at hb; cases hb)]
  exact hHD5 b x hb
 have hWW:(((D5.del b1).del b3).del b5).le (D5.del b1):=(Xf _ _).trans (Xf _ _)
 have hHW1:=hHW.trans hWW
 generalize D5.del b1=W1 at *
 refine ⟨fun y D=>∃ (i:Nat) (q:Qa) (o:MoP),y=(i:Int)∧i≤l.length∧usedAll T ⟨n0,[],[],[],[],[]⟩ l=usedAll T o (l.drop i)∧Out A B W1 D b1 q o∧o.ty.length≤i*256∧o.re.length≤i*256∧o.ru.length≤i*256∧o.ne.length≤i*256,fun y _=>l.length - y.toNat,⟨0,_,_,rfl,Nat.zero_le _,by rw [List.drop_zero],hO,Nat.zero_le _,Nat.zero_le _,Nat.zero_le _,Nat.zero_le _⟩,?_⟩
 clear hO d1 d3 d5 dp dT hD5 hAD5
 rintro _ D ⟨i,q,o,rfl,hi,hu,hO,u1,u2,u3,u4⟩
 have hi8 : i * 256 ≤ 2048 := by have : i ≤ 8 := by omega
                                 omega
 refine ift.of (fun h=>?_) (fun h=>?_)
 ·have hil : i < l.length := by have := Vb h; omega
  refine hs.ld hO.al (fun _=>rfl) (by omega) rfl hil fun y hy=>?_
  have hgi:=hg _ (Vg hil)
  rw [QbK hil,usedAll] at hu
  generalize l[i]=m at *
  refine boxZ rfl fun b52 D3 n52 l52 h52=>?_
  have hO3:=hO.up l52
  refine bxT (c:=Qa.c) h52 ?_
  refine Qxy hO3 wP wT hy hgi (by omega) (fun F q' o' ho' hO'=>?_) (fun F q' o' p hO' hp=>?_)
  ·rw [ho'] at hu
   obtain ⟨v1,v2,v3,v4,_⟩:=Qo9 ho'
   have g1:=hgi.lt
   have g2:=hgi.lr
   have g3:=hgi.lu
   have g4:=hgi.ln
   rw [Qu (by omega) (by omega)]
   exact ⟨⟨i+1,q',o',rfl,by omega,hu,hO',by omega,by omega,by omega,by omega⟩,by first | omega | (dsimp only; omega)⟩
  ·rw [hp] at hu
   exact fin (e:=(m.n,p,63)) (hHW1.trans hO'.wle) (by rw [flat0,hu]) ⟨_,hO'.at_,rfl⟩ (hO'.wle _ _ w3) (hO'.wle _ _ w5)
 ·have hie : i = l.length := by have := Vc h; omega
  subst hie
  rw [List.drop_length] at hu
  have hu:usedAll T ⟨n0,[],[],[],[],[]⟩ l=.ok o:=hu
  rw [hu] at flat0
  refine bxT (c:=Qa.c) hO.at_ ⟨_,hO.at_,by show 0+6≤6; omega,?_⟩
  rw [QeS (by rfl),put_id hO.at_]
  have f3:=hO.wle _ _ w3
  have f5:=hO.wle _ _ w5
  have hO2:=hO.keep (W2:=((W1.del b3).del b5)) (hA.trans hHW) (((Xf _ _).trans (Xf _ _)).trans hO.wle) (by rw [Xd _ n15,Xd _ n13]; exact hO.wo) fun b hb=>((Xf _ _).trans (Xf _ _)).none (hO.fr b hb).2
  have hO3:=hO2.put (b:=b3) (g:=.row (Qc.c ⟨[],Qk.zero⟩)) b3B (Ne.symm n13) (by rw [Xd _ n35]; exact Xg ..)
  have hO4:=hO3.put (b:=b5) (g:=.row [.int .i64 0]) b5B (Ne.symm n15) (Xg ..)
  refine ⟨_,f3,by show 0+3≤3; omega,_,by rw [Xb _ _ _ (Ne.symm n35)]; exact f5,by show 0 < 1; omega,?_⟩
  rw [QeS (by rfl)]
  refine Qxk ?_
  refine bxT (c:=Qa.c) hO4.at_ (bxT (c:=Qc.c) (x:=⟨[],Qk.zero⟩) (by rw [Xb _ _ _ n35]; exact Xa ..) ⟨0,by rw [Qaq (Xa ..)]; rfl,?_⟩)
  exact k _ B _ b1 q o flat0 hHB hHW hO4
end
end
section
open Go Go.Proofs
structure FlatO (l:List MoP) (T:Tl) (o:MoP):Prop where
 l1:0 < l.length
 l8:l.length≤8
 si:singleF [] l=none
 ia:impA l l=none
 ib:impBf l 0 l=none
 na:namesAll l []=.ok T
 tot:totB l=false
 us:usedAll T ⟨(l.head?.map MoP.n).getD [],[],[],[],[],[]⟩ l=.ok o
theorem Qsu {l:List MoP} {o:MoP} (h:flatF l=.ok o):∃ T,FlatO l T o:=by
 unfold flatF at h
 split at h
 ·cases h
 split at h
 ·cases h
 rename_i h0 h8
 cases h1:singleF [] l with
 | some e=>rw [h1] at h; cases h
 | none=>
  rw [h1] at h
  cases h2:impA l l with
  | some e=>rw [h2] at h; cases h
  | none=>
   rw [h2] at h
   cases h3:impBf l 0 l with
   | some e=>rw [h3] at h; cases h
   | none=>
    rw [h3] at h
    cases h4:namesAll l [] with
    | error e=>rw [h4] at h; cases h
    | ok T=>
     rw [h4] at h
     dsimp only at h
     cases h5:totB l with
     | true=>rw [h5] at h; cases h
     | false=>
      rw [h5] at h
      exact ⟨T,by omega,by omega,h1,h2,h3,h4,h5,h⟩
theorem FlatO.mo {l:List MoP} {T:Tl} {o:MoP} (h:FlatO l T o):∀ m ∈ l,MoG m:=fun m hm=>moG ((Qhy h.si).1 m hm)
theorem Qo8 {T:Tl}:∀ {l:List MoP} {o o':MoP},usedAll T o l=.ok o'→o'.ty.length=o.ty.length+total MoP.ty l∧o'.re.length=o.re.length+total MoP.re l∧o'.ru.length=o.ru.length+total MoP.ru l∧o'.ne.length=o.ne.length+total MoP.ne l∧o'.n=o.n
 | [],o,o',h=>by simp only [usedAll] at h; injection h with h; subst h; simp [total]
 | m::l,o,o',h=>by
  simp only [usedAll] at h
  split at h
  ·cases h
  ·rename_i o1 h1
   obtain ⟨a1,a2,a3,a4,a5⟩:=Qo9 h1
   obtain ⟨b,d,b3,f,b5⟩:=Qo8 h
   simp only [total]
   refine ⟨by omega,by omega,by omega,by omega,by rw [b5,a5]⟩
theorem FlatO.len {l:List MoP} {T:Tl} {o:MoP} (h:FlatO l T o):o.ty.length≤64∧o.re.length≤64∧o.ru.length≤256∧o.ne.length≤256∧o.n.length≤32:=by
 obtain ⟨d,f,g,i,j⟩:=Qo8 h.us
 have b:=h.tot
 unfold totB at b
 simp only [Bool.or_eq_false_iff,decide_eq_false_iff_not] at b
 simp only [Vk] at d f g i
 refine ⟨by omega,by omega,by omega,by omega,?_⟩
 rw [j]
 have:=h.l1
 cases hl:l with
 | nil=>rw [hl] at this; simp at this
 | cons m q=>exact (h.mo m (by rw [hl]; exact List.mem_cons_self ..)).n
section
variable {α β:Type} {R:Heap→α→β→Prop} {c:β→List Value} {z:Nat} {A B D Z W:Heap} {s:Sl} {l:List α}
theorem Gq.is (h:Gq R c z Z D s l) (hb:∀ b ∈ bk s,B b=none) (hZ:Z.le (Heap.nw A B D)) (hz:∀ x,(c x).length=z) (hz0:0 < z) (hR:∀ {X Y:Heap} {v x},X.le Y→R X v x→R Y v x) (hl:l.length≤140737488355328):SlIs (R (Heap.nw A B D)) c (Heap.nw A B D) s l:=by
 have hlen:=h.len hz hz0
 obtain ⟨xs,h1,h2,h3⟩:=h
 refine ⟨xs,?_,by omega,h2,hl,fun i v x hv hx=>hR hZ (h3 i v x hv hx)⟩
 obtain ⟨g1,g2,g3,⟨hp,h0⟩ | ⟨b,sp,hp,hbk,_⟩⟩:=h1
 ·refine .inl ?_
  have:s.len=0:=by omega
  rw [this] at g1
  exact List.length_eq_zero_iff.1 (by omega)
 ·refine .inr ⟨g2, _, hp, QhT (Qla (hb b (Qgn.2 ⟨_, hp, rfl⟩)) hbk) fun j v hj => ?_⟩
  rw [Nat.zero_add,List.getElem?_append_left (List.getElem?_eq_some_iff.1 hj).1]; exact hj
theorem Out.is {bo:Nat} {q:Qa} {o:MoP} {T:Tl} {l:List MoP} (h:Out A B W D bo q o) (t:FlatO l T o):MpIs (Heap.nw A B D) o q:=by
 obtain ⟨u,y,z,C,E⟩:=t.len
 have m:(offB (blks q) (Heap.nw A B D)).le (Heap.nw A B D):=Qi5 _ _
 have f:∀ b ∈ blks q,B b=none:=fun b d=>(h.fr b d).1
 refine ⟨⟨h.nm.1,by omega⟩,⟨?_,?_⟩,?_,?_,?_,?_⟩
 ·rw [h.nm.2.1,h.nm.2.2]; exact SlIs.nil
 ·rw [h.nm.2.1]; exact Nat.le_refl _
 ·obtain ⟨xs, g⟩ := h.gt.is (fun b d => f b (Vi _ d)) m (fun _ => rfl) (by omega) TpO.le (by omega)
  exact ⟨xs,g.1,g.2.1,g.2.2.1,g.2.2.2.1,fun i v x j hx=>(g.2.2.2.2 i v x j hx).1⟩
 ·obtain ⟨xs, g⟩ := h.gr.is (fun b d => f b (Vh _ (Vi _ d))) m (fun _ => rfl) (by omega) RpO.le (by omega)
  exact ⟨xs,g.1,g.2.1,g.2.2.1,g.2.2.2.1,fun i v x j hx=>(g.2.2.2.2 i v x j hx).1⟩
 ·obtain ⟨xs, g⟩ := h.gu.is (fun b d => f b (Vh _ (Vh _ (Vi _ d)))) m (fun _ => rfl) (by omega) UpO.le (by omega)
  exact ⟨xs,g.1,g.2.1,g.2.2.1,g.2.2.2.1,fun i v x j hx=>(g.2.2.2.2 i v x j hx).1⟩
 ·exact h.gn.is (fun b d=>f b (Vh _ (Vh _ (Vh _ d)))) m (fun _=>rfl) (by omega) (fun h r=>NpIs.le h r) (by omega)
theorem QwA {R:α→β→Prop} {b:Nat} {m:Bool} {xs:List β} {cs:List Value} {n:Nat} (g:A b=some (m,.row cs)) (h:cs=xs.flatMap c) (hn:n=xs.length) (q:l.length=xs.length) (d:l.length≤140737488355328) (f:∀ (i:Nat) (v:α) (x:β),l[i]? = some v→xs[i]? = some x→R v x):SlIs R c A (Sl.of (some (b,0)) n n) l:=by
 subst h; subst hn
 exact ⟨xs,.inr ⟨rfl,_,rfl,QhT g fun j v o=>by rw [Nat.zero_add]; exact o⟩,rfl,q,d,f⟩
theorem QnO {R:α→β→Prop} {b:Nat} {m:Bool} {v:α} {x:β} (hb:A b=some (m,.row (c x++[]))) (h:R v x):SlIs R c A (Sl.of (some (b,0)) 1 1) [v]:=by
 refine QwA (xs:=[x]) hb (by simp) rfl rfl (by simp) fun i v' x' hv hx=>?_
 cases i with
 | zero=>simp at hv hx; subst hv; subst hx; exact h
 | succ i=>simp at hv
theorem Qx0 {R:α→β→Prop} {b:Nat} {m:Bool} {v w:α} {x y:β} (g:A b=some (m,.row (c x++c y++[]))) (h:R v x) (f:R w y):SlIs R c A (Sl.of (some (b,0)) 2 2) [v,w]:=by
 refine QwA (xs:=[x,y]) g (by simp) rfl rfl (by simp) fun i j o d hx=>?_
 match i with
 | 0=>simp at d hx; subst d; subst hx; exact h
 | 1=>simp at d hx; subst d; subst hx; exact f
 | i+2=>simp at d
end
end
section
open Go Go.Proofs
def fdA:FdV:=⟨[120],.mk [105,110,116] []⟩
def exA:ExP:=.mk (0,0) 2 [88] V0 []
def gA:MoP:=⟨[103,114,97,112,104],[⟨(0,0),[98,97,115,101]⟩],[],[⟨(0,0),false,false,[112],[fdA]⟩],[⟨(0,0),[112],[exA],[[]],[⟨(0,0),1,[98,97,115,101,46,101],[exA]⟩]⟩],[]⟩
def bA:MoP:=⟨[98,97,115,101],[],[],[⟨(0,0),true,true,[101],[fdA]⟩],[],[]⟩
def oA:MoP:=⟨[103,114,97,112,104],[],[],[⟨(0,0),false,false,[103,114,97,112,104,46,112],[fdA]⟩,⟨(0,0),true,true,[98,97,115,101,46,101],[fdA]⟩],[⟨(0,0),[103,114,97,112,104,46,112],[exA],[[]],[⟨(0,0),1,[98,97,115,101,46,101],[exA]⟩]⟩],[]⟩
theorem flatA:flatF [gA,bA]=.ok oA:=by rfl
theorem QnY {b:Bool} {X Y:Prop} (h:b=true) (k:X):ift b X Y:=ift.of (fun _=>k) (fun d=>by rw [h] at d; cases d)
theorem QxB {A:Heap}:FdIs A fdA ⟨[120],⟨[105,110,116],Sl.nil⟩⟩:=⟨⟨rfl,by decide⟩,Qb7.2 ⟨⟨rfl,by decide⟩,SlIs.nil⟩⟩
theorem QxJ {A:Heap}:EpIs A exA ⟨2,Qk.zero,[88],Qg.zero,Sl.nil⟩:=QfQ.2 ⟨rfl,rfl,⟨rfl,by decide⟩,QxC,V0_B,SlIs.nil⟩
theorem QsN {C:Ctx} {H:Heap} (hT:MaxC C) {K:Bool→HP} (k:∀ D,H.le D→K true D):QgF C K H:=by
 apply Qpf
 unfold Qlj
 refine box1N fun b1 H2 n1 _ l1 h1=>box1N fun b3 H4 n3 _ l3 h3=>box1N fun b5 H6 n5 _ l5 h5=>box1N fun b7 H8 n7 _ X h7=>box1N fun b9 d3 n9 _ N h9=>box1N fun a8 d4 c3 _ A F=>box1N fun a9 d5 c4 _ t I=>box1N fun b15 d6 c5 _ h J=>box1N fun b0 b c6 _ f O=>?_
 have hF:H.le b:=l1.trans (l3.trans (l5.trans (X.trans (N.trans (A.trans (t.trans (h.trans f)))))))
 have J:=f _ _ J
 have I:=f _ _ (h _ _ I)
 have F:=f _ _ (h _ _ (t _ _ F))
 have h9:=f _ _ (h _ _ (t _ _ (A _ _ h9)))
 have h7:=f _ _ (h _ _ (t _ _ (A _ _ (N _ _ h7))))
 have h5:=f _ _ (h _ _ (t _ _ (A _ _ (N _ _ (X _ _ h5)))))
 have h3:=f _ _ (h _ _ (t _ _ (A _ _ (N _ _ (X _ _ (l5 _ _ h3))))))
 have h1:=f _ _ (h _ _ (t _ _ (A _ _ (N _ _ (X _ _ (l5 _ _ (l3 _ _ h1)))))))
 have f1:FdL b (Sl.of (some (b1,0)) 1 1) [fdA]:=QnO h1 QxB
 have e3:EpL b (Sl.of (some (b3,0)) 1 1) [exA]:=QnO h3 QxJ
 have i5:IpL b (Sl.of (some (b5,0)) 1 1) [⟨(0,0),[98,97,115,101]⟩]:=QnO (R:=IpIs) h5 ⟨rfl,rfl,by decide⟩
 have r7:RpL b (Sl.of (some (b7,0)) 1 1) [⟨(0,0),false,false,[112],[fdA]⟩]:=QnO h7 ⟨rfl,rfl,rfl,⟨rfl,by decide⟩,f1⟩
 have s9:StL b (Sl.of (some (b9,0)) 1 1) [[]]:=QnO (c:=fun x:Str=>[sv x]) (x:=[]) h9 ⟨rfl,by decide⟩
 have b11':LpL b (Sl.of (some (a8,0)) 1 1) [⟨(0,0),1,[98,97,115,101,46,101],[exA]⟩]:=QnO F ⟨rfl,rfl,⟨rfl,by decide⟩,e3⟩
 have Z:UpL b (Sl.of (some (a9,0)) 1 1) gA.ru:=QnO I ⟨rfl,⟨rfl,by decide⟩,e3,s9,b11'⟩
 have Y:RpL b (Sl.of (some (b15,0)) 1 1) bA.re:=QnO J ⟨rfl,rfl,rfl,⟨rfl,by decide⟩,f1⟩
 have hs:MpL b (Sl.of (some (b0,0)) 2 2) [gA,bA]:=Qx0 O ⟨⟨rfl,by decide⟩,⟨i5,Nat.le_refl _⟩,SlIs.nil,r7,Z,SlIs.nil⟩ ⟨⟨rfl,by decide⟩,⟨SlIs.nil,Nat.le_refl _⟩,SlIs.nil,Y,SlIs.nil,SlIs.nil⟩
 clear h1 h3 h5 h7 h9 F I J O f1 e3 i5 r7 s9 b11' Z Y n1 n3 n5 n7 n9 c3 c4 c5 c6 l1 l3 l5 X N A t h f
 refine Qm2 hT hs (Heap.le.refl _) (fun m hm=>by
  simp only [List.mem_cons,List.mem_nil_iff,or_false] at hm
  rcases hm with rfl | rfl <;> decide) (fun D B W bo q o Q hB hW hO=>?_) (fun D e he=>by rw [flatA] at he; cases he)
 have e:o=oA:=by rw [flatA] at Q; injection Q with Q; exact Q.symm
 subst e
 obtain ⟨T,c1⟩:=Qsu Q
 obtain ⟨⟨m1,_⟩,⟨m2,_⟩,m3,m4,m5,m6⟩:=hO.is c1
 have c0:=hF.trans (hW.trans hO.wle)
 have hN:(Heap.nw b B D).le D:=Qk9 hO.al
 refine box1N fun r d7 c7 _ S L=>box1N fun g H26 M _ U b8=>?_
 have n2:r≠g:=fun e=>by rw [e] at L; rw [L] at M; cases M
 have nb:D g=none:=S.none M
 refine ⟨_,U _ _ L,by show 0+6≤6; omega,_,by rw [Xb _ _ _ (Ne.symm n2)]; exact b8,by show 0+3≤3; omega,?_⟩
 rw [QeS (by rfl),QeS (by rfl)]
 have d:((H26.put r (.row (Qa.c q))).put g (.row (Qc.c ⟨[],psP (0,0)⟩))) r=some (true,.row (Qa.c q)):=by rw [Xb _ _ _ n2]; exact Xa ..
 have b6:((H26.put r (.row (Qa.c q))).put g (.row (Qc.c ⟨[],psP (0,0)⟩))) g=some (true,.row (Qc.c ⟨[],psP (0,0)⟩)):=Xa ..
 have P:D.le ((H26.put r (.row (Qa.c q))).put g (.row (Qc.c ⟨[],psP (0,0)⟩))):=QP (QP (S.trans U) c7) nb
 show jn _ _
 rw [show (H26.put (r,0).1 (GO.row (Qa.c q))).put (g,0).1 (GO.row (Qc.c ⟨[],psP (0,0)⟩))=(H26.put r (.row (Qa.c q))).put g (.row (Qc.c ⟨[],psP (0,0)⟩)) from rfl]
 generalize (H26.put r (.row (Qa.c q))).put g (.row (Qc.c ⟨[],psP (0,0)⟩))=G at *
 have u:=hN.trans P
 refine jn.inl (QnY rfl (bxT (c:=Qc.c) b6 ?_))
 refine jn.inl (QnY (Qjc.2 rfl) (fS d (j:=0) rfl ?_))
 rw [m1]
 refine jn.inl (QnY rfl (fL d (j:=1) rfl ?_))
 refine jn.inl (QnY (by rw [SlIs.len m2]; rfl) (fL d (j:=3) rfl ?_))
 refine jn.inl (QnY (by rw [SlIs.len m4]; rfl) (fL d (j:=3) rfl ?_))
 refine SlIs.at_ m4 u (z:=6) (fun _=>rfl) (by omega) (i:=0) rfl (by decide) fun p y hy E=>⟨y.Name,E 4 _ rfl,?_⟩
 refine jn.inl (QnY (by rw [hy.2.2.2.1.1]; rfl) (fL d (j:=3) rfl ?_))
 refine SlIs.at_ m4 u (z:=6) (fun _=>rfl) (by omega) (i:=1) rfl (by decide) fun p y hy E=>⟨y.Name,E 4 _ rfl,?_⟩
 refine jn.inl (QnY (by rw [hy.2.2.2.1.1]; rfl) (fL d (j:=3) rfl ?_))
 refine SlIs.at_ m4 u (z:=6) (fun _=>rfl) (by omega) (i:=1) rfl (by decide) fun p y hy E=>⟨y.Input,E 3 _ rfl,?_⟩
 refine jn.inl (QnY (by rw [hy.2.2.1]; rfl) (fL d (j:=4) rfl ?_))
 refine jn.inl (QnY (by rw [SlIs.len m5]; rfl) (fL d (j:=4) rfl ?_))
 refine SlIs.at_ m5 u (z:=6) (fun _=>rfl) (by omega) (i:=0) rfl (by decide) fun p y hy E=>⟨y.Rel,E 2 _ rfl,?_⟩
 refine jn.inl (QnY (by rw [hy.2.1.1]; rfl) (fL d (j:=4) rfl ?_))
 refine SlIs.at_ m5 u (z:=6) (fun _=>rfl) (by omega) (i:=0) rfl (by decide) fun p y hy E=>⟨y.Body,E 5 _ rfl,?_⟩
 refine SlIs.at_ hy.2.2.2.2 u (z:=5) (fun _=>rfl) (by omega) (i:=0) rfl (by decide) fun p y hy E=>⟨y.Rel,E 3 _ rfl,?_⟩
 refine jn.inl (QnY (by rw [hy.2.2.1.1]; rfl) (fL d (j:=4) rfl ?_))
 refine SlIs.at_ m5 u (z:=6) (fun _=>rfl) (by omega) (i:=0) rfl (by decide) fun p y hy E=>⟨y.Args,E 3 _ rfl,?_⟩
 have hk:=k G (c0.trans P)
 dsimp only
 rw [SlIs.len hy.2.2.1]
 exact hk
end
section
open Go Go.Proofs
def szM (m:MoP):Nat:=20+10*(m.im.length+m.ty.length+m.re.length+m.ru.length+m.ne.length)
theorem Qo4 {α:Type} {f:α→Nat} (b:∀ v,1≤f v):∀ l:List α,l.length≤sL f l
 | []=>Nat.zero_le _
 | v::l=>by have:=Qo4 b l; have:=b v; simp only [sL,Vd]; omega
theorem QuJ (m:MoP):m.im.length≤moSz m.e∧m.ty.length≤moSz m.e∧m.re.length≤moSz m.e∧m.ru.length≤moSz m.e∧m.ne.length≤moSz m.e:=by
 have b:=Qo4 (f:=tdSz) (fun v=>by unfold tdSz; omega) (m.ty.map TdP.e)
 have d:=Qo4 (f:=rdSz) (fun v=>by unfold rdSz; omega) (m.re.map RdP.e)
 have g:=Qo4 (f:=ruSz) (fun v=>by unfold ruSz; omega) (m.ru.map RuP.e)
 have h:=Qo4 (f:=neSz) (fun v=>by unfold neSz; omega) (m.ne.map NeP.e)
 simp only [List.length_map] at b d g h
 unfold moSz MoP.e
 simp only [List.length_map]
 refine ⟨by omega,by omega,by omega,by omega,by omega⟩
section
variable {C:Ctx} {A H:Heap}
theorem QvI (U:MaxC C) (J:FmtC C) {l:List MoP} {s:Sl} {K:Bool→HP} (r:MpL A s l) (I:A.le H) (Z:∀ m ∈ l,moSz m.e≤16777216) (hl:l.length≤16777216)
 (k:∀ b D,H.le D→(b=false→sL szM l < 5000∧∀ m ∈ l,moD m.e≤64)→K b D):QiP C s K H:=by
 have F:=SlIs.len r
 apply Qph
 unfold Qll
 refine ⟨fun y D=>H.le D∧∃ (i:Nat) (n:Int),y=(n,(i:Int))∧i≤l.length∧(sL szM (l.take i):Int)≤n∧n≤10000000000000∧∀ m ∈ l.take i,moD m.e≤64,fun y _=>l.length - y.2.toNat,⟨Heap.le.refl _,0,0,rfl,Nat.zero_le _,by simp [sL],by omega,fun m hm=>by simp at hm⟩,?_⟩
 rintro _ D ⟨u,i,n,rfl,hi,hn,X,L⟩
 rw [F]
 refine ift.of (fun h=>?_) (fun h=>?_)
 ·rw [Ve] at h
  have d:i < l.length:=by have:=Vb h.1; omega
  have R:n < 5000:=Vb h.2
  have a0:=Z _ (Vg d)
  have O:=QuJ l[i]
  have T:=QxT l[i].e
  have t:=Qxp (f:=szM) d
  have Q:∀ m ∈ l.take (i+1),m ∈ l.take i∨m=l[i]:=fun m hm=>by
   rw [Vp,Vf d,Vo] at hm
   rcases List.mem_append.1 hm with h | h
   ·exact .inl h
   ·exact .inr (by simpa using h)
  refine SlIs.ld r (I.trans u) (z:=6) (fun _=>rfl) (by omega) rfl d fun y hy=>?_
  have q:=fun (x:Qa) (hx:MpIs A l[i] x)=>Qw8 (MpIs.e hx)
  refine Qvk U J (MpIs.e hy) (I.trans u) (by omega) (fun h0=>?_) fun D2 B=>?_
  ·have:=q y hy (moC0 h0).2.1
   omega
  have Y:(if moC l[i].e=0 then moT l[i].e else []).length≤400000000000:=by
   split
   ·rename_i h0
    have:=q y hy (moC0 h0).2.1
    omega
   ·simp
  have j:=I.trans (u.trans B)
  have E:=u.trans B
  generalize (if moC l[i].e=0 then moT l[i].e else [])=tx at *
  refine ift.of (fun h=>k true D2 E (fun h=>by cases h)) (fun h=>?_)
  have M:moD l[i].e≤64:=by
   have h:moC l[i].e≠65:=by simpa using h
   unfold moC at h
   split at h
   ·exact absurd rfl h
   ·omega
  refine SlIs.at_ r j (z:=6) (fun _=>rfl) (by omega) rfl d fun p y1 g o=>⟨y1.Rules,o 4 _ rfl,?_⟩
  dsimp only
  rw [SlIs.len g.2.2.2.2.1]
  refine SlIs.at_ r j (z:=6) (fun _=>rfl) (by omega) rfl d fun p y1 g o=>⟨y1.Types,o 2 _ rfl,?_⟩
  dsimp only
  rw [SlIs.len g.2.2.1]
  refine SlIs.at_ r j (z:=6) (fun _=>rfl) (by omega) rfl d fun p y1 g o=>⟨y1.Rels,o 3 _ rfl,?_⟩
  dsimp only
  rw [SlIs.len g.2.2.2.1]
  refine SlIs.at_ r j (z:=6) (fun _=>rfl) (by omega) rfl d fun p y1 g o=>⟨y1.Nevers,o 5 _ rfl,?_⟩
  dsimp only
  rw [SlIs.len g.2.2.2.2.2]
  refine SlIs.at_ r j (z:=6) (fun _=>rfl) (by omega) rfl d fun p y1 g o=>⟨y1.Imports,o 1 _ rfl,?_⟩
  dsimp only
  rw [SlIs.len g.2.1.1]
  unfold szM at t
  generalize hm:l[i]=m at *
  rw [Qu (x := (m.ru.length : Int) + (m.ty.length : Int)) (by omega) (by omega), Qu (x := (m.ru.length : Int) + (m.ty.length : Int) + (m.re.length : Int)) (by omega) (by omega), Qu (x := (m.ru.length : Int) + (m.ty.length : Int) + (m.re.length : Int) + (m.ne.length : Int)) (by omega) (by omega), Qu (x := (m.ru.length : Int) + (m.ty.length : Int) + (m.re.length : Int) + (m.ne.length : Int) + (m.im.length : Int)) (by omega) (by omega),
   Qu (x:=10*((m.ru.length:Int)+(m.ty.length:Int)+(m.re.length:Int)+(m.ne.length:Int)+(m.im.length:Int))) (by omega) (by omega),Qu (x:=n+20) (by omega) (by omega),Qu (x:=n+20+(tx.length:Int)) (by omega) (by omega),Qu (x:=n+20+(tx.length:Int)+10*((m.ru.length:Int)+(m.ty.length:Int)+(m.re.length:Int)+(m.ne.length:Int)+(m.im.length:Int))) (by omega) (by omega),Qu (by omega) (by omega)]
  refine ⟨⟨E,i+1,_,rfl,by omega,?_,by omega,fun S P=>?_⟩,by first | omega | (dsimp only; omega)⟩
  ·change ((sL (fun m : MoP => 20 + 10 * (m.im.length + m.ty.length + m.re.length + m.ru.length + m.ne.length)) (l.take (i + 1)) : Nat) : Int) ≤ _
   have hn:((sL (fun m:MoP=>20+10*(m.im.length+m.ty.length+m.re.length+m.ru.length+m.ne.length)) (l.take i):Nat):Int)≤n:=hn
   have t:sL (fun m:MoP=>20+10*(m.im.length+m.ty.length+m.re.length+m.ru.length+m.ne.length)) (l.take (i+1))=sL (fun m:MoP=>20+10*(m.im.length+m.ty.length+m.re.length+m.ru.length+m.ne.length)) (l.take i)+(20+10*(m.im.length+m.ty.length+m.re.length+m.ru.length+m.ne.length)):=t
   omega
  ·rcases Q S P with G | G
   ·exact L S G
   ·rw [G]; exact M
 ·refine k _ D u fun W => ?_
  have R:n < 5000:=by have:=Vc W; dsimp only at this; omega
  have N:i=l.length:=by
   rcases Bool.and_eq_false_iff.1 h with h | h
   ·have:=Vc h; dsimp only at this; omega
   ·have:=Vc h; dsimp only at this; omega
  subst N
  rw [Vl] at hn L
  exact ⟨by omega,L⟩
end
end
section
open Go Go.Proofs
def plC (l:List Pl):List Value:=l.flatMap fun p=>Qk.c (psP p)
theorem Qsz (a b:List Pl):plC (a++b)=plC a++plC b:=by unfold plC; rw [List.flatMap_append]
theorem QlX:∀ l:List Pl,(plC l).length=l.length*2
 | []=>rfl
 | p::l=>by have:=QlX l; unfold plC at this ⊢; rw [List.flatMap_cons,Va,this,Vd,Nat.add_mul]; show 2+_=_; omega
theorem Qxg (l:List Pl):∀ u ∈ plC l,u.oneCell' = true:=fun u b=>by
 obtain ⟨p,_,hp⟩:=List.mem_flatMap.1 b
 simp only [Qk.c,List.mem_cons,List.mem_nil_iff,or_false] at hp
 rcases hp with rfl | rfl <;> rfl
theorem QpT:∀ l:List ExP,exsPl l=l.flatMap exPl
 | []=>rfl
 | v::l=>by rw [exsPl,QpT l,List.flatMap_cons]
theorem Quo (v:ExP):exPl v=v.p::exsPl v.a:=by obtain ⟨p,k,n,u,a⟩:=v; rfl
theorem Qwk {α β:Type} {f:α→List β} {l:List α} {i:Nat} (h:i < l.length):(l.take (i+1)).flatMap f=(l.take i).flatMap f++f l[i]:=by
 rw [Vp,Vf h,Vo,List.flatMap_append]; simp
theorem Qs0 {α β:Type} {f:α→List β} {l:List α} {i:Nat} (h:i < l.length):((l.take i).flatMap f).length+(f l[i]).length≤(l.flatMap f).length:=by
 have e:l=l.take (i+1)++l.drop (i+1):=(List.take_append_drop _ _).symm
 have:=congrArg (fun m=>(m.flatMap f).length) e
 rw [List.flatMap_append,Va,Qwk h,Va] at this
 omega
section
variable {C:Ctx} {A H:Heap}
theorem OwnF.lenP {H0 D:Heap} {s:Sl} {l:List Pl} (h:OwnF H0 D 2 s (plC l)):s.len=l.length:=by have:=h.own.1; rw [QlX] at this; omega
theorem lpPl {α:Type} {f:α→List Pl} {l:List α} {pre:List Pl} {s0:Sl} {H D0:Heap} {body:Sl×Int→(Sl×Int→HP)→HP} (h0:OwnF H D0 2 s0 (plC pre)) (hl:l.length≤140737488355328)
 (step:∀ (s:Sl) (i:Nat) (D:Heap) (J:Sl×Int→HP),OwnF H D 2 s (plC (pre++(l.take i).flatMap f))→i≤l.length→(∀ (h:i < l.length) (r:Sl) (D':Heap),OwnF H D' 2 r (plC (pre++(l.take i).flatMap f++f l[i]))→J (r,w .i64 ((i:Int)+1)) D')→body (s,(i:Int)) J D):lp (α:=Sl×Int) (s0,0) D0 body:=by
 refine ⟨fun y D=>∃ i:Nat,y.2=(i:Int)∧i≤l.length∧OwnF H D 2 y.1 (plC (pre++(l.take i).flatMap f)),fun y _=>l.length - y.2.toNat,⟨0,rfl,Nat.zero_le _,by simpa using h0⟩,?_⟩
 rintro ⟨s,_⟩ D ⟨i,rfl,hi,hO⟩
 refine step s i D _ hO hi fun h r D' hr=>?_
 rw [Qu (by omega) (by omega)]
 refine ⟨⟨i+1,rfl,by omega,?_⟩,by first | omega | (dsimp only; omega)⟩
 rw [Qwk h,← List.append_assoc]; exact hr
theorem apP {H0 D:Heap} {s:Sl} {l:List Pl} {p:Pl} {q:Qk} {K:Sl→HP} (h:OwnF H0 D 2 s (plC l)) (hq:q=psP p) (hb:l.length≤4294967296) (k:∀ r D2,OwnF H0 D2 2 r (plC (l++[p]))→K r D2):apd (Qk.c Qk.zero) 16 s (Qk.c q++[]) 1 K D:=by
 subst hq
 have:=h.lenP
 refine Qmb (zc:=Qk.c Qk.zero) h (by rw [List.append_nil]; rfl) (by omega) (by omega) fun r D2 hr _=>k r D2 ?_
 rw [Qsz]
 have e:plC [p]=Qk.c (psP p)++[]:=by simp [plC]
 rw [e]; exact hr
theorem apPs {H0 D1 D:Heap} {s t:Sl} {l m:List Pl} {K:Sl→HP} (h:OwnF H0 D 2 s (plC l)) (ht:OwnF D1 D 2 t (plC m)) (hb:l.length+m.length≤4294967296) (k:∀ r D2,OwnF H0 D2 2 r (plC (l++m))→K r D2):apS (Qk.c Qk.zero) 16 s t K D:=by
 have e1:=h.lenP
 have e2:=ht.lenP
 refine Qma (zc:=Qk.c Qk.zero) h ht.own.rdsl (by rw [QlX,e2]; rfl) (Qxg _) (by omega) (by omega) fun r D2 hr _=>k r D2 ?_
 rw [Qsz]; exact hr
theorem QpR:∀ (u:Nat) {l:List ExP} {s:Sl} {H:Heap} {K:Sl→HP},(exsPl l).length < u→(exsPl l).length≤4294967296→EpL A s l→A.le H→(∀ r D,OwnF H D 2 r (plC (exsPl l))→K r D)→QeY C s K H:=by
 intro u
 induction u with
 | zero=>intro l s H K h; omega
 | succ u O=>
 intro l s H K N M B L k
 have x:=SlIs.len B
 have F:=SlIs.bd B
 rw [QpT] at N M k
 apply Qpg
 unfold Qlk
 refine lpPl (f:=exPl) (pre:=[]) (l:=l) (OwnF.nil H 2) F fun U i D J hO hi g=>?_
 rw [x]
 refine ift.of (fun h=>?_) (fun h=>?_)
 ·have b : i < l.length := by have := Vb h; omega
  have g:=g b
  have hle:=Qs0 (f:=exPl) b
  have E:=L.trans hO.le
  rw [List.nil_append] at hO g
  rw [Quo] at g hle
  simp only [Vd] at hle
  refine SlIs.at_ B E (z:=9) (fun _=>rfl) (by omega) rfl b fun p y hy I=>⟨y.Pos,Qff fun j v t=>?_,?_⟩
  ·have := I (1 + j) v (by match j, t with | 0, t => exact t | 1, t => exact t)
   rw [← Nat.add_assoc] at this; exact this
  refine apP hO (QfQ.1 hy).1 (by omega) fun P D2 m=>?_
  have d:=L.trans m.le
  refine SlIs.at_ B d (z:=9) (fun _=>rfl) (by omega) rfl b fun p y hy I=>⟨y.Args,I 8 _ rfl,?_⟩
  refine O (l:=l[i].a) (by omega) (by omega) (QfQ.1 hy).2.2.2.2.2 d fun Q S o=>?_
  refine apPs (m.up o.le) o (by simp only [Va,Vd,Vk]; omega) fun R T q=>g _ _ ?_
  rw [List.append_assoc] at q; exact q
 ·have G : i = l.length := by have := Vc h; omega
  subst G
  rw [Vl,List.nil_append] at hO
  exact k _ _ hO
theorem Qrr {l:List LiP} {s:Sl} {K:Sl→HP} (M:(boPl l).length≤4294967296) (B:LpL A s l) (L:A.le H) (k:∀ r D,OwnF H D 2 r (plC (boPl l))→K r D):Qhd C s K H:=by
 have t:=SlIs.len B
 have F:=SlIs.bd B
 unfold boPl at M k
 apply Qqd
 unfold Qms
 refine lpPl (f:=fun x=>x.p::exsPl x.a) (pre:=[]) (l:=l) (OwnF.nil H 2) F fun S i D J hO hi u=>?_
 rw [t]
 refine ift.of (fun h=>?_) (fun h=>?_)
 ·have b : i < l.length := by have := Vb h; omega
  have u:=u b
  have hle:=Qs0 (f:=fun x:LiP=>x.p::exsPl x.a) b
  have E:=L.trans hO.le
  rw [List.nil_append] at hO u
  simp only [Vd] at hle
  refine SlIs.at_ B E (z:=5) (fun _=>rfl) (by omega) rfl b fun p y hy I=>⟨y.Pos,Qff fun j v q=>?_,?_⟩
  ·have := I (1 + j) v (by match j, q with | 0, q => exact q | 1, q => exact q)
   rw [← Nat.add_assoc] at this; exact this
  refine apP hO hy.1 (by omega) fun N D2 g=>?_
  have d:=L.trans g.le
  refine SlIs.at_ B d (z:=5) (fun _=>rfl) (by omega) rfl b fun p y hy I=>⟨y.Args,I 4 _ rfl,?_⟩
  refine QpR _ (l:=l[i].a) (Nat.lt_succ_self _) (by omega) hy.2.2.2 d fun O Q m=>?_
  refine apPs (g.up m.le) m (by simp only [Va,Vd,Vk]; omega) fun P R o=>u _ _ ?_
  rw [List.append_assoc] at o; exact o
 ·have G : i = l.length := by have := Vc h; omega
  subst G
  rw [Vl,List.nil_append] at hO
  exact k _ _ hO
end
end
section
open Go Go.Proofs
theorem QoI {α β : Type} {f : α → β} : ∀ l : List α, l.flatMap (fun v => [f v]) = l.map f
 | []=>rfl
 | v::l=>by rw [List.flatMap_cons,QoI l]; rfl
theorem Qxf:∀ {l m:List Pl},(∀ (i:Nat) (h:i < l.length) (g:i < m.length),Qk.c (psP l[i])=Qk.c (psP m[i]))→l.length=m.length→l=m:=fun {l m} h f=>by
 refine List.ext_getElem f fun i b d=>?_
 have:=h i b d
 simp only [Qk.c,psP,List.cons.injEq,Value.int.injEq,true_and,and_true] at this
 exact Prod.ext this.1 this.2
theorem Qwu {l:List Pl} {i j:Nat} {v:Value} (h:i < l.length) (d:(Qk.c (psP l[i]))[j]? = some v):(plC l)[i*2+j]? = some v:=by
 have b:j < 2:=(List.getElem?_eq_some_iff.1 d).1
 have e:l=l.take i++l[i]::l.drop (i+1):=by rw [← QbK h,List.take_append_drop]
 have f:plC l=plC (l.take i)++(Qk.c (psP l[i])++plC (l.drop (i+1))):=by
  have:plC (l[i]::l.drop (i+1))=Qk.c (psP l[i])++plC (l.drop (i+1)):=by unfold plC; rw [List.flatMap_cons]
  rw [← this,← Qsz,← e]
 rw [f,List.getElem?_append_right (by rw [QlX,List.length_take]; omega),QlX,List.length_take,Nat.min_eq_left (by omega),Nat.add_sub_cancel_left,List.getElem?_append_left (by show j < 2; exact b)]
 exact d
section
variable {C:Ctx} {A H:Heap}
theorem QrT {m:MoP} {x:Qa} {K:Sl→HP} (hm:MpIs A m x) (hA:A.le H) (T:(moPl m).length≤4294967296) (k:∀ r D,OwnF H D 2 r (plC (moPl m))→K r D):QfR C x K H:=by
 obtain ⟨_,_,Q,R,O,P⟩:=hm
 unfold moPl at T k
 simp only [Va,List.length_map] at T
 apply Qob
 unfold Qkr
 refine box1N fun b1 H2 n1 _ U L=>?_
 have k:∀ r D,OwnF H2 D 2 r (plC (m.ty.map TdP.p++m.re.map RdP.p++m.ru.flatMap (fun r=>r.p::(exsPl r.a++boPl r.b))++m.ne.flatMap (fun n=>n.p::boPl n.b)))→K r D:=fun r D h=>k r D (by
  have:=h.down U
  rwa [List.append_assoc,List.append_assoc] at this)
 have q:=hA.trans U
 have Y:=SlIs.len Q
 have Z:=SlIs.len R
 have e5:=SlIs.len O
 have e6:=SlIs.len P
 refine lpPl (f:=fun t:TdP=>[t.p]) (pre:=[]) (l:=m.ty) (OwnF.nil H2 2) (SlIs.bd Q) fun S i D J hO hi u=>?_
 have F:=hO.le _ _ L
 rw [List.nil_append] at hO u
 refine fL F (j:=2) rfl ?_
 dsimp only
 rw [Y]
 refine ift.of (fun h=>?_) (fun h=>?_)
 ·have d : i < m.ty.length := by have := Vb h; omega
  refine fL F (j:=2) rfl (SlIs.at_ Q (q.trans hO.le) (z:=6) (fun _=>rfl) (by omega) rfl d fun p y hy G=>⟨y.Pos,Qff fun j v o=>?_,?_⟩)
  ·have := G (0 + j) v (by match j, o with | 0, o => exact o | 1, o => exact o)
   rw [← Nat.add_assoc] at this; exact this
  refine apP hO hy.1 ?_ fun r D2 g=>u d _ _ g
  rw [QoI,List.length_map,List.length_take]; omega
 have E:i=m.ty.length:=by have:=Vc h; omega
 subst E
 rw [Vl,QoI] at hO
 clear u F h hi
 refine lpPl (f:=fun t:RdP=>[t.p]) (l:=m.re) hO (SlIs.bd R) fun S i D J hO hi u=>?_
 have F:=hO.le _ _ L
 refine fL F (j:=3) rfl ?_
 dsimp only
 rw [Z]
 refine ift.of (fun h=>?_) (fun h=>?_)
 ·have d : i < m.re.length := by have := Vb h; omega
  refine fL F (j:=3) rfl (SlIs.at_ R (q.trans hO.le) (z:=6) (fun _=>rfl) (by omega) rfl d fun p y hy G=>⟨y.Pos,Qff fun j v o=>?_,?_⟩)
  ·have := G (0 + j) v (by match j, o with | 0, o => exact o | 1, o => exact o)
   rw [← Nat.add_assoc] at this; exact this
  refine apP hO hy.1 ?_ fun r D2 g=>u d _ _ g
  rw [QoI,Va,List.length_map,List.length_map,List.length_take]; omega
 have E:i=m.re.length:=by have:=Vc h; omega
 subst E
 rw [Vl,QoI] at hO
 clear u F h hi
 refine lpPl (f:=fun r:RuP=>r.p::(exsPl r.a++boPl r.b)) (l:=m.ru) hO (SlIs.bd O) fun S i D J hO hi u=>?_
 have F:=hO.le _ _ L
 refine fL F (j:=4) rfl ?_
 dsimp only
 rw [e5]
 refine ift.of (fun h=>?_) (fun h=>?_)
 ·have d : i < m.ru.length := by have := Vb h; omega
  have hle:=Qs0 (f:=fun r:RuP=>r.p::(exsPl r.a++boPl r.b)) d
  have u:=u d
  simp only [Vd,Va] at hle
  refine fL F (j:=4) rfl (SlIs.at_ O (q.trans hO.le) (z:=6) (fun _=>rfl) (by omega) rfl d fun p y hy G=>⟨y.Pos,Qff fun j v o=>?_,?_⟩)
  ·have := G (0 + j) v (by match j, o with | 0, o => exact o | 1, o => exact o)
   rw [← Nat.add_assoc] at this; exact this
  refine apP hO hy.1 (by simp only [Va,List.length_map]; omega) fun r D2 g=>?_
  refine fL (g.le _ _ L) (j:=4) rfl (SlIs.at_ O (q.trans g.le) (z:=6) (fun _=>rfl) (by omega) rfl d fun p y hy G=>⟨y.Args,G 3 _ rfl,?_⟩)
  refine QpR _ (l:=m.ru[i].a) (Nat.lt_succ_self _) (by omega) hy.2.2.1 (q.trans g.le) fun r2 W I=>?_
  refine apPs (g.up I.le) I (by simp only [Va,List.length_map,Vd,Vk]; omega) fun r3 X B=>?_
  refine fL (B.le _ _ L) (j:=4) rfl (SlIs.at_ O (q.trans B.le) (z:=6) (fun _=>rfl) (by omega) rfl d fun p y hy G=>⟨y.Body,G 5 _ rfl,?_⟩)
  refine Qrr (l:=m.ru[i].b) (by omega) hy.2.2.2.2 (q.trans B.le) fun r4 D5 M=>?_
  refine apPs (B.up M.le) M (by simp only [Va,List.length_map,Vd,Vk]; omega) fun r5 D6 N=>u _ _ ?_
  simp only [List.append_assoc,List.singleton_append] at N ⊢
  exact N
 have E:i=m.ru.length:=by have:=Vc h; omega
 subst E
 rw [Vl] at hO
 clear u F h hi
 refine lpPl (f:=fun n:NeP=>n.p::boPl n.b) (l:=m.ne) hO (SlIs.bd P) fun S i D J hO hi u=>?_
 have F:=hO.le _ _ L
 refine fL F (j:=5) rfl ?_
 dsimp only
 rw [e6]
 refine ift.of (fun h=>?_) (fun h=>?_)
 ·have d : i < m.ne.length := by have := Vb h; omega
  have hle:=Qs0 (f:=fun n:NeP=>n.p::boPl n.b) d
  have u:=u d
  simp only [Vd] at hle
  refine fL F (j:=5) rfl (SlIs.at_ P (q.trans hO.le) (z:=4) (fun _=>rfl) (by omega) rfl d fun p y hy G=>⟨y.Pos,Qff fun j v o=>?_,?_⟩)
  ·have := G (0 + j) v (by match j, o with | 0, o => exact o | 1, o => exact o)
   rw [← Nat.add_assoc] at this; exact this
  refine apP hO hy.1 (by simp only [Va,List.length_map]; omega) fun r D2 g=>?_
  refine fL (g.le _ _ L) (j:=5) rfl (SlIs.at_ P (q.trans g.le) (z:=4) (fun _=>rfl) (by omega) rfl d fun p y hy G=>⟨y.Body,G 3 _ rfl,?_⟩)
  refine Qrr (l:=m.ne[i].b) (by omega) hy.2.2 (q.trans g.le) fun r2 W I=>?_
  refine apPs (g.up I.le) I (by simp only [Va,List.length_map,Vd,Vk]; omega) fun r3 X B=>u _ _ ?_
  simp only [List.append_assoc,List.singleton_append] at B ⊢
  exact B
 have E:i=m.ne.length:=by have:=Vc h; omega
 subst E
 rw [Vl] at hO
 exact k _ _ hO
theorem Qti {m n:MoP} {x y:Qa} {K:Bool→HP} (hm:MpIs A m x) (hn:MpIs A n y) (hA:A.le H) (hb:(moPl m).length≤4294967296) (hb2:(moPl n).length≤4294967296) (k:∀ b D,H.le D→(m.e=n.e→moPl m=moPl n→b=true)→(b=true→m.e=n.e∧moPl m=moPl n)→K b D):Qhe C x y K H:=by
 apply Qqe
 unfold Qmt
 refine box1N fun b1 H2 n1 _ l1 h1=>box1N fun b3 H4 n3 _ l3 h3=>?_
 have h1:=l3 _ _ h1
 have l13:=l1.trans l3
 refine bxT (c:=Qa.c) h1 (bxT (c:=Qa.c) h3 ?_)
 refine Qvq (MpIs.e hm) (MpIs.e hn) (hA.trans l13) ?_
 refine ift.of (fun h=>?_) (fun h=>?_)
 ·have hne:m.e≠n.e:=nsm.1 h
  exact k false _ l13 (fun e=>absurd e hne) (fun h=>by cases h)
 have he:m.e=n.e:=by
  refine Classical.byContradiction fun hne=>?_
  rw [(nsm (v:=m.e) (w:=n.e)).2 hne] at h; cases h
 refine ⟨H4,Heap.le.refl _,bxT (c:=Qa.c) h1 (bxT (c:=Qa.c) h3 ?_)⟩
 refine QrT hm (hA.trans l13) hb fun r19 D1 hO1=>⟨hO1.le,?_⟩
 refine QrT hn ((hA.trans l13).trans hO1.le) hb2 fun r22 D2 hO2=>⟨hO1.le.trans hO2.le,?_⟩
 have e1:=hO1.lenP
 have e2:=hO2.lenP
 have hHD2:=l13.trans (hO1.le.trans hO2.le)
 rw [e1,e2]
 refine ift.of (fun h=>?_) (fun h=>?_)
 ·have hne : moPl m ≠ moPl n := fun e => by rw [e] at h; simp at h
  exact k false _ hHD2 (fun _ e=>absurd e hne) (fun h=>by cases h)
 have hll:(moPl m).length=(moPl n).length:=by
  have:((moPl m).length:Int)=((moPl n).length:Int):=by simpa using h
  omega
 refine ⟨fun x D=>D=D2∧∃ i:Nat,x=(i:Int)∧i≤(moPl m).length∧∀ j (h:j < (moPl m).length) (h':j < (moPl n).length),j < i→Qk.c (psP (moPl m)[j])=Qk.c (psP (moPl n)[j]),fun x _=>(moPl m).length - x.toNat,⟨rfl,0,rfl,Nat.zero_le _,fun j _ _ h=>by omega⟩,?_⟩
 rintro _ D ⟨hDe,i,rfl,hi,hE⟩
 subst hDe
 have r1:=hO1.own.rdsl
 have r2:=hO2.own.rdsl
 refine ift.of (fun h=>?_) (fun h=>?_)
 ·have hil : i < (moPl m).length := by have := Vb h; omega
  have hil2:i < (moPl n).length:=by omega
  have ne1:plC (moPl m)≠[]:=fun e=>by have:=QlX (moPl m); rw [e] at this; simp at this; omega
  have ne2:plC (moPl n)≠[]:=fun e=>by have:=QlX (moPl n); rw [e] at this; simp at this; omega
  refine Qs7 (Qgl hO2.le r1) (by omega) (by omega) ne1 fun p hp hr=>⟨psP (moPl m)[i],Qff fun j v hj=>?_,?_⟩
  ·have:=Qi7 hr _ _ (Qwu hil hj)
   rw [← Nat.add_assoc] at this; exact this
  refine Qs7 r2 (by omega) (by omega) ne2 fun p hp hr=>⟨psP (moPl n)[i],Qff fun j v hj=>?_,?_⟩
  ·have:=Qi7 hr _ _ (Qwu hil2 hj)
   rw [← Nat.add_assoc] at this; exact this
  refine ift.of (fun h=>?_) (fun h=>?_)
  ·refine k false _ hHD2 (fun _ e => ?_) (fun h => by cases h)
   have:csEq (Qk.c (psP (moPl m)[i])) (Qk.c (psP (moPl n)[i]))=true:=Qjc.2 (by
    have:(moPl m)[i]=(moPl n)[i]:=by simp only [e]
    rw [this])
   rw [this] at h; cases h
  ·have hq : Qk.c (psP (moPl m)[i]) = Qk.c (psP (moPl n)[i]) := Qjc.1 (by simpa using h)
   rw [Qu (by omega) (by omega)]
   refine ⟨⟨rfl,i+1,rfl,by omega,fun j h1 h2 hj=>?_⟩,by first | omega | (dsimp only; omega)⟩
   by_cases hji:j=i
   ·subst hji; exact hq
   ·exact hE j h1 h2 (by omega)
 ·have hie : i = (moPl m).length := by have := Vc h; omega
  subst hie
  exact k true _ hHD2 (fun _ _=>rfl) (fun _=>⟨he,Qxf (fun j h1 h2=>hE j h1 h2 h1) hll⟩)
end
end
section
open Go Go.Proofs
section
variable {T:Tl} {m:MoP}
end
end
section
open Go Go.Proofs
theorem QwS:∀ v:ExP,(exPl v).length=exSz v.e:=by
 refine ExP.rec_ fun v f=>?_
 rw [Quo,XK,QqO,Vd]
 have:∀ l:List ExP,(∀ w ∈ l,(exPl w).length=exSz w.e)→(exsPl l).length=sL exSz (l.map ExP.e):=by
  intro l
  induction l with
  | nil=>intro _; rfl
  | cons v l b=>
   intro h
   simp only [exsPl,Va,List.map_cons,sL]
   rw [h v (List.mem_cons_self ..),b fun w d=>h w (List.mem_cons_of_mem _ d)]
 have h:=this v.a f
 show (exsPl v.a).length+1=sL exSz (v.a.map ExP.e)+1
 omega
theorem QqR:∀ l:List ExP,(exsPl l).length=sL exSz (l.map ExP.e)
 | []=>rfl
 | v::l=>by simp only [exsPl,Va,List.map_cons,sL,QwS v,QqR l]
theorem Qsi:∀ l:List LiP,(boPl l).length=sL liSz (l.map LiP.e)
 | []=>rfl
 | v::l=>by
  have:=Qsi l
  unfold boPl at this ⊢
  simp only [List.flatMap_cons,Va,Vd,List.map_cons,sL,this,liSz,LiP.e,QqR]
theorem Qw7 (m:MoP):(moPl m).length≤moSz m.e:=by
 have g:=Qo4 (f:=tdSz) (fun v=>by unfold tdSz; omega) (m.ty.map TdP.e)
 have h:=Qo4 (f:=rdSz) (fun v=>by unfold rdSz; omega) (m.re.map RdP.e)
 have i:∀ l:List RuP,(l.flatMap (fun r=>r.p::(exsPl r.a++boPl r.b))).length=sL ruSz (l.map RuP.e):=by
  intro l
  induction l with
  | nil=>rfl
  | cons r l d=>
   simp only [List.flatMap_cons,Va,Vd,List.map_cons,sL,d,ruSz,RuP.e,QqR,Qsi]
 have j:∀ l:List NeP,(l.flatMap (fun n=>n.p::boPl n.b)).length=sL neSz (l.map NeP.e):=by
  intro l
  induction l with
  | nil=>rfl
  | cons r l d=>
   simp only [List.flatMap_cons,Va,Vd,List.map_cons,sL,d,neSz,NeP.e,Qsi]
 simp only [List.length_map] at g h
 unfold moPl moSz MoP.e
 simp only [Va,List.length_map,i,j]
 omega
section
variable {T:Tl} {m:MoP}
mutual
theorem QxK:∀ {v w:ExP},exF T m v=.ok w→exPl w=exPl v
 | .mk p k n u a,w,h=>by
  rw [exF] at h
  split at h
  ·cases h
  ·split at h
   ·cases h
   ·rename_i a' ha
    injection h with h
    subst h
    rw [exPl,exPl,QqQ ha]
theorem QqQ:∀ {l r:List ExP},exsF T m l=.ok r→exsPl r=exsPl l
 | [],r,h=>by rw [exsF] at h; injection h with h; subst h; rfl
 | v::l,r,h=>by
  rw [exsF] at h
  split at h
  ·cases h
  ·rename_i w hw
   split at h
   ·cases h
   ·rename_i r' hr
    injection h with h
    subst h
    rw [exsPl,exsPl,QxK hw,QqQ hr]
end
theorem Qq4 {ε α β γ:Type} {f:α→Except ε β} {g:α→List γ} {h:β→List γ} (e:∀ v w,f v=.ok w→h w=g v):∀ {l:List α} {r:List β},mpE f l=.ok r→r.flatMap h=l.flatMap g
 | [],r,hh=>by simp only [mpE] at hh; injection hh with hh; subst hh; rfl
 | v::l,r,hh=>by
  simp only [mpE] at hh
  split at hh
  ·cases hh
  ·rename_i w hw
   split at hh
   ·cases hh
   ·rename_i r' hr
    injection hh with hh
    subst hh
    rw [List.flatMap_cons,List.flatMap_cons,e v w hw,Qq4 e hr]
theorem QxS {v w:LiP} (h:liF T m v=.ok w):w.p::exsPl w.a=v.p::exsPl v.a:=by
 unfold liF at h
 split at h
 ·cases h
 ·split at h
  ·cases h
  ·rename_i a b
   injection h with h
   subst h
   rw [← QqP] at b
   dsimp only
   rw [QqQ b]
theorem Qwe {l r:List LiP} (h:mpE (liF T m) l=.ok r):boPl r=boPl l:=Qq4 (fun v w h=>QxS h) h
theorem QxZ {v w:RuP} (h:ruF T m v=.ok w):w.p::(exsPl w.a++boPl w.b)=v.p::(exsPl v.a++boPl v.b):=by
 unfold ruF at h
 split at h
 ·cases h
 ·split at h
  ·cases h
  ·split at h
   ·cases h
   ·rename_i a d
    split at h
    ·cases h
    ·rename_i b f
     injection h with h
     subst h
     rw [← QqP] at d
     dsimp only
     rw [QqQ d,Qwe f]
theorem QxU {v w:NeP} (h:neF T m v=.ok w):w.p::boPl w.b=v.p::boPl v.b:=by
 unfold neF at h
 split at h
 ·cases h
 ·rename_i b d
  injection h with h
  subst h
  dsimp only
  rw [Qwe d]
theorem Qwc {o o':MoP} (h:usedF T o m=.ok o'):(moPl o').length=(moPl o).length+(moPl m).length:=by
 unfold usedF at h
 split at h
 ·cases h
 split at h
 ·cases h
 split at h
 ·cases h
 split at h
 ·cases h
 rename_i _ a j _ b q _ c t _ d u
 injection h with h
 subst h
 have f:=Qq4 (h:=fun r:RuP=>r.p::(exsPl r.a++boPl r.b)) (g:=fun r:RuP=>r.p::(exsPl r.a++boPl r.b)) (fun v w h=>QxZ h) t
 have i:=Qq4 (h:=fun n:NeP=>n.p::boPl n.b) (g:=fun n:NeP=>n.p::boPl n.b) (fun v w h=>QxU h) u
 have x:=Qap j
 have l2:=Qap q
 unfold moPl
 simp only [List.map_append,List.flatMap_append,Va,List.length_map,f,i,x,l2]
 omega
end
theorem Qqa {T : Tl} : ∀ {l : List MoP} {o o' : MoP}, usedAll T o l = .ok o' → (moPl o').length = (moPl o).length + sL (fun m => (moPl m).length) l
 | [],o,o',h=>by simp only [usedAll] at h; injection h with h; subst h; simp [sL]
 | m::l,o,o',h=>by
  simp only [usedAll] at h
  split at h
  ·cases h
  ·rename_i o1 h1
   have e1:=Qwc h1
   have b:=Qqa h
   simp only [sL]; omega
theorem FlatO.pl {l:List MoP} {T:Tl} {o:MoP} (h:FlatO l T o) (f:∀ m ∈ l,moSz m.e≤268435456):(moPl o).length≤4294967296:=by
 have e:=Qqa h.us
 have h8:=h.l8
 have:∀ l:List MoP,(∀ m ∈ l,moSz m.e≤268435456)→sL (fun m=>(moPl m).length) l≤l.length*268435456:=by
  intro l
  induction l with
  | nil=>intro _; simp [sL]
  | cons m l g=>
   intro b
   have i:=Qw7 m
   have j:=b m (List.mem_cons_self ..)
   have d:=g fun x hx=>b x (List.mem_cons_of_mem _ hx)
   simp only [sL,Vd,Nat.add_mul]; omega
 have d:=this l f
 have q:l.length*268435456≤8*268435456:=Nat.mul_le_mul_right _ h8
 have r:(moPl ⟨(l.head?.map MoP.n).getD [],[],[],[],[],[]⟩).length=0:=rfl
 omega
end
section
open Go Go.Proofs
section
variable {α β:Type} {c:β→List Value} {z:Nat} {D D2:Heap} {s:Sl} {xs:List β}
end
section
variable {C:Ctx} {A H:Heap}
end
end
section
open Go Go.Proofs
section
variable {C:Ctx} {H:Heap}
end
end
section
open Go Go.Proofs
section
variable {T S:Tl} {m:MoP}
end
def Lk0 (T:Tl) (n:Str):Prop:=∀ k,k.1=n→lkL k T=none
theorem QoT {κ α : Type} [DecidableEq κ] {k : κ} : ∀ {T S : List (κ × α)}, lkL k (T ++ S) = match lkL k T with | some x => some x | none => lkL k S
 | [],S=>rfl
 | p::T,S=>by
  simp only [List.cons_append,lkL]
  split
  ·rfl
  ·exact QoT
theorem Qrb {T S:Tl} {k:Ky} {b:Bool} (h:lkL k T=none):tellF (T++S) k b=((tellF S k b).1,T++(tellF S k b).2):=by
 unfold tellF
 rw [QoT,h]
 dsimp only
 cases lkL k S with
 | none=>simp
 | some x=>rfl
theorem QxI {m:Str} {b:Bool} {T:Tl} (h:Lk0 T m):∀ {l:List CnV} {a:Bool} {S:Tl},csNm m b (a,T++S) l=((csNm m b (a,S) l).1,T++(csNm m b (a,S) l).2)
 | [],a,S=>rfl
 | c::l,a,S=>by
  rw [csNm,csNm]
  dsimp only
  rw [Qrb (h _ rfl)]
  dsimp only
  rw [QxI h]
theorem Qyd {m:Str} {t:TdP} {T S:Tl} (h:Lk0 T m):tyNm m t (T++S)=((tyNm m t S).1,T++(tyNm m t S).2):=by
 unfold tyNm
 rw [Qrb (h _ rfl)]
 dsimp only
 rw [QxI h]
theorem Qwt {m : Str} {T : Tl} (h : Lk0 T m) : ∀ {l : List TdP} {S : Tl}, namesTy m l (T ++ S) = match namesTy m l S with | .error e => .error e | .ok R => .ok (T ++ R)
 | [],S=>rfl
 | t::l,S=>by
  rw [namesTy,namesTy,Qyd h]
  dsimp only
  split
  ·rfl
  ·split
   ·rfl
   ·exact Qwt h
theorem Qws {m : Str} {T : Tl} (h : Lk0 T m) : ∀ {l : List RdP} {S : Tl}, namesRe m l (T ++ S) = match namesRe m l S with | .error e => .error e | .ok R => .ok (T ++ R)
 | [],S=>rfl
 | t::l,S=>by
  rw [namesRe,namesRe,Qrb (h _ rfl)]
  dsimp only
  split
  ·rfl
  ·split
   ·rfl
   ·exact Qws h
theorem Qwr {m : Str} {T : Tl} (h : Lk0 T m) : ∀ {l : List NeP} {S : Tl}, namesNe m l (T ++ S) = match namesNe m l S with | .error e => .error e | .ok R => .ok (T ++ R)
 | [],S=>rfl
 | t::l,S=>by
  rw [namesNe,namesNe,Qrb (h _ rfl)]
  dsimp only
  split
  ·rfl
  ·exact Qwr h
theorem Qw9 {m:MoP} {T:Tl} (h:Lk0 T m.n):namesF m T=match namesF m [] with | .error e=>.error e | .ok R=>.ok (T++R):=by
 unfold namesF
 have e:=Qwt (l:=m.ty) (S:=[]) h
 rw [List.append_nil] at e
 rw [e]
 cases namesTy m.n m.ty [] with
 | error e=>rfl
 | ok R=>
  dsimp only
  rw [Qws h]
  cases namesRe m.n m.re R with
  | error e=>rfl
  | ok R2=>
   dsimp only
   rw [Qwr h]
end
section
open Go Go.Proofs
def OnlyK (m:Str) (S:Tl):Prop:=∀ p ∈ S,p.1.1=m
theorem Qm0 {m:Str} {S:Tl} {k:Ky} {b:Bool} (h:OnlyK m S) (d:k.1=m):OnlyK m (tellF S k b).2:=by
 unfold tellF
 split
 ·exact h
 ·intro p hp
  rcases List.mem_append.1 hp with hp | hp
  ·exact h p hp
  ·have : p = (k, b) := by simpa using hp
   rw [this]; exact d
theorem Qub {m:Str} {b:Bool}:∀ {l:List CnV} {s:Bool×Tl},OnlyK m s.2→OnlyK m (csNm m b s l).2
 | [],s,h=>h
 | c::l,s,h=>by rw [csNm]; exact Qub (Qm0 h rfl)
theorem Qxw {m:Str} {t:TdP} {S:Tl} (h:OnlyK m S):OnlyK m (tyNm m t S).2:=Qub (Qm0 h rfl)
theorem Qtd {m:Str}:∀ {l:List TdP} {S R:Tl},OnlyK m S→namesTy m l S=.ok R→OnlyK m R
 | [],S,R,h,e=>by rw [namesTy] at e; injection e with e; subst e; exact h
 | t::l,S,R,h,e=>by
  rw [namesTy] at e
  split at e
  ·cases e
  ·split at e
   ·cases e
   ·exact Qtd (Qxw h) e
theorem Qtc {m:Str}:∀ {l:List RdP} {S R:Tl},OnlyK m S→namesRe m l S=.ok R→OnlyK m R
 | [],S,R,h,e=>by rw [namesRe] at e; injection e with e; subst e; exact h
 | t::l,S,R,h,e=>by
  rw [namesRe] at e
  split at e
  ·cases e
  ·split at e
   ·cases e
   ·exact Qtc (Qm0 h rfl) e
theorem Qtb {m:Str}:∀ {l:List NeP} {S R:Tl},OnlyK m S→namesNe m l S=.ok R→OnlyK m R
 | [],S,R,h,e=>by rw [namesNe] at e; injection e with e; subst e; exact h
 | t::l,S,R,h,e=>by
  rw [namesNe] at e
  split at e
  ·cases e
  ·exact Qtb (Qm0 h rfl) e
theorem QoU {m:MoP} {R:Tl} (e:namesF m []=.ok R):OnlyK m.n R:=by
 unfold namesF at e
 split at e
 ·cases e
 ·rename_i f b
  split at e
  ·cases e
  ·rename_i g d
   exact Qtb (Qtc (Qtd (fun p hp=>by cases hp) b) d) e
theorem Qsx {m:Str} {S:Tl} (h:OnlyK m S) {k:Ky} (b:k.1≠m):lkL k S=none:=Qq0 fun p hp e=>b (by rw [← e]; exact h p hp)
theorem Qn5:∀ {l:List MoP} {T0:Tl},(∀ m ∈ l,Lk0 T0 m.n)→(l.map MoP.n).Nodup→
 ((∀ m ∈ l,∃ R,namesF m []=.ok R)→∃ T,namesAll l T0=.ok T)∧
 ∀ T,namesAll l T0=.ok T→(∀ m ∈ l,∃ R,namesF m []=.ok R)∧∀ k x,lkL k T=some x↔lkL k T0=some x∨∃ m ∈ l,∃ R,namesF m []=.ok R∧lkL k R=some x
 | [],T0,_,_=>⟨fun _=>⟨T0,rfl⟩,fun T e=>by
  rw [namesAll] at e; injection e with e; subst e
  exact ⟨fun m hm=>(by cases hm),fun k x=>(by simp)⟩⟩
 | m::l,T0,h0,hn=>by
  rw [List.map_cons,List.nodup_cons] at hn
  have hm0:=h0 m (List.mem_cons_self ..)
  have step:∀ R,namesF m []=.ok R→∀ x ∈ l,Lk0 (T0++R) x.n:=fun R hR x hx k hk=>by
   rw [QoT,h0 x (List.mem_cons_of_mem _ hx) k hk]
   exact Qsx (QoU hR) (by rw [hk]; exact fun e=>hn.1 (List.mem_map.2 ⟨x,hx,e⟩))
  refine ⟨fun hall=>?_,fun T e=>?_⟩
  ·obtain ⟨R,hR⟩:=hall m (List.mem_cons_self ..)
   rw [namesAll,Qw9 hm0,hR]
   exact (Qn5 (step R hR) hn.2).1 fun x hx=>hall x (List.mem_cons_of_mem _ hx)
  ·rw [namesAll,Qw9 hm0] at e
   cases hR:namesF m [] with
   | error er=>rw [hR] at e; cases e
   | ok R=>
    rw [hR] at e
    obtain ⟨g1,g2⟩:=(Qn5 (step R hR) hn.2).2 T e
    refine ⟨fun x hx=>?_,fun k x=>?_⟩
    ·rcases List.mem_cons.1 hx with rfl | hx
     ·exact ⟨R,hR⟩
     ·exact g1 x hx
    ·rw [g2 k x,QoT]
     constructor
     ·rintro (h | ⟨x',hx',R',hR',h⟩)
      ·cases ht:lkL k T0 with
       | some v=>rw [ht] at h; exact .inl h
       | none=>rw [ht] at h; exact .inr ⟨m,List.mem_cons_self ..,R,hR,h⟩
      ·exact .inr ⟨x',List.mem_cons_of_mem _ hx',R',hR',h⟩
     ·rintro (h | ⟨x',hx',R',hR',h⟩)
      ·rw [h]; exact .inl rfl
      ·rcases List.mem_cons.1 hx' with rfl | hx'
       ·rw [hR] at hR'
        injection hR' with hR'
        subst hR'
        have hk:k.1=x'.n:=Classical.byContradiction fun hk=>by rw [Qsx (QoU hR) hk] at h; cases h
        rw [hm0 k hk]; exact .inl h
       ·exact .inr ⟨x',hx',R',hR',h⟩
inductive NR (l:List MoP) (a:Str):Str→Prop
 | refl:NR l a a
 | step {m:MoP} {x:ImP}:NR l a m.n→m ∈ l→x ∈ m.im→NR l a x.n
theorem QrI {l:List MoP} {s:Str} (h:findN l s < l.length):l[findN l s].n=s:=by
 induction l with
 | nil=>simp at h
 | cons m l b=>
  by_cases hm:m.n=s
  ·simp only [findN,if_pos hm,List.getElem_cons_zero]; exact hm
  ·simp only [findN,if_neg hm,Vd] at h ⊢
   simp only [List.getElem_cons_succ]
   exact b (by omega)
theorem Qn2 {l:List MoP} (hn:(l.map MoP.n).Nodup) {i:Nat} (h:i < l.length):findN l l[i].n=i:=by
 have j:=Qnk h
 have d:findN l l[i].n < l.length:=by omega
 have f:=QrI d
 refine Classical.byContradiction fun g=>?_
 have b:findN l l[i].n < i:=by omega
 have:=List.pairwise_iff_getElem.1 hn (findN l l[i].n) i (by rw [List.length_map]; exact d) (by rw [List.length_map]; exact h) b
 rw [List.getElem_map,List.getElem_map] at this
 exact this f
end
section
open Go Go.Proofs
theorem lpS {H:Heap} {s:Sl} {n:Nat} {T:Int→(Int→HP)→HP} {F:HP} (hl:s.len=n) (hn:n≤140737488355328) (I:Nat→HP) (h0:I 0 H)
 (hs:∀ (i:Nat) (D:Heap) (J:Int→HP),i < n→I i D→(∀ D2,I (i+1) D2→J (w .i64 ((i:Int)+1)) D2)→T i J D) (hend:∀ D,I n D→F D) :
 lp (α:=Int) 0 H (fun x J D=>ift (decide ((x:Int) < (Sl.len s:Int))) (T x J D) (F D)):=by
 refine ⟨fun y D=>∃ i:Nat,y=(i:Int)∧i≤n∧I i D,fun y _=>n - y.toNat,⟨0,rfl,Nat.zero_le _,h0⟩,?_⟩
 rintro _ D ⟨i,rfl,hi,hI⟩
 rw [hl]
 refine ift.of (fun h=>?_) (fun h=>?_)
 ·have hlt : i < n := by have := Vb h; omega
  refine hs i D _ hlt hI fun D2 hI2=>?_
  rw [Qu (by omega) (by omega)]
  exact ⟨⟨i+1,by omega,by omega,hI2⟩,by first | omega | (dsimp only; omega)⟩
 ·have hie : i = n := by have := Vc h; omega
  exact hend D (hie ▸ hI)
section
variable {C:Ctx} {H A:Heap}
theorem Qme {l:List MoP} {sl:Sl} {s:Str} {K:Int→HP} (g:MpL A sl l) (m:A.le H) (k:K (fIx l s) H):Qdd C sl s K H:=by
 apply Qqt
 unfold QmI
 refine lpS g.len g.bd (fun i D=>D=H∧∀ j (d:j < l.length),j < i→l[j].n≠s) ⟨rfl,fun j _ h=>by omega⟩ ?_ ?_
 ·rintro i _ J hi ⟨rfl,b⟩ o
  refine g.fS m (fun _=>rfl) (by omega) rfl hi (f:=Qa.Name) (fun _=>rfl) fun y hy=>?_
  rw [hy.1.1]
  refine ift.of (fun h=>?_) (fun h=>o _ ⟨rfl,fun j d q=>?_⟩)
  ·unfold fIx at k
   rw [QqV hi b (eq_of_beq h),if_pos hi] at k
   exact k
  ·by_cases h':j=i
   ·subst h'; intro e; rw [e] at h; simp at h
   ·exact b j d (by omega)
 ·rintro _ ⟨rfl,b⟩
  unfold fIx at k
  rw [QqW fun j d=>b j d d,if_neg (Nat.lt_irrefl _)] at k
  exact k
theorem QpQ {ps:List Str} {s:Sl} {x:Str} {K:Bool→HP} (g:StL A s ps) (m:A.le H) (k:K (ps.contains x) H):Qep C s x K H:=by
 apply Qsf
 unfold Qo7
 refine lpS g.len g.bd (fun i D=>D=H∧x ∉ ps.take i) ⟨rfl,by simp⟩ ?_ ?_
 ·rintro i _ J hi ⟨rfl,b⟩ o
  refine g.fS m (j:=0) (fun _=>rfl) (by omega) rfl hi (f:=fun y=>y) (fun _=>rfl) fun y hy=>?_
  rw [hy.1]
  refine ift.of (fun h=>?_) (fun h=>o _ ⟨rfl,?_⟩)
  ·have hx:=eq_of_beq h
   rw [show ps.contains x=true from List.contains_iff_mem.2 (hx ▸ Vg hi)] at k
   exact k
  ·rw [Vp,Vf hi,Vo,List.mem_append,List.mem_singleton]
   exact fun d=>d.elim b fun e=>by rw [e] at h; simp at h
 ·rintro _ ⟨rfl,b⟩
  rw [Vl] at b
  rw [show ps.contains x=false from by
   cases d:ps.contains x with
   | false=>rfl
   | true=>exact absurd (List.contains_iff_mem.1 d) b] at k
  exact k
theorem Qnx (ps:List Str):∀ l:List TyV,freeTys ps l=l.any (freeTy ps)
 | []=>rfl
 | v::l=>by rw [freeTys,Qnx ps l]; rfl
theorem Quw (ps:List Str) (v:TyV):freeTy ps v=if v.n.headD 0=39 then !ps.contains v.n else v.a.any (freeTy ps):=by
 obtain ⟨n,a⟩:=v
 rw [freeTy,Qnx]; rfl
inductive TyNe:TyV→Prop where
 | mk {v:TyV}:v.n≠[]→(∀ w ∈ v.a,TyNe w)→TyNe v
theorem Qvy {ps:List Str} {s:Sl} (F:StL A s ps):∀ (v:TyV) {x:Qf} {H:Heap} {K:Bool→HP},TyIs A v x→TyNe v→A.le H→(∀ D,H.le D→K (freeTy ps v) D)→Qhf C x s K H:=by
 refine TyV.rec_ fun v G x H K hx B t k=>?_
 obtain ⟨hn,z⟩:=B
 rw [Qb7] at hx
 obtain ⟨E,r⟩:=hx
 rw [Quw] at k
 apply Qqu
 unfold QmJ
 refine box1N fun b H2 _ _ m q=>fS (j:=0) q rfl ?_
 rw [E.1]
 refine ix0 hn (ift.of (fun h=>?_) (fun h=>?_))
 ·refine fS (j:=0) q rfl ?_
  rw [E.1]
  refine QpQ F (t.trans m) ?_
  have:=k H2 m
  rw [if_pos (by have:=eq_of_beq h; exact UInt8.toNat_inj.1 (by show _=39; omega))] at this
  exact this
 ·rw [if_neg (by rintro e; rw [e] at h; simp at h)] at k
  refine ⟨fun y D=>∃ i:Nat,y=(i:Int)∧i≤v.a.length∧H2.le D∧(v.a.take i).any (freeTy ps)=false,fun y _=>v.a.length - y.toNat,⟨0,rfl,Nat.zero_le _,Heap.le.refl _,rfl⟩,?_⟩
  rintro _ D ⟨i,rfl,hi,f,g⟩
  refine fL (j:=1) (f _ _ q) rfl ?_
  have I:=r.bd
  rw [r.len]
  refine ift.of (fun h=>?_) (fun h=>?_)
  ·have d : i < v.a.length := by have := Vb h; omega
   refine fL (j:=1) (f _ _ q) rfl (r.ld ((t.trans m).trans f) (fun _=>rfl) (by omega) rfl d fun y hy=>?_)
   refine G _ (Vg d) hy (z _ (Vg d)) ((t.trans m).trans f) fun D2 o=>ift.of (fun h=>?_) (fun h=>?_)
   ·have:=k D2 ((m.trans f).trans o)
    rw [List.any_eq_true.2 ⟨_,Vg d,h⟩] at this; exact this
   ·rw [Qu (by omega) (by omega)]
    refine ⟨⟨i+1,by omega,by omega,f.trans o,?_⟩,by first | omega | (dsimp only; omega)⟩
    rw [anyTake d,g,h]; rfl
  ·have u : i = v.a.length := by have := Vc h; omega
   rw [u,Vl] at g
   have:=k D (m.trans f)
   rw [g] at this; exact this
theorem QrD {ps:List Str} {s r:Sl} {f:List FdV} {K:Bool→HP} (x:StL A s ps) (m:FdL A r f) (o:∀ v ∈ f,TyNe v.t) (q:A.le H) (k:∀ D,H.le D→K (openF ps f) D):QcY C r s K H:=by
 apply QlM
 unfold Qg0
 refine lpS m.len m.bd (fun i D=>H.le D∧(f.take i).any (fun f=>freeTy ps f.t)=false) ⟨Heap.le.refl _,rfl⟩ ?_ ?_
 ·rintro i D J hi ⟨d,b⟩ u
  refine m.fT (q.trans d) (j:=1) (fun _=>rfl) (by omega) rfl hi (f:=Ql.Type_) (fun y n v h=>Qr4 n v h) fun y hy=>?_
  refine Qvy x _ hy.2 (o _ (Vg hi)) (q.trans d) fun D2 g=>ift.of (fun h=>?_) (fun h=>u _ ⟨d.trans g,?_⟩)
  ·have:=k D2 (d.trans g)
   unfold openF at this
   rw [List.any_eq_true.2 ⟨_,Vg hi,h⟩] at this; exact this
  ·rw [anyTake hi,b,h]; rfl
 ·rintro D ⟨d,b⟩
  rw [Vl] at b
  have:=k D d
  unfold openF at this
  rw [b] at this; exact this
end
end
section
open Go Go.Proofs
theorem lpB {H:Heap} {b j n:Nat} {cs:List Value} {s:Sl} {T:Sl→Int→(Int→HP)→HP} {F:HP} (hj:cs[j]? = some (slv s)) (hl:s.len=n) (hn:n≤140737488355328) (I:Nat→HP) (hb:∀ i D,I i D→∃ m,D b=some (m,.row cs)) (h0:I 0 H)
 (hs:∀ (i:Nat) (D:Heap) (J:Int→HP),i < n→I i D→(∀ D2,I (i+1) D2→J (w .i64 ((i:Int)+1)) D2)→T s i J D) (hend:∀ D,I n D→F D) :
 lp (α:=Int) 0 H (fun x J D=>ldL D ((b,0).1,(b,0).2+j) fun s=>ift (decide ((x:Int) < (Sl.len s:Int))) (T s x J D) (F D)):=by
 refine ⟨fun y D=>∃ i:Nat,y=(i:Int)∧i≤n∧I i D,fun y _=>n - y.toNat,⟨0,rfl,Nat.zero_le _,h0⟩,?_⟩
 rintro _ D ⟨i,rfl,hi,hI⟩
 obtain ⟨m,g⟩:=hb i D hI
 refine fL g hj ?_
 rw [hl]
 refine ift.of (fun h=>?_) (fun h=>?_)
 ·have hlt : i < n := by have := Vb h; omega
  refine hs i D _ hlt hI fun D2 hI2=>?_
  rw [Qu (by omega) (by omega)]
  exact ⟨⟨i+1,by omega,by omega,hI2⟩,by first | omega | (dsimp only; omega)⟩
 ·have hie : i = n := by have := Vc h; omega
  exact hend D (hie ▸ hI)
def tyHas (kd:Int) (n:Str) (o:Bool) (t:TdP):Bool:=!(o && !t.b) && ((kd == 1 && t.n == n) || t.cs.any fun c=>kd == 2 && c.n == n)
def reHas (kd:Int) (n:Str) (o:Bool) (x:RdP):Bool:=(kd == 3 && x.n == n) && (!o || x.b)
def hasF (m:MoP) (kd:Int) (n:Str) (o:Bool):Bool:=m.ty.any (tyHas kd n o) || m.re.any (reHas kd n o)
section
variable {C:Ctx} {H A:Heap}
theorem Quy {m:MoP} {x:Qa} {kd:Int} {n:Str} {o:Bool} {K:Bool→HP} (hm:MpIs A m x) (O:A.le H) (k:∀ D,H.le D→K (hasF m kd n o) D):QgU C x kd n o K H:=by
 obtain ⟨_,_,R,N,_,_⟩:=hm
 apply Qrg
 unfold QnE
 refine box1N fun b H2 _ _ u F=>?_
 refine lpB (j:=2) rfl R.len R.bd (fun i D=>H2.le D∧(m.ty.take i).any (tyHas kd n o)=false) (fun i D h=>⟨_,h.1 _ _ F⟩) ⟨Heap.le.refl _,rfl⟩ ?_ ?_
 ·rintro i D J hi ⟨g,q⟩ P
  have B:tyHas kd n o m.ty[i]=true→∀ E,D.le E→K true E:=fun h E W=>by
   have:=k E ((u.trans g).trans W)
   unfold hasF at this
   rw [anyYes hi h,Bool.true_or] at this; exact this
  refine ⟨fun _ E=>D.le E∧tyHas kd n o m.ty[i]=false,?_,fun _ E h=>P _ ⟨g.trans h.1,by rw [anyTake hi,q,h.2]; rfl⟩⟩
  refine fL (j:=2) (g _ _ F) rfl (R.ld ((O.trans u).trans g) (fun _=>rfl) (by omega) rfl hi fun y hy=>?_)
  obtain ⟨_,Y,S,_,T⟩:=hy
  have S:=S.1
  refine boxZ rfl fun b2 D2 _ l2 L=>?_
  refine jv (o && !m.ty[i].b) D2 (ift.of (fun h=>fB (j:=2) L rfl ⟨rfl,by rw [h,Y]; rfl⟩) (fun h=>⟨rfl,by rw [h]; rfl⟩)) ?_
  refine ift.of (fun h=>⟨l2,by unfold tyHas; rw [h]; rfl⟩) (fun t=>?_)
  refine jv (kd == 1 && m.ty[i].n == n) D2 (ift.of (fun h=>fS (j:=3) L rfl ⟨rfl,by rw [h,S]; rfl⟩) (fun h=>⟨rfl,by rw [h]; rfl⟩)) ?_
  refine ift.of (fun h=>B (by unfold tyHas; rw [t,h]; rfl) _ l2) (fun U=>?_)
  refine lpB (j:=5) rfl T.len T.bd (fun M E=>E=D2∧(m.ty[i].cs.take M).any (fun c=>kd == 2 && c.n == n)=false) (fun M E h=>⟨_,h.1 ▸ L⟩) ⟨rfl,rfl⟩ ?_ ?_
  ·rintro M _ Z r ⟨rfl,d⟩ Q
   refine jv (kd == 2 && m.ty[i].cs[M].n == n) _ (ift.of (fun h=>fL (j:=5) L rfl (T.fS (((O.trans u).trans g).trans l2) (fun _=>rfl) (by omega) rfl r (j:=0) (f:=Qj.Name) (fun _=>rfl) fun z I=>⟨rfl,by rw [h,I.1.1]; rfl⟩)) (fun h=>⟨rfl,by rw [h]; rfl⟩)) ?_
   refine ift.of (fun h=>B (by unfold tyHas; rw [t,U,anyYes r h]; rfl) _ l2) (fun h=>Q _ ⟨rfl,by rw [anyTake r,d,h]; rfl⟩)
  ·rintro _ ⟨rfl,d⟩
   rw [Vl] at d
   exact ⟨l2,by unfold tyHas; rw [t,U,d]; rfl⟩
 ·rintro D ⟨g,q⟩
  rw [Vl] at q
  refine lpB (j:=3) rfl N.len N.bd (fun i E=>E=D∧(m.re.take i).any (reHas kd n o)=false) (fun i E h=>⟨_,h.1 ▸ g _ _ F⟩) ⟨rfl,rfl⟩ ?_ ?_
  ·rintro i _ J hi ⟨rfl,d⟩ P
   have G:=(O.trans u).trans g
   refine jv (kd == 3 && m.re[i].n == n) _ (ift.of (fun h=>fL (j:=3) (g _ _ F) rfl (N.fS G (fun _=>rfl) (by omega) rfl hi (j:=4) (f:=Qh.Name) (fun _=>rfl) fun z I=>⟨rfl,by rw [h,I.2.2.2.1.1]; rfl⟩)) (fun h=>⟨rfl,by rw [h]; rfl⟩)) ?_
   refine jv (reHas kd n o m.re[i]) _ (ift.of (fun h=>?_) (fun h=>⟨rfl,by unfold reHas; rw [h]; rfl⟩)) ?_
   ·refine jv (!o || m.re[i].b) _ (ift.of (fun t=>⟨rfl,by rw [t]; rfl⟩) (fun t=>fL (j:=3) (g _ _ F) rfl (N.at_ G (fun _=>rfl) (by omega) rfl hi fun p z I X=>⟨z.Pub,X 2 _ rfl,rfl,by rw [t,I.2.1]; rfl⟩))) ⟨rfl,by unfold reHas; rw [h]; rfl⟩
   refine ift.of (fun h=>?_) (fun h=>P _ ⟨rfl,by rw [anyTake hi,d,h]; rfl⟩)
   have:=k _ (u.trans g)
   unfold hasF at this
   rw [anyYes hi h,Bool.or_true] at this; exact this
  ·rintro _ ⟨rfl,d⟩
   rw [Vl] at d
   have:=k _ (u.trans g)
   unfold hasF at this
   rw [q,d] at this; exact this
end
end
section
open Go Go.Proofs
def meanD (l:List MoP) (i:Nat) (m:MoP) (kd:Int) (s:Str):Str×Bool:=match cutD s with
 | none=>(dotS m.n s,hasF m kd s false)
 | some p => match l[findN l p.1]? with
  | none=>([],false)
  | some mj=>if findN l p.1=i then (s,hasF m kd p.2 false) else if impd m p.1=true then (s,hasF mj kd p.2 true) else ([],false)
theorem QxL {l:List MoP} {s:Str} {b:MoP} (h:l[findN l s]? = some b):fIx l s=(findN l s:Int):=by
 unfold fIx
 rw [if_pos (List.getElem?_eq_some_iff.1 h).1]
theorem QxM {l:List MoP} {s:Str} (h:l[findN l s]? = none):fIx l s = -1:=by
 unfold fIx
 rw [if_neg (by have:=List.getElem?_eq_none_iff.1 h; omega)]
section
variable {C:Ctx} {H A:Heap}
theorem Qvz {l:List MoP} {i:Nat} {m:MoP} {sl:Sl} {s t:Str} {kd:Int} {K:Str→Bool→HP} (F:MpL A sl l) (hi:i < l.length) (hm:l[i]=m) (b:A.le H) (T:Nm t s) (hn:m.n.length≤140737488355328) (k:∀ D,H.le D→K (meanD l i m kd s).1 (meanD l i m kd s).2 D):Qck C sl (i:Int) kd t K H:=by
 obtain ⟨rfl,X⟩:=T
 apply Qqw
 unfold QmL
 refine ⟨fun y D=>D=H∧∃ j:Nat,y=(j:Int)∧j≤t.length∧(46:UInt8) ∉ t.take j,fun y _=>t.length - y.toNat,⟨rfl,0,rfl,Nat.zero_le _,by simp⟩,?_⟩
 rintro _ D ⟨rfl,j,rfl,Y,q⟩
 refine ift.of (fun h=>?_) (fun h=>?_)
 ·have B : j < t.length := by have := Vb h; omega
  refine ⟨t[j],by omega,getE B,?_⟩
  dsimp only
  have Q:w .i64 ((j:Int)+1)=((j+1:Nat):Int):=by rw [Qu (by omega) (by omega)]; omega
  rw [Q]
  refine ift.of (fun h=>?_) (fun h=>?_)
  ·have M : ¬ t[j] = 46 := fun e => by rw [e] at h; simp at h
   refine ⟨⟨rfl,j+1,rfl,by omega,?_⟩,by first | omega | (dsimp only; omega)⟩
   rw [Vp,Vf B,Vo,List.mem_append,List.mem_singleton]
   exact fun h=>h.elim q fun e=>M e.symm
  ·have M : t[j] = 46 := UInt8.toNat_inj.1 (by show _ = 46; simp at h; omega)
   have I:cutD t=some (t.take j,t.drop (j+1)):=by
    have:t=t.take j++46::t.drop (j+1):=by rw [← M,← List.drop_eq_getElem_cons B,List.take_append_drop]
    conv=>lhs; rw [this]
    exact Qj3 _ _ q
   unfold meanD at k
   rw [I] at k
   dsimp only at k
   refine ⟨by omega,by omega,by omega,_,rfl,?_⟩
   rw [show (t.take ((j:Int)).toNat).drop (0:Int).toNat=t.take j by simp]
   refine Qme F b ?_
   cases hf:l[findN l (t.take j)]? with
   | none=>
    rw [hf] at k
    rw [QxM hf]
    exact QaK (by rfl) (k _ (Heap.le.refl _))
   | some Z=>
    rw [hf] at k
    dsimp only at k
    have P:=(List.getElem?_eq_some_iff.1 hf).1
    have O:=(List.getElem?_eq_some_iff.1 hf).2
    rw [QxL hf]
    refine Qaw (decide_eq_false (by omega)) ?_
    have G:(t.take ((t.length:Int)).toNat).drop (((j+1:Nat):Int)).toNat=t.drop (j+1):=by simp
    refine ift.of (fun h=>?_) (fun h=>?_)
    ·rw [if_pos (by have := eq_of_beq h; omega)] at k
     refine ⟨_,Heap.le.refl _,F.ld b (fun _=>rfl) (by omega) rfl hi fun y hy=>⟨by omega,by omega,by omega,_,rfl,?_⟩⟩
     rw [G]
     rw [hm] at hy
     exact Quy hy b fun D r=>⟨r,k D r⟩
    ·rw [if_neg (by rintro e; rw [e] at h; simp at h)] at k
     refine ⟨fun y E=>E=D∧∃ n:Nat,y=(n:Int)∧n≤m.im.length∧(m.im.take n).any (fun x=>decide (x.n=t.take j))=false,fun y _=>m.im.length - y.toNat,⟨rfl,0,rfl,Nat.zero_le _,rfl⟩,?_⟩
     rintro _ E ⟨rfl,n,rfl,S,g⟩
     refine F.fL b (fun _=>rfl) (by omega) rfl hi (j:=1) (f:=Qa.Imports) (fun _=>rfl) fun y hy=>?_
     rw [hm] at hy
     have J:=hy.2.1.1
     rw [J.len]
     have R:=J.bd
     refine ift.of (fun h=>?_) (fun h=>?_)
     ·have d : n < m.im.length := by have := Vb h; omega
      refine F.fL b (fun _=>rfl) (by omega) rfl hi (j:=1) (f:=Qa.Imports) (fun _=>rfl) fun W o=>?_
      rw [hm] at o
      refine o.2.1.1.fS b (fun _=>rfl) (by omega) rfl d (j:=2) (f:=Qq.Name) (fun _=>rfl) fun z U=>?_
      rw [U.2.1]
      refine ⟨by omega,by omega,by omega,_,rfl,?_⟩
      rw [show (t.take ((j:Int)).toNat).drop (0:Int).toNat=t.take j by simp]
      refine ift.of (fun h=>?_) (fun h=>?_)
      ·have N:impd m (t.take j)=true:=anyYes d (decide_eq_true (eq_of_beq h))
       rw [if_pos N] at k
       refine ⟨_,Heap.le.refl _,F.ld b (fun _=>rfl) (by omega) rfl P fun y3 L=>⟨by omega,by omega,by omega,_,rfl,?_⟩⟩
       rw [G]
       rw [O] at L
       exact Quy L b fun D r=>⟨r,k D r⟩
      ·rw [Qu (by omega) (by omega)]
       refine ⟨⟨rfl,n+1,by omega,by omega,?_⟩,by first | omega | (dsimp only; omega)⟩
       rw [anyTake d,g,decide_eq_false (by rintro e; rw [e] at h; simp at h)]; rfl
     ·have u : n = m.im.length := by have := Vc h; omega
      rw [u,Vl] at g
      rw [if_neg (by unfold impd; rw [g]; exact Bool.false_ne_true)] at k
      exact k _ (Heap.le.refl _)
 ·have u : j = t.length := by have := Vc h; omega
  rw [u,Vl] at q
  unfold meanD at k
  rw [Qj4 _ q] at k
  dsimp only at k
  refine ⟨_,Heap.le.refl _,F.fS b (fun _=>rfl) (by omega) rfl hi (j:=0) (f:=Qa.Name) (fun _=>rfl) fun y hy=>?_⟩
  rw [hm] at hy
  rw [hy.1.1]
  refine ⟨by show m.n.length+([46]:Str).length < 9223372036854775807; simp only [Vd,Vk]; omega,by show (m.n++[46]).length+t.length < 9223372036854775807; simp only [Va,Vd,Vk]; omega,F.ld b (fun _=>rfl) (by omega) rfl hi fun W o=>?_⟩
  rw [hm] at o
  exact Quy o b fun D r=>⟨r,k D r⟩
end
end
section
open Go Go.Proofs
def Ag (l:List MoP) (i:Nat) (m:MoP) (T:Tl):Prop:=∀ (kd:Int) (s:Str),0≤kd→kd≤2→match meanF T m s kd with
 | some r=>meanD l i m (kd+1) s=(r,true)
 | none=>(meanD l i m (kd+1) s).2=false
section
variable {C:Ctx} {H A:Heap}
theorem dmeanT {l:List MoP} {i:Nat} {m:MoP} {T:Tl} {sl:Sl} {s t:Str} {kd b:Int} {K:Str→Bool→HP} (o:MpL A sl l) (hi:i < l.length) (hm:l[i]=m) (hg:Ag l i m T) (j:b=kd+1) (d:0≤kd) (f:kd≤2) (h:A.le H) (q:Nm t s) (hn:m.n.length≤1000)
 (k:∀ r D,H.le D→meanF T m s kd=some r→K r true D) (ke:∀ r D,H.le D→meanF T m s kd=none→K r false D):Qck C sl (i:Int) b t K H:=by
 subst j
 refine Qvz o hi hm h q (by omega) fun D g=>?_
 have:=hg kd s d f
 cases hf:meanF T m s kd with
 | none=>
  rw [hf] at this
  dsimp only at this
  rw [this]; exact ke _ D g hf
 | some r=>
  rw [hf] at this
  dsimp only at this
  rw [this]; exact k _ D g hf
theorem Quj {l:List MoP} {i:Nat} {m:MoP} {T:Tl} {sl:Sl} (hs:MpL A sl l) (hi:i < l.length) (hm:l[i]=m) (hg:Ag l i m T) (hn:m.n.length≤1000) :
 ∀ (v:TyV),tyOk v=true→∀ {t:Qf} {H:Heap} {K:Qf→Bool→HP},A.le H→TyIs A v t→
  (∀ r D v',H.le D→tyF T m v=some v'→TyIs (Heap.nw A H D) v' r→K r true D)→(∀ r D,H.le D→tyF T m v=none→K r false D)→QgJ C sl (i:Int) t K H:=by
 refine TyV.rec_ fun v ih W t H K hA ht k ke=>?_
 obtain ⟨hN,W⟩:=(Qn8 v).1 W
 obtain ⟨g1,d6,f9⟩:=Qn7 hN
 obtain ⟨z,b8⟩:=Qb7.1 ht
 apply Qpu
 unfold Qly
 refine box1N fun b1 H2 n1 _ l1 I=>box1N fun b3 H4 n3 _ l3 h3=>?_
 have I:=l3 _ _ I
 refine fS (j:=0) I rfl ?_
 refine boxZ rfl fun o H9 Z l7 h7=>?_
 have I:=l7 _ _ I
 have h3:=l7 _ _ h3
 have L:H.le H9:=l1.trans (l3.trans l7)
 have P:=hA.trans L
 have a0:H b3=none:=l1.none n3
 have c0:H o=none:=l1.none (l3.none Z)
 have e7:A b3=none:=hA.none a0
 have e8:A o=none:=hA.none c0
 have U:H.le (H9.del o):=Xo L c0
 have c2:b3≠o:=fun e=>by
  rw [← e] at Z
  rw [‹H4 b3=some _›] at Z; cases Z
 have c1:b1≠o:=fun e=>by
  rw [← e] at Z
  rw [‹H4 b1=some _›] at Z; cases Z
 have d1:(H9.del o) b1=some (true,.row (Qf.c t)):=by rw [Xd _ c1]; exact I
 have d3:(H9.del o) b3=some (true,.row (Qf.c Qf.zero)):=by rw [Xd _ c2]; exact h3
 have a3:∀ (d:Str) (s:Sl) (D:Heap),(H9.del o).le D→D o=some (true,.row [sv d,slv s])→tyF T m v=none→
  ldT D Qf.c (o,0) fun e9=>stT (b3,0) (Qf.c e9) (fun a2=>ldT a2 Qf.c (b3,0) fun f0=>K f0 false a2) D:=fun d s D E G h=>by
  refine bxT (c:=Qf.c) (x:=(⟨d,s⟩:Qf)) G ⟨_,E _ _ d3,by simp [Qf.c,Qf.zero],?_⟩
  have e1:splice (Qf.c Qf.zero) (b3,0).2 (Qf.c (⟨d,s⟩:Qf))=Qf.c (⟨d,s⟩:Qf):=rfl
  rw [e1]
  refine bxT (c:=Qf.c) (x:=(⟨d,s⟩:Qf)) (Xa ..) (ke _ _ (fun b e f=>?_) h)
  have:b≠(b3,0).1:=fun e'=>by rw [e'] at f; rw [a0] at f; cases f
  rw [Xb _ _ _ this]; exact (U.trans E) b e f
 refine ⟨fun _ D=>∃ d,tnF T m v.n=some d∧(H9.del o).le D∧D o=some (true,.row [sv d,slv Sl.nil]),?_,?_⟩
 ·refine fS (j:=0) I rfl ?_
  rw [z.1]
  have e:∀ w:Str,(v.n == w)=decide (v.n=w):=fun w=>by rw [Vn]; simp
  refine jo' (v.n == intS) H9 (fun _=>fS (j:=0) I rfl ⟨rfl,by rw [z.1]; rfl⟩) ?_
  refine jo' (v.n == bigS) H9 (fun _=>fS (j:=0) I rfl ⟨rfl,by rw [z.1]; rfl⟩) ?_
  refine jo' (v.n == textS) H9 (fun _=>fS (j:=0) I rfl ⟨rfl,by rw [z.1]; rfl⟩) ?_
  refine jo' (v.n == tupS) H9 (fun _=>fS (j:=0) I rfl ⟨rfl,by rw [z.1]; rfl⟩) ?_
  refine jo' (decide (v.n.headD 0=39)) H9 (fun _=>fS (j:=0) I rfl ?_) ?_
  ·rw [z.1]
   refine ix0 d6 ⟨rfl,?_⟩
   rw [Vn,Vj]
   refine ⟨fun h=>?_,fun h=>by rw [h]; rfl⟩
   have:=eq_of_beq h
   exact UInt8.toNat_inj.1 (by show _=39; omega)
  refine ift.of (fun h=>?_) (fun h=>?_)
  ·refine ⟨v.n, ?_, Xf _ _, by rw [h7, ← z.1]; rfl⟩
   unfold tnF primS
   simp only [e] at h
   exact if_pos h
  ·refine fS (j:=0) I rfl ?_
   have b4:(primS v.n || decide (v.n.headD 0=39))=false:=by
    unfold primS
    simp only [e] at h
    exact h
   refine dmeanT (kd:=0) hs hi hm hg rfl (by omega) (by omega) P (s:=v.n) ⟨z.1,by omega⟩ hn (fun r D E hr=>Qaw rfl ?_) (fun r D E hr=>QaK rfl ?_)
   ·refine ⟨_, E _ _ h7, by simp [Qf.c], r, ?_, Xk ((Xf _ _).trans E), Xa ..⟩
    unfold tnF; rw [b4]; exact hr
   ·refine a3 _ _ D ((Xf _ _).trans E) (E _ _ h7) ?_
    rw [Qnr]
    have:tnF T m v.n=none:=by unfold tnF; rw [b4]; exact hr
    rw [this]
 ·rintro _ D0 ⟨d,u,Q,b0⟩
  have c9:A.le D0:=(hA.trans U).trans Q
  have a4:∀ b,D0 b=none→H9 b=none:=fun b G=>by
   by_cases e:b=o
   ·rw [e,b0] at G; cases G
   ·have:=Q.none G; rwa [Xd _ e] at this
  have hR:∀ {X Y:Heap} {v:TyV} {x:Qf},X.le Y→TyIs X v x→TyIs Y v x:=fun h h'=>TyIs.le h _ _ h'
  have b2:=SlIs.len b8
  refine ⟨fun y D=>(H9.del o).le D∧∃ (i:Nat) (l':List TyV) (s:Sl),y=(i:Int)∧i≤v.a.length∧mpO (tyF T m) (v.a.take i)=some l'∧Gr TyIs Qf.c 2 A H9 D s l'∧D o=some (true,.row [sv d,slv s]),fun y _=>v.a.length - y.toNat,?_,?_⟩
  ·exact ⟨Q,0,[],Sl.nil,rfl,Nat.zero_le _,rfl,Gr.nil a4 c9,b0⟩
  ·rintro _ D ⟨E,i',l',s,rfl,d4,M,O,G⟩
   refine fL (j:=1) (E _ _ d1) rfl ?_
   rw [b2]
   have a8:=O.al
   have hlen':=QfP M
   rw [List.length_take,Nat.min_eq_left d4] at hlen'
   refine ift.of (fun h=>?_) (fun h=>?_)
   ·have J : i' < v.a.length := by have := Vb h; omega
    refine fL (j:=1) (E _ _ d1) rfl (b8.ld a8 (fun _=>rfl) (by omega) rfl J fun y hy=>?_)
    refine ih _ (Vg J) (W _ (Vg J)) a8 hy (fun r D3 w R hw hr=>?_) (fun r D3 R hw=>?_)
    ·refine boxZ rfl fun c7 D4 e6 N a6 => Qaw rfl ?_
     have F:=R.trans N
     refine fL (j:=1) (F _ _ G) rfl (bxT (c:=Qf.c) a6 ?_)
     rw [List.append_nil]
     have d0:=O.up F hR
     have d9:TyIs (Heap.off s (Heap.nw A H9 D4)) w r:=hR ((QtJ N).trans (Qmi P O.dom O.fresh O.has)) hr
     have d7:∀ {b:Nat} {e:Bool×GO},(H9.del o) b=some e→(Heap.off s D4) b=some e:=fun {b e} G=>Xe (F _ _ (E b e G)) fun q hq e'=>by
      have:=O.fresh q hq
      rw [e'] at this
      have h':=Xf _ _ _ _ G
      rw [this] at h'; cases h'
     have b6:∀ q,s.p=some q→q.1≠o:=fun q hq e=>by
      have:=O.fresh q hq
      rw [e,h7] at this; cases this
     refine d0.addD P (fun _=>rfl) (by omega) hR rfl d9 (by omega) (by omega) fun r2 D5 S h5 g0=>?_
     have d2:D5 o=some (true,.row [sv d,slv s]):=h5 _ _ (Xe (F _ _ G) b6)
     refine ⟨_,d2,by simp,?_⟩
     rw [Qu (by omega) (by omega)]
     exact ⟨⟨Xk fun b e G=>h5 b e (d7 G),i' + 1,l'++[w],r2,by omega,by omega,QkS J M hw,S.put h7 e8,Xa ..⟩,by first | omega | (dsimp only; omega)⟩
    ·refine boxZ rfl fun c7 D4 e6 N a6 => QaK rfl ?_
     have F:=R.trans N
     refine a3 _ _ D4 (E.trans F) (F _ _ G) ?_
     rw [Qnr,u]
     dsimp only
     rw [Qi3 (Vg J) hw]
   ·have d5 : i' = v.a.length := by have := Vc h; omega
    subst d5
    rw [Vl] at M
    refine bxT (c:=Qf.c) (x:=(⟨d,s⟩:Qf)) G ⟨_,E _ _ d3,by simp [Qf.c,Qf.zero],?_⟩
    have e1:splice (Qf.c Qf.zero) (b3,0).2 (Qf.c (⟨d,s⟩:Qf))=Qf.c (⟨d,s⟩:Qf):=rfl
    rw [e1]
    refine bxT (c:=Qf.c) (x:=(⟨d,s⟩:Qf)) (Xa ..) ?_
    have S:=O.put (g:=.row (Qf.c (⟨d,s⟩:Qf))) h3 e7
    refine k _ _ (.mk d l') ?_ ?_ (Qb7.2 ⟨⟨rfl,?_⟩,?_⟩)
    ·intro b e f
     have:b≠(b3,0).1:=fun e'=>by rw [e'] at f; rw [a0] at f; cases f
     rw [Xb _ _ _ this]; exact (U.trans E) b e f
    ·rw [Qnr,u,M]
    ·have hm : d = v.n ∨ meanF T m v.n 0 = some d := by
      unfold tnF at u
      split at u
      ·injection u with u; exact .inl u.symm
      ·exact .inr u
     rcases hm with e | e
     ·show d.length≤_; rw [e]; omega
     ·have := Qf0 (B := 1000) (by omega) hn e
      show d.length≤_; omega
    ·have := S.is (fun _ => rfl) (by omega) hR (by omega)
     exact this.le (QuO hA L) fun _ _ _ h=>hR (QuO hA L) h
end
end
section
open Go Go.Proofs
section
variable {C:Ctx} {H A:Heap}
theorem QsW {l:List MoP} {i:Nat} {m:MoP} {T:Tl} {sl:Sl} (hs:MpL A sl l) (hi:i < l.length) (hm:l[i]=m) (hg:Ag l i m T) (hn:m.n.length≤1000)
 {f:List FdV} {s:Sl} {K:Sl→Bool→HP} (a1:∀ v ∈ f,tyOk v.t=true) (b2:f.length≤1000) (G:A.le H) (W:FdL A s f)
 (k:∀ r D l',H.le D→mpO (fdF T m) f=some l'→Gr FdIs Ql.c 3 A H D r l'→K r true D) (ke:∀ D,H.le D→mpO (fdF T m) f=none→K Sl.nil false D):QbY C sl (i:Int) s K H:=by
 apply Qoh
 unfold Qkx
 have J:=SlIs.len W
 have U:∀ {X Y:Heap} {v:FdV} {x:Ql},X.le Y→FdIs X v x→FdIs Y v x:=fun h h'=>FdIs.le h h'
 refine ⟨fun y D=>H.le D∧∃ (j:Nat) (l':List FdV),y.2=(j:Int)∧j≤f.length∧mpO (fdF T m) (f.take j)=some l'∧Gr FdIs Ql.c 3 A H D y.1 l',fun y _=>f.length - y.2.toNat,⟨Heap.le.refl _,0,[],rfl,Nat.zero_le _,rfl,Gr.nil (fun _ h=>h) G⟩,?_⟩
 rintro ⟨o,_⟩ D ⟨P,j,l',rfl,a0,u,B⟩
 rw [J]
 have hlen':=QfP u
 rw [List.length_take,Nat.min_eq_left a0] at hlen'
 refine ift.of (fun h=>?_) (fun h=>?_)
 ·have d : j < f.length := by have := Vb h; first | omega | (dsimp only at this; omega)
  refine W.fT (G.trans P) (j:=1) (fun _=>rfl) (by omega) rfl d (f:=Ql.Type_) (fun y n v h=>Qr4 n v h) fun y hy=>?_
  refine Quj hs hi hm hg hn _ (a1 _ (Vg d)) B.al hy.2 (fun r D3 w g hw hr=>?_) (fun r D3 g hw=>?_)
  ·refine boxZ rfl fun b15 O N z F => Qaw rfl ?_
   have I:=g.trans z
   have R:=B.up I U
   have a4:fdF T m f[j]=some ⟨f[j].n,w⟩:=by unfold fdF; rw [hw]
   have M:∀ q,o.p=some q→q.1≠b15:=fun q hq e=>by
    obtain ⟨e2,h2⟩:=(B.up g U).has q hq
    rw [e,N] at h2; cases h2
   have L:∀ {b:Nat} {e:Bool×GO},H b=some e→(Heap.off o O) b=some e:=fun {b e} E=>Xe (I _ _ (P b e E)) fun q hq e'=>by
    have:=B.fresh q hq
    rw [e',E] at this; cases this
   refine ⟨Heap.off o O,Xj _ _,?_⟩
   have Q:A.le (Heap.off o O):=fun b e E=>L (G b e E)
   refine W.fS Q (j:=0) (fun _=>rfl) (by omega) rfl d (f:=Ql.Name) (fun _=>rfl) fun y2 a5=>bxT (c:=Qf.c) (Xe F M) ?_
   refine R.lit G (x:=(⟨y2.Name,r⟩:Ql)) (v:=⟨f[j].n,w⟩) (fun _=>rfl) (by omega) U rfl (Qwj _) ⟨a5.1,TyIs.le ((QtJ z).trans (Qmi G B.dom B.fresh B.has)) _ _ hr⟩ (by omega) (by omega) (Heap.le.refl _) fun r2 D5 S h5 b1=>?_
   rw [Qu (by omega) (by omega)]
   exact ⟨⟨fun b e E=>h5 b e (L E),j+1,l'++[⟨f[j].n,w⟩],by first | omega | (dsimp only; omega),by omega,QkS d u a4,S⟩,by first | omega | (dsimp only; omega)⟩
  ·refine boxZ rfl fun b15 O N z F => QaK rfl (ke _ ((P.trans g).trans z) (Qi3 (Vg d) ?_))
   unfold fdF; rw [hw]
 ·have Z : j = f.length := by have := Vc h; first | omega | (dsimp only at this; omega)
  subst Z
  rw [Vl] at u
  exact k _ _ _ P u B
end
end
section
open Go Go.Proofs
theorem stAll {β:Type} {c:β→List Value} {b:Nat} {cs:List Value} {x:β} {D:Heap} {K:HP} (h:D b=some (true,.row cs)) (d:cs.length=(c x).length) (k:K (D.put b (.row (c x)))):stT (b,0) (c x) K D:=by
 refine ⟨cs,h,by rw [d]; simp,?_⟩
 have e:splice cs (b,0).2 (c x)=c x:=by
  unfold splice
  rw [List.take_zero,List.nil_append,List.drop_of_length_le (by rw [d]; simp),List.append_nil]
 rw [e]; exact k
def fltD (m:Str) (p:Pl) (e:Int):Qb:=⟨(⟨m,psP p⟩:Qc),e⟩
def goodD:Qb:=⟨Qc.zero,0⟩
theorem Qmf {C:Ctx} {H:Heap} {K:Qb→HP} (k:∀ D,H.le D→K goodD D):Qde C K H:=by
 apply Qqv
 unfold QmK
 exact boxZ rfl fun b D _ l g=>bxT (c:=Qb.c) g (k D l)
def EC1 (C:Ctx) (A:Heap) (T:Tl) (l:List MoP) (i:Nat) (m:MoP) (sl:Sl) (v:ExP):Prop:=
 ∀ {x:Qe} {H:Heap} {K:Qe→Qb→HP},A.le H→EpIs A v x→
  (∀ r D v',H.le D→exF T m v=.ok v'→EpIs (Heap.nw A H D) v' r→K r goodD D)→(∀ r D p,H.le D→exF T m v=.error p→K r (fltD m.n p 63) D)→QjT C sl (i:Int) x K H
def ECL (C:Ctx) (A:Heap) (T:Tl) (l:List MoP) (i:Nat) (m:MoP) (sl:Sl) (a:List ExP):Prop:=
 ∀ {s:Sl} {H:Heap} {K:Sl→Qb→HP},A.le H→EpL A s a→
  (∀ r D l',H.le D→mpE (exF T m) a=.ok l'→Gr EpIs Qe.c 9 A H D r l'→K r goodD D)→(∀ r D p,H.le D→mpE (exF T m) a=.error p→K r (fltD m.n p 63) D)→Qe0 C sl (i:Int) s K H
section
variable {C:Ctx} {A:Heap}
theorem QpO {T:Tl} {l:List MoP} {i:Nat} {m:MoP} {sl:Sl} {a:List ExP} (c2:a.length≤1000) (ih:∀ v ∈ a,EC1 C A T l i m sl v):ECL C A T l i m sl a:=by
 intro s H K hA hs k ke
 apply Qps
 unfold Qlw
 refine box1N fun P H2 n1 _ Z h1=>?_
 have N:=hA.trans Z
 have b2:A P=none:=hA.none n1
 have U:=SlIs.len hs
 have S:∀ {X Y:Heap} {v:ExP} {x:Qe},X.le Y→EpIs X v x→EpIs Y v x:=fun h h'=>EpIs.le h _ _ h'
 refine ⟨fun y D=>H2.le D∧∃ (j:Nat) (l':List ExP),y.2=(j:Int)∧j≤a.length∧mpE (exF T m) (a.take j)=.ok l'∧Gr EpIs Qe.c 9 A H2 D y.1 l',fun y _=>a.length - y.2.toNat,⟨Heap.le.refl _,0,[],rfl,Nat.zero_le _,rfl,Gr.nil (fun _ h=>h) N⟩,?_⟩
 rintro ⟨o,_⟩ D ⟨W,j,l',rfl,a8,E,L⟩
 rw [U]
 have hlen':=Qap E
 rw [List.length_take,Nat.min_eq_left a8] at hlen'
 have out:∀ {f:Qb} {D2:Heap} {s2:Sl},H2.le D2→(∀ D3,H.le D3→(∀ b,b≠P→D3 b=D2 b)→K s2 f D3)→stT (P,0) (Qb.c f) (fun Q=>ldT Q Qb.c (P,0) fun b3=>K s2 b3 Q) D2:=fun {f D2 s2} u k=>by
  refine stAll (u _ _ h1) rfl (bxT (c:=Qb.c) (Xa ..) (k _ (fun b e z=>?_) fun b z=>Xb _ _ _ z))
  have:b≠P:=fun R=>by rw [R,n1] at z; cases z
  rw [Xb _ _ _ this]; exact (Z.trans u) b e z
 refine ift.of (fun h=>?_) (fun h=>?_)
 ·have J : j < a.length := by have := Vb h; first | omega | (dsimp only at this; omega)
  refine hs.ld L.al (fun _=>rfl) (by omega) rfl J fun y hy=>?_
  refine ih _ (Vg J) L.al hy (fun r D3 w I hw hr=>?_) (fun r D3 q I hw=>?_)
  ·refine box1N fun g D4 O a0 F B => box1N fun d D5 t a1 G M => ?_
   have ne:g≠d:=fun e=>by rw [← e,B] at t; cases t
   refine stAll (G _ _ B) rfl ?_
   have g19':(D5.put g (.row (Qe.c r))) d=some (true,.row (Qb.c Qb.zero)):=by rw [Xb _ _ _ ne.symm]; exact M
   refine stAll g19' rfl ?_
   have hle:D3.le ((D5.put g (.row (Qe.c r))).put d (.row (Qb.c goodD))):=QP (QP (F.trans G) O) (by
    cases h:D3 d with
    | none=>rfl
    | some e=>have:=F _ _ h; rw [t] at this; cases this)
   have gx:((D5.put g (.row (Qe.c r))).put d (.row (Qb.c goodD))) g=some (true,.row (Qe.c r)):=by rw [Xb _ _ _ ne]; exact Xa ..
   refine fI (j:=3) (Xa ..) rfl (Qaw rfl (bxT (c:=Qe.c) gx ?_))
   generalize ((D5.put g (.row (Qe.c r))).put d (.row (Qb.c goodD)))=D6 at hle gx ⊢
   rw [List.append_nil]
   have a5:=L.up (I.trans hle) S
   refine a5.addD N (fun _=>rfl) (by omega) S rfl (S ((QtJ hle).trans (Qmi N L.dom L.fresh L.has)) hr) (by omega) (by omega) fun r2 D7 a6 h7 c1=>?_
   rw [Qu (by omega) (by omega)]
   exact ⟨⟨fun b e z=>h7 b e (Xe (hle _ _ (I _ _ (W b e z))) fun q hq R=>by have:=L.fresh q hq; rw [R,z] at this; cases this),j+1,_,by first | omega | (dsimp only; omega),by omega,Qeh J E hw,a6⟩,by first | omega | (dsimp only; omega)⟩
  ·refine box1N fun g D4 O a0 F B => box1N fun d D5 t a1 G M => ?_
   have ne:g≠d:=fun e=>by rw [← e,B] at t; cases t
   refine stAll (G _ _ B) rfl ?_
   have g19':(D5.put g (.row (Qe.c r))) d=some (true,.row (Qb.c Qb.zero)):=by rw [Xb _ _ _ ne.symm]; exact M
   refine stAll g19' rfl ?_
   have hle:D3.le ((D5.put g (.row (Qe.c r))).put d (.row (Qb.c (fltD m.n q 63)))):=QP (QP (F.trans G) O) (by
    cases h:D3 d with
    | none=>rfl
    | some e=>have:=F _ _ h; rw [t] at this; cases this)
   refine fI (j:=3) (Xa ..) rfl (QaK rfl ⟨_,Heap.le.refl _,bxT (c:=Qb.c) (Xa ..) (out ((W.trans I).trans hle) fun D6 h6 _=>ke _ D6 q h6 (Qgi J E hw))⟩)
 ·have a7 : j = a.length := by have := Vc h; first | omega | (dsimp only at this; omega)
  subst a7
  rw [Vl] at E
  refine Qmf fun D2 u=>?_
  have a4:=L.up u S
  refine stAll ((W.trans u) _ _ h1) rfl (bxT (c:=Qb.c) (Xa ..) (k _ _ _ (fun b e z=>?_) E ((a4.put h1 b2).base hA Z S)))
  have:b≠P:=fun R=>by rw [R,n1] at z; cases z
  rw [Xb _ _ _ this]; exact ((Z.trans W).trans u) b e z
end
end
section
open Go Go.Proofs
def wo2 (b3 b5:Nat) (D:Heap):Heap:=fun b=>if b=b3∨b=b5 then none else D b
section
variable {b3 b5:Nat} {D E X:Heap}
theorem QcJ:(wo2 b3 b5 D).le D:=fun b e h=>by
 unfold wo2 at h
 split at h
 ·cases h
 ·exact h
theorem Qcg {b:Nat} (d:b≠b3) (f:b≠b5):wo2 b3 b5 D b=D b:=if_neg fun h=>h.elim d f
theorem Qtq (h:X.le D) (g:X b3=none) (i:X b5=none):X.le (wo2 b3 b5 D):=fun b e d=>by
 rw [Qcg (fun f=>by rw [f,g] at d; cases d) fun f=>by rw [f,i] at d; cases d]; exact h b e d
theorem fin2 {α β:Type} {c3:α→List Value} {c5:β→List Value} {v3:α} {v5:β} {K:α→β→HP} {cs3 cs5:List Value} (g3:D b3=some (true,.row cs3)) (l3:cs3.length=(c3 v3).length) (g5:D b5=some (true,.row cs5)) (l5:cs5.length=(c5 v5).length) (ne:b3≠b5)
 (hX:X.le D) (x3:X b3=none) (k:∀ E,(∀ b,b≠b3→b≠b5→E b=D b)→K v3 v5 E) :
 stT (b3,0) (c3 v3) (fun H1=>Heap.le X H1∧stT (b5,0) (c5 v5) (fun H2=>ldT H2 c3 (b3,0) fun x=>ldT H2 c5 (b5,0) fun y=>K x y H2) H1) D:=by
 refine stAll g3 l3 ⟨QP hX x3,stAll (by rw [Xb _ _ _ ne.symm]; exact g5) l5 (bxT (c:=c3) (by rw [Xb _ _ _ ne]; exact Xa ..) (bxT (c:=c5) (Xa ..) (k _ fun b q3 q5=>?_)))⟩
 rw [Xb _ _ _ q5,Xb _ _ _ q3]
end
section
variable {C:Ctx} {A:Heap}
theorem Qvx {T:Tl} {l:List MoP} {i:Nat} {m:MoP} {sl:Sl} (hs:MpL A sl l) (hi:i < l.length) (hm:l[i]=m) (hg:Ag l i m T) (hn:m.n.length≤1000):∀ v:ExP,(∃ p,exOk p v.e=true)→EC1 C A T l i m sl v:=by
 refine ExP.rec_ fun v ih f2 x H K hA hx k ke=>?_
 obtain ⟨p0,b4⟩:=f2
 obtain ⟨o1,o2,o3⟩:=Qun b4
 have f3:ECL C A T l i m sl v.a:=QpO (C:=C) (A:=A) (T:=T) (l:=l) (i:=i) (m:=m) (sl:=sl) (a:=v.a) (by omega) fun w hw=>ih w hw ⟨p0,o3 w hw⟩
 obtain ⟨e1,e2,e3,e4,e5,e6⟩:=QfQ.1 hx
 apply Qqs
 unfold QmH
 refine box1N fun b1 H2 n1 _ l1 h1=>box1N fun b3 H4 n3 _ l3 h3=>box1N fun b5 H6 n5 _ l5 h5=>bxT (c:=Qe.c) (l5 _ _ (l3 _ _ h1)) ?_
 refine boxZ rfl fun d H11 W l9 h9=>?_
 have h5:=l9 _ _ h5
 have h3':=l5 _ _ h3
 have h3:=l9 _ _ h3'
 have h1':=l3 _ _ h1
 have h1'':=l5 _ _ h1'
 have d9:=l9 _ _ h1''
 have q3:H b3=none:=l1.none n3
 have q5:H b5=none:=l1.none (l3.none n5)
 have q9:H d=none:=l1.none (l3.none (l5.none W))
 have d1:b1≠b3:=fun e=>by rw [← e,h1] at n3; cases n3
 have d2:b1≠b5:=fun e=>by rw [← e,h1'] at n5; cases n5
 have a2:b1≠d:=fun e=>by rw [← e,h1''] at W; cases W
 have a3:b3≠b5:=fun e=>by rw [← e,‹H4 b3=some _›] at n5; cases n5
 have M:b3≠d:=fun e=>by rw [← e,h3'] at W; cases W
 have N:b5≠d:=fun e=>by rw [← e,‹H6 b5=some _›] at W; cases W
 have a7:H.le H11:=l1.trans (l3.trans (l5.trans l9))
 -- written over: the list
 refine ⟨_,h9,by simp [Qe.c],?_⟩
 have G:H.le (H11.put d (.row ((Qe.c x).set 8 (slv Sl.nil)))):=QP a7 q9
 have g9:(H11.put d (.row ((Qe.c x).set 8 (slv Sl.nil)))) d=some (true,.row (Qe.c { x with Args:=Sl.nil })):=Xa ..
 have g1:(H11.put d (.row ((Qe.c x).set 8 (slv Sl.nil)))) b1=some (true,.row (Qe.c x)):=by rw [Xb _ _ _ a2]; exact d9
 have g3:(H11.put d (.row ((Qe.c x).set 8 (slv Sl.nil)))) b3=some (true,.row (Qe.c Qe.zero)):=by rw [Xb _ _ _ M]; exact h3
 have g5:(H11.put d (.row ((Qe.c x).set 8 (slv Sl.nil)))) b5=some (true,.row (Qb.c Qb.zero)):=by rw [Xb _ _ _ N]; exact h5
 show jn (α:=Unit) _ _
 dsimp only
 generalize (H11.put d (.row ((Qe.c x).set 8 (slv Sl.nil))))=H12 at *
 refine ⟨fun _ D=>∃ I,enF T m v.k v.n=some I∧H.le D∧D d=some (true,.row (Qe.c { x with Name:=I,Args:=Sl.nil }))∧D b1=some (true,.row (Qe.c x))∧D b3=some (true,.row (Qe.c Qe.zero))∧D b5=some (true,.row (Qb.c Qb.zero))∧Nm I I,?_,?_⟩
 ·refine fI (j:=0) g1 rfl ?_
  refine ift.of (fun h=>?_) (fun h=>?_)
  ·have O : v.k = 5 := by rw [← e2]; simpa using h
   refine fS (j:=3) g1 rfl ?_
   have i3:=o1 O
   refine dmeanT (kd:=1) hs hi hm hg rfl (by omega) (by omega) (hA.trans G) (s:=v.n) ⟨e3.1,by omega⟩ hn (fun r D t hr=>Qaw rfl ?_) (fun r D t hr=>QaK rfl ?_)
   ·refine ⟨_, t _ _ g9, by simp [Qe.c], r, by unfold enF; rw [if_pos O]; exact hr, QP (G.trans t) q9, Xa .., ?_, ?_, ?_, rfl, ?_⟩
    ·rw [Xb _ _ _ a2]; exact t _ _ g1
    ·rw [Xb _ _ _ M]; exact t _ _ g3
    ·rw [Xb _ _ _ N]; exact t _ _ g5
    ·have:=Qf0 (B:=1000) (by omega) hn hr; omega
   ·have a9 : exF T m v = .error v.p := by
     rw [Qnj]
     have:enF T m v.k v.n=none:=by unfold enF; rw [if_pos O]; exact hr
     rw [this]
    have a8:=G.trans t
    have f0:=Qtq a8 q3 q5
    refine ⟨wo2 b3 b5 D,QcJ,bxT (c:=Qe.c) (x:={ x with Args:=Sl.nil }) (by rw [Qcg M.symm N.symm]; exact t _ _ g9) ?_⟩
    refine hs.fS (hA.trans f0) (fun _=>rfl) (by omega) rfl hi (j:=0) (f:=Qa.Name) (fun _=>rfl) fun z hz=>fPs (x:=x.Pos) (by rw [Qcg d1 d2]; exact t _ _ g1) rfl rfl ?_
    rw [hm] at hz
    rw [hz.1.1,e1]
    refine fin2 (t _ _ g3) rfl (t _ _ g5) rfl a3 QcJ (by simp [wo2]) fun E U=>ke _ _ _ (fun b e u=>?_) a9
    rw [U b (fun q=>by rw [q,q3] at u; cases u) fun q=>by rw [q,q5] at u; cases u]; exact a8 b e u
  ·have O : ¬ v.k = 5 := fun e => by rw [← e2] at e; rw [e] at h; simp at h
   exact ⟨v.n,by unfold enF; rw [if_neg O],G,by rw [g9,← e3.1],g1,g3,g5,rfl,e3.2⟩
 ·rintro _ D ⟨I,b2,t,k9,k1,k3,k5,f1⟩
  refine fL (j:=8) k1 rfl ?_
  have e8:=hA.trans t
  have L:∀ {F:Heap} {r:Sl} {f:Qb},D.le F→(∀ E,H.le E→(∀ b,b≠b3→b≠b5→b≠d→∀ e,F b=some e→E b=some e)→K { x with Name:=I,Args:=r } f E)→
   nw (Qb.c Qb.zero) (fun y Z=>stT (y,0) (Qb.c f) (fun a0=>st ((d,0).1,(d,0).2+8) (slv r) (fun R=>dr R fun o=>
    ldT o Qe.c (d,0) fun c3=>ldT o Qb.c (y,0) fun c4=>stT (b3,0) (Qe.c c3) (fun S=>Heap.le o S∧stT (b5,0) (Qb.c c4) (fun J=>ldT J Qe.c (b3,0) fun c5=>ldT J Qb.c (b5,0) fun c6=>K c5 c6 J) S) R) a0) Z) F:=by
   intro F r f P kk
   refine boxZ rfl fun y F2 c1 g a5=>?_
   have k9':=g _ _ (P _ _ k9)
   have z:∀ {b e},D b=some e→y≠b:=fun h q=>by have:=P _ _ h; rw [← q,c1] at this; cases this
   refine ⟨_,k9',by simp [Qe.c],?_⟩
   have hle:H.le (F2.put d (.row ((Qe.c { x with Name:=I,Args:=Sl.nil }).set 8 (slv r)))):=QP (t.trans (P.trans g)) q9
   have f9:(F2.put d (.row ((Qe.c { x with Name:=I,Args:=Sl.nil }).set 8 (slv r)))) d=some (true,.row (Qe.c { x with Name:=I,Args:=r })):=Xa ..
   have fo:∀ b,b≠d→(F2.put d (.row ((Qe.c { x with Name:=I,Args:=Sl.nil }).set 8 (slv r)))) b=F2 b:=fun b u=>Xb _ _ _ u
   dsimp only
   show dr (F2.put d (.row ((Qe.c { x with Name:=I,Args:=Sl.nil }).set 8 (slv r)))) _
   generalize (F2.put d (.row ((Qe.c { x with Name:=I,Args:=Sl.nil }).set 8 (slv r))))=F3 at *
   refine ⟨wo2 b3 b5 F3,QcJ,bxT (c:=Qe.c) (by rw [Qcg M.symm N.symm]; exact f9) (bxT (c:=Qb.c) (by rw [Qcg (z k3) (z k5),fo _ (z k9)]; exact a5) ?_)⟩
   refine fin2 ((fo _ M).trans (g _ _ (P _ _ k3))) rfl ((fo _ N).trans (g _ _ (P _ _ k5))) rfl a3 QcJ (by simp [wo2]) fun E U=>kk E (fun b e u=>?_) fun b m3 m5 m9 e he=>by rw [U b m3 m5,fo b m9]; exact g _ _ he
   rw [U b (fun q=>by rw [q,q3] at u; cases u) fun q=>by rw [q,q5] at u; cases u]; exact hle b e u
  refine f3 e8 e6 (fun r F la P b0 e9=>L P fun E U b6=>?_) (fun r F p P hp=>L P fun E U b6=>ke _ _ _ U ?_)
  ·refine k _ _ (.mk v.p v.k I v.v la) U (by rw [Qnj, b2, b0]) (QfQ.2 ⟨e1, e2, f1, e4.le (QrK hA), e5, ?_⟩)
   have hR:∀ {X Y:Heap} {v:ExP} {x:Qe},X.le Y→EpIs X v x→EpIs Y v x:=fun h h'=>EpIs.le h _ _ h'
   have hla':=Qap b0
   have b7:(Heap.nw A D F).le (Heap.nw A H E):=fun b e u=>by
    rcases QgK u with ⟨Q,z2⟩ | Q
    ·refine Qla (t.none Q) (b6 b (fun q=>by rw [q,k3] at Q; cases Q) (fun q=>by rw [q,k5] at Q; cases Q) (fun q=>by rw [q,k9] at Q; cases Q) e z2)
    ·exact QrK hA b e Q
   exact (e9.is (fun _=>rfl) (by omega) hR (by omega)).le b7 fun _ _ _ h=>hR b7 h
  ·rw [Qnj,b2]
   dsimp only
   rw [hp]
end
end
section
open Go Go.Proofs
section
variable {C:Ctx} {A:Heap}
theorem QrC {T:Tl} {l:List MoP} {i:Nat} {m:MoP} {sl:Sl} (f:MpL A sl l) (hi:i < l.length) (hm:l[i]=m) (hg:Ag l i m T) (hn:m.n.length≤1000) {a:List ExP} (d:∀ v ∈ a,∃ p,exOk p v.e=true) (b:a.length≤1000):ECL C A T l i m sl a:=
 @QpO C A T l i m sl a b fun v g=>Qvx f hi hm hg hn v (d v g)
theorem QsU {T:Tl} {pl:List MoP} {pi:Nat} {m:MoP} {sl:Sl} (hp:MpL A sl pl) (hpi:pi < pl.length) (hm:pl[pi]=m) (hg:Ag pl pi m T) (hn:m.n.length≤1000)
 {l:List LiP} (e4:∀ v ∈ l,liOk v.e=true) (f9:l.length≤1000) {s:Sl} {H:Heap} {K:Sl→Qb→HP} (hA:A.le H) (hs:LpL A s l)
 (k:∀ r D l',H.le D→mpE (liF T m) l=.ok l'→Gr LpIs Qm.c 5 A H D r l'→K r goodD D) (ke:∀ r D p,H.le D→mpE (liF T m) l=.error p→K r (fltD m.n p 63) D):QfX C sl (pi:Int) s K H:=by
 apply Qqr
 unfold QmG
 refine box1N fun b1 H2 n1 _ l1 h1=>?_
 have L:=hA.trans l1
 have e8:A b1=none:=hA.none n1
 have b7:=SlIs.len hs
 have hR:∀ {X Y:Heap} {v:LiP} {x:Qm},X.le Y→LpIs X v x→LpIs Y v x:=fun h h'=>LpIs.le h h'
 have a1:∀ {X Y:Heap} {v:ExP} {x:Qe},X.le Y→EpIs X v x→EpIs Y v x:=fun h h'=>EpIs.le h _ _ h'
 refine ⟨fun y D=>H2.le D∧∃ (i:Nat) (l':List LiP),y.2=(i:Int)∧i≤l.length∧mpE (liF T m) (l.take i)=.ok l'∧Gr LpIs Qm.c 5 A H2 D y.1 l',fun y _=>l.length - y.2.toNat,⟨Heap.le.refl _,0,[],rfl,Nat.zero_le _,rfl,Gr.nil (fun _ h=>h) L⟩,?_⟩
 rintro ⟨o,_⟩ D ⟨U,i,l',rfl,d7,M,hG⟩
 rw [b7]
 have hlen':=Qap M
 rw [List.length_take,Nat.min_eq_left d7] at hlen'
 have out:∀ {f:Qb} {D2:Heap},H2.le D2→(∀ D3,H.le D3→K Sl.nil f D3)→stT (b1,0) (Qb.c f) (fun a5=>ldT a5 Qb.c (b1,0) fun e9=>K Sl.nil e9 a5) D2:=fun {f D2} u k=>by
  refine stAll (u _ _ h1) rfl (bxT (c:=Qb.c) (Xa ..) (k _ (fun b e d=>?_)))
  have:b≠b1:=fun e'=>by rw [e',n1] at d; cases d
  rw [Xb _ _ _ this]; exact (l1.trans u) b e d
 refine ift.of (fun h=>?_) (fun h=>?_)
 ·have P : i < l.length := by have := Vb h; first | omega | (dsimp only at this; omega)
  refine hs.ld (L.trans U) (fun _=>rfl) (by omega) rfl P fun y hy=>?_
  obtain ⟨e1,e2,e3,e6⟩:=hy
  obtain ⟨o1,o2,o3⟩:=Qwo (e4 _ (Vg P))
  have a0:=fun q=>Qgi (e:=q) P M
  have e5:=fun w=>Qeh (w:=w) P M
  generalize l[i]=v at *
  intro t S
  refine nwT rfl ?_
  have Q:=Xc S (g:=.row (Qm.c y)) (m:=true)
  have E:(D.put t (.row (Qm.c y))) t=some (true,.row (Qm.c y)):=Xa ..
  have W:=l1.trans U
  generalize u:D.put t (.row (Qm.c y))=D2 at *
  have Z:H.le D2:=W.trans Q
  refine ⟨fun _ F=>∃ J,lnF T m v.k v.r=some J∧D.le F∧F t=some (true,.row (Qm.c { y with Rel:=J }))∧Nm J J,?_,?_⟩
  ·refine fI E rfl ?_
   refine ⟨fun b F=>F=D2∧(b=true↔v.k=1∨v.k=2),?_,?_⟩
   ·rw [e2]
    refine ift.of (fun h=>⟨rfl,?_⟩) (fun h=>fI E rfl ⟨rfl,?_⟩)
    ·have : v.k = 1 := by simpa using h
     simp [this]
    ·have : ¬ v.k = 1 := by simpa using h
     rw [e2]; simp [this]
   ·rintro b F ⟨d1,d⟩
    subst d1
    refine ift.of (fun h=>?_) (fun h=>?_)
    ·have hk:=d.1 h
     refine fS E rfl ?_
     have f8:=o1 hk
     refine dmeanT (kd:=2) hp hpi hm hg rfl (by omega) (by omega) (hA.trans Z) (s:=v.r) ⟨e3.1,by omega⟩ hn (fun r F I hr=>Qaw rfl ?_) (fun r F I hr=>QaK rfl ?_)
     ·have b0:=I _ _ E
      refine ⟨_,b0,by simp [Qm.c],r,by unfold lnF; rw [if_pos hk]; exact hr,QP (Q.trans I) S,Xa ..,rfl,?_⟩
      have:=Qf0 (B:=1000) (by omega) hn hr; omega
     ·have d0:=hA.trans (Z.trans I)
      refine ⟨_,Heap.le.refl _,hp.fS d0 (fun _=>rfl) (by omega) rfl hpi (j:=0) (f:=Qa.Name) (fun _=>rfl) fun z hz=>fPs (x:=y.Pos) (I _ _ E) rfl rfl ?_⟩
      rw [hm] at hz
      rw [hz.1.1,e1]
      refine out ((U.trans Q).trans I) fun D3 h3=>ke _ D3 _ h3 (a0 v.p ?_)
      unfold liF
      have:lnF T m v.k v.r=none:=by unfold lnF; rw [if_pos hk]; exact hr
      rw [this]
    ·have hk : ¬ (v.k = 1 ∨ v.k = 2) := fun e => by rw [d.2 e] at h; cases h
     refine ⟨v.r,by unfold lnF; rw [if_neg hk],Q,?_,rfl,e3.2⟩
     rw [E,← e3.1]
  ·rintro _ F ⟨J,b8,I,d,d9⟩
   have d6:=W.trans I
   refine fL d (j:=4) rfl ?_
   refine QrC hp hpi hm hg hn o3 (by omega) (hA.trans d6) e6 (fun r G0 la b2 b6 b3=>?_) (fun r G q O hq=>?_)
   ·refine boxZ rfl fun c4 G e7 R N => fI (j := 3) N rfl (Qaw rfl ?_)
    have O:=b2.trans R
    have d5:=b3.up R a1
    have hb':=O _ _ d
    refine ⟨_,hb',by simp [Qm.c],?_⟩
    have hla':=Qap b6
    refine bxT (c:=Qm.c) (x:={ y with Rel:=J,Args:=r }) (Xa ..) ?_
    rw [List.append_nil]
    have a8:A t=none:=(L.trans U).none S
    have e0:∀ q,o.p=some q→∃ e,F q.1=some e:=fun q hq=>by
     obtain ⟨e,he⟩:=hG.has q hq
     exact ⟨e,I _ _ he⟩
    have b4:∀ b,F b=none→H2 b=none:=fun b d=>hG.dom b (I.none d)
    have c0:=Qsw (D2:=G) (g:=.row (Qm.c { y with Rel:=J,Args:=r })) L b4 hG.fresh e0 d a8
    have a9:D.le (G.put t (.row (Qm.c { y with Rel:=J,Args:=r }))):=QP (I.trans O) S
    have d3:=hG.up a9 hR
    show apd _ 64 o _ 1 _ (G.put t (.row (Qm.c { y with Rel:=J,Args:=r })))
    refine d3.addD L (zc:=Qm.c Qm.zero) (bytes:=64) (x:={ y with Rel:=J,Args:=r }) (v:=⟨v.p,v.k,J,la⟩) (fun _=>rfl) (by omega) hR rfl ⟨e1,e2,d9,(d5.is (fun _=>rfl) (by omega) a1 (by omega)).le c0 fun _ _ _ h=>a1 c0 h⟩ (by omega) (by omega) fun r2 D4 d4 h4 f7=>?_
    rw [Qu (by omega) (by omega)]
    have hw:liF T m v=.ok ⟨v.p,v.k,J,la⟩:=by unfold liF; rw [b8,b6]
    exact ⟨⟨fun b e d=>h4 b e (Xe (a9 b e (U b e d)) fun q hq e'=>by have:=hG.fresh q hq; rw [e',d] at this; cases this),i+1,_,by first | omega | (dsimp only; omega),by omega,e5 _ hw,d4⟩,by first | omega | (dsimp only; omega)⟩
   ·refine boxZ rfl fun c4 G2 e7 R N => fI (j := 3) N rfl (QaK rfl ⟨_, Heap.le.refl _, bxT (c := Qb.c) N (out ((U.trans I).trans (O.trans R)) fun D3 h3 => ke _ D3 q h3 (a0 q ?_))⟩)
    unfold liF
    rw [b8]
    dsimp only
    rw [hq]
 ·have d8 : i = l.length := by have := Vc h; first | omega | (dsimp only at this; omega)
  subst d8
  rw [Vl] at M
  refine Qmf fun D2 u=>?_
  have d2:=hG.up u hR
  refine stAll ((U.trans u) _ _ h1) rfl (bxT (c:=Qb.c) (Xa ..) (k _ _ _ (fun b e d=>?_) M ((d2.put h1 e8).base hA l1 hR)))
  have:b≠b1:=fun e'=>by rw [e',n1] at d; cases d
  rw [Xb _ _ _ this]; exact ((l1.trans U).trans u) b e d
end
end
section
open Go Go.Proofs
theorem Qxe {own r:Str}:(decide ((r.length:Int) < (own.length:Int)) || !((r.take (own.length:Int).toNat).drop (0:Int).toNat == own))=!own.isPrefixOf r:=by
 have e:(r.take (own.length:Int).toNat).drop (0:Int).toNat=r.take own.length:=by simp
 rw [e]
 cases h:own.isPrefixOf r with
 | true=>
  have b:=List.isPrefixOf_iff_prefix.1 h
  have d:=List.prefix_iff_eq_take.1 b
  have f:=b.length_le
  have:¬ ((r.length:Int) < (own.length:Int)):=by omega
  rw [← d]
  simp [this]
 | false=>
  by_cases hl:((r.length:Int) < (own.length:Int))
  ·simp [hl]
  ·have : ¬ r.take own.length = own := fun e => by
    have:=List.isPrefixOf_iff_prefix.2 (List.prefix_iff_eq_take.2 e.symm)
    rw [h] at this; cases this
   simp [hl,this]
section
variable {C:Ctx} {A H:Heap}
theorem QgL {b3 b5:Nat} {D E:Heap} (h:H.le D) (i:H b3=none) (j:H b5=none) (g:∀ b,b≠b3→b≠b5→E b=D b):H.le E:=fun b e d=>by
 rw [g b (fun f=>by rw [f,i] at d; cases d) fun f=>by rw [f,j] at d; cases d]; exact h b e d
theorem QrQ {D D2 E:Heap} (f:A.le H) (h:∀ b,D b=none→H b=none) (i:∀ b e,D b=none→D2 b=some e→E b=some e):(Heap.nw A D D2).le (Heap.nw A H E):=fun b e g=>by
 rcases QgK g with ⟨d,z2⟩ | d
 ·exact Qla (h b d) (i b e d z2)
 ·exact QrK f b e d
theorem dmeanG {l:List MoP} {i:Nat} {m:MoP} {T:Tl} {sl:Sl} {s t:Str} {kd b:Int} {K:Str→Bool→HP} (q:MpL A sl l) (hi:i < l.length) (hm:l[i]=m) (hg:Ag l i m T) (o:b=kd+1) (f:0≤kd) (g:kd≤2) (j:A.le H) (u:Nm t s) (hn:m.n.length≤1000)
 (k:∀ r ok D,H.le D→meanF T m s kd=(if ok=true then some r else none)→K r ok D):Qck C sl (i:Int) b t K H:=
 dmeanT q hi hm hg o f g j u hn (fun r D d h=>k r true D d (by rw [h]; rfl)) fun r D d h=>k r false D d (by rw [h]; rfl)
theorem dclone {s : Sl} {l : List Str} {Hs : Heap} {K : Sl → Heap → Prop} (hs : StL A s l) (hA : A.le H) (hb : l.length ≤ 1000000000) (hH : Hs.le H) (k : ∀ r D, H.le D → Gr (fun _ (v : Str) (x : Str) => Nm x v) (fun x => [sv x]) 1 A H D r l → K r D) :
 nw ([]) (fun b92 H93=>Heap.le Hs H93∧apS ([sv []]) 16 (Sl.of (some (b92,0)) 0 0) s (fun r95 H96=>Heap.le Hs H96∧K r95 H96) H93) H:=by
 obtain ⟨xs,h1,h2,h3,h4,h5⟩:=hs
 have e0:xs.flatMap (fun x:Str=>[sv x])=xs.map sv:=by
  clear h1 h2 h3 h4 h5
  induction xs with
  | nil=>rfl
  | cons a xs ih=>rw [List.flatMap_cons,ih]; rfl
 rw [e0] at h1
 intro b n
 have e:=Qp2 (z:=1) n
 have hle:=Xc n (g:=.row []) (m:=true)
 refine ⟨hH.trans hle,Qma (zc:=[sv []]) e (Qgl (hA.trans hle) h1) (by simp [h2]) (Qu9 xs) ?_ ?_ fun r D ho hr=>?_⟩
 ·simp only [Sl.of]; omega
 ·simp only [Sl.of]; omega
 ·refine ⟨hH.trans ho.le, k r D ho.le ⟨fun b hb => ho.le.none hb, hA.trans ho.le, ho.fresh, xs, ?_, h3, fun i v x hv hx => h5 i v x hv hx⟩⟩
  rw [e0]; exact ho.own
theorem QvB {T:Tl} {pl:List MoP} {pi:Nat} {m:MoP} {sl:Sl} (hp:MpL A sl pl) (hpi:pi < pl.length) (hm:pl[pi]=m) (hg:Ag pl pi m T) (hn:m.n.length≤1000)
 {v:RuP} (b2:ruOk v.e=true) (i0:v.b.length≤12) {x:Qi} {K:Qi→Qb→HP} (Z:A.le H) (hx:UpIs A v x)
 (k:∀ r D v',H.le D→ruF T m v=.ok v'→UpO H (Heap.nw A H D) v' r→K r goodD D) (ke:∀ r D p,H.le D→ruF T m v=.error p→K r (fltD m.n p 63) D):Qhg C sl (pi:Int) x K H:=by
 obtain ⟨e1,e2,e3,e4,e5⟩:=hx
 unfold ruOk RuP.e at b2
 simp only [Ve,Vj,List.all_map,List.all_eq_true,Function.comp_def,List.length_map] at b2
 obtain ⟨⟨⟨⟨⟨t1,t2⟩,t3⟩,t4⟩,t5⟩,t6⟩:=b2
 have i2:=(Qka t1).1
 apply Qqx
 unfold QmM
 refine box1N fun b1 H2 n1 _ l1 h1=>box1N fun b3 H4 n3 _ l3 h3=>box1N fun b5 H6 n5 _ l5 h5=>?_
 have q3:H b3=none:=l1.none n3
 have q5:H b5=none:=l1.none (l3.none n5)
 have h1':=l3 _ _ h1
 have L:b1≠b3:=fun e=>by rw [← e,h1] at n3; cases n3
 have M:b1≠b5:=fun e=>by rw [← e,h1'] at n5; cases n5
 have a7:b3≠b5:=fun e=>by rw [← e,h3] at n5; cases n5
 have h1:=l5 _ _ h1'
 have h3:=l5 _ _ h3
 have d3:H.le H6:=l1.trans (l3.trans l5)
 clear h1' n1 n3 n5 l1 l3 l5
 refine fS (j:=2) h1 rfl ?_
 refine dmeanG (kd:=2) hp hpi hm hg rfl (by omega) (by omega) (Z.trans d3) (s:=v.r) ⟨e2.1,by omega⟩ hn fun r ok D hD hr=>?_
 have t:=d3.trans hD
 refine hp.fS (Z.trans t) (fun _=>rfl) (by omega) rfl hpi (j:=0) (f:=Qa.Name) (fun _=>rfl) fun z hz=>?_
 rw [hm] at hz
 rw [hz.1.1]
 refine ⟨cat1 hn,?_⟩
 refine jv (((!ok) || decide (((r.length:Int):Int) < ((m.n++([46]:Str)).length:Int))) || !((r.take ((m.n++([46]:Str)).length:Int).toNat).drop (0:Int).toNat == (m.n++([46]:Str)))) D (ift.of (fun h=>⟨rfl,by rw [h]; rfl⟩) (fun h=>?_)) ?_
 ·have h2:=(Bool.or_eq_false_iff.1 h).2
  have h3:=Vc h2
  exact ⟨by omega,by omega,by omega,_,rfl,rfl,by rw [h]; rfl⟩
 rw [Bool.or_assoc,Qxe]
 refine ift.of (fun h=>?_) (fun h=>?_)
 ·have S : ruF T m v = .error v.p := by
   unfold ruF
   rw [hr]
   cases ok with
   | false=>rfl
   | true=>
    simp only [if_pos,Bool.not_true,Bool.false_or] at h ⊢
    rw [if_pos (by simpa using h)]
  refine ⟨wo2 b3 b5 D,QcJ,bxT (c:=Qi.c) (by rw [Qcg L M]; exact hD _ _ h1) ?_⟩
  refine hp.fS (Z.trans (Qtq t q3 q5)) (fun _=>rfl) (by omega) rfl hpi (j:=0) (f:=Qa.Name) (fun _=>rfl) fun z hz=>fPs (x:=x.Pos) (by rw [Qcg L M]; exact hD _ _ h1) rfl rfl ?_
  rw [hm] at hz
  rw [hz.1.1,e1]
  exact fin2 (hD _ _ h3) rfl (hD _ _ h5) rfl a7 QcJ (by simp [wo2]) fun E Y=>ke _ _ _ (QgL t q3 q5 Y) S
 ·obtain ⟨rfl, U⟩ : ok = true ∧ (m.n ++ [46]).isPrefixOf r = true := by
   cases ok with
   | false=>simp at h
   | true=>exact ⟨rfl,by simpa using h⟩
  have hr:meanF T m v.r 2=some r:=hr
  have f5:=Qf0 (B:=1000) (by omega) hn hr
  have N:=hD _ _ h1
  have O:=hD _ _ h3
  have P:=hD _ _ h5
  refine fL (j:=3) N rfl ?_
  refine QrC hp hpi hm hg hn (QoF t4) (by omega) (Z.trans t) e3 (fun ra D2 la o b0 d0=>?_) (fun ra D2 q o hq=>?_)
  ·refine boxZ rfl fun d D3 W y G => fI (j := 3) G rfl (Qaw rfl ?_)
   refine fL (j:=5) (y _ _ (o _ _ N)) rfl ?_
   have R:=(t.trans o).trans y
   have i5:H d=none:=(t.trans o).none W
   have I:∀ {b e},D b=some e→d≠b:=fun h e'=>by have:=o _ _ h; rw [← e',W] at this; cases this
   have J : ∀ {D4 : Heap} {rb : Sl} {f : Qb}, D3.le D4 → (∀ rg D6 E, H.le E → Gr (fun _ (v : Str) (x : Str) => Nm x v) (fun x => [sv x]) 1 A (D4.put d (.row (Qb.c f))) D6 rg v.g → (D4.put d (.row (Qb.c f))).le D6 → (∀ b, b ≠ b3 → b ≠ b5 → E b = D6 b) → K ⟨x.Pos, r, ra, rg, rb⟩ f E) →
    stT (d,0) (Qb.c f) (fun c3=>dr c3 fun u=>ldT u Qk.c ((b1,0).1,(b1,0).2+0) fun g0=>ldL u ((b1,0).1,(b1,0).2+4) fun g1=>ldT u Qb.c (d,0) fun g2=>
     nw ([]) (fun f0 c4=>Heap.le u c4∧apS ([sv []]) 16 (Sl.of (some (f0,0)) 0 0) g1 (fun f8 c5=>Heap.le u c5∧stT (b3,0) (Qi.c (⟨g0,r,ra,f8,rb⟩:Qi)) (fun c6=>Heap.le u c6∧stT (b5,0) (Qb.c g2) (fun a5=>ldT a5 Qi.c (b3,0) fun d8=>ldT a5 Qb.c (b5,0) fun d9=>K d8 d9 a5) c6) c5) c4) c3) D4:=by
    intro D4 rb f F kk
    have c9:=o.trans (y.trans F)
    refine stAll (F _ _ G) rfl ?_
    have f1:(D4.put d (.row (Qb.c f))) d=some (true,.row (Qb.c f)):=Xa ..
    have fo:∀ {b e},D b=some e→(D4.put d (.row (Qb.c f))) b=some e:=fun {b e} h=>by rw [Xb _ _ _ (I h).symm]; exact c9 _ _ h
    have d2:H.le (D4.put d (.row (Qb.c f))):=fun b e i=>fo (t b e i)
    generalize D4.put d (.row (Qb.c f))=D5 at *
    refine ⟨wo2 b3 b5 D5,QcJ,fPs (x:=x.Pos) (by rw [Qcg L M]; exact fo N) rfl rfl (fL (j:=4) (by rw [Qcg L M]; exact fo N) rfl (bxT (c:=Qb.c) (by rw [Qcg (I O) (I P)]; exact f1) ?_))⟩
    refine dclone e4 (Z.trans d2) (by omega) QcJ fun rg D6 Q a1=>?_
    exact fin2 (Q _ _ (fo O)) rfl (Q _ _ (fo P)) rfl a7 (QcJ.trans Q) (by simp [wo2]) fun E Y=>kk rg D6 E (QgL (d2.trans Q) q3 q5 Y) a1 Q Y
   refine QsU hp hpi hm hg hn t5 (by omega) (Z.trans R) e5 (fun rb D4 lb F d4 d1=>J F fun rg D6 E Y a1 c8 b6=>?_) (fun rb D4 q F hq=>J F fun rg D6 E Y _ _ _=>ke _ _ q Y ?_)
   ·have g5:=Qap b0
    have g6:=Qap d4
    have d6:∀ {b e},b≠d→D4 b=some e→(D4.put d (.row (Qb.c goodD))) b=some e:=fun {b e} i he=>by rw [Xb _ _ _ i]; exact he
    have hw:ruF T m v=.ok ⟨v.p,r,la,v.g,lb⟩:=by
     unfold ruF
     rw [hr]
     dsimp only
     rw [if_neg (by rw [U]; decide),b0]
     dsimp only
     rw [d4]
    have b7:∀ {X:Heap} {b},D.le X→X b=none→b≠b3:=fun hX i e=>by rw [e,hX _ _ O] at i; cases i
    have b8:∀ {X:Heap} {b},D.le X→X b=none→b≠b5:=fun hX i e=>by rw [e,hX _ _ P] at i; cases i
    have ka:(Heap.nw A D D2).le (Heap.nw A H E):=QrQ Z (fun b i=>t.none i) fun b e z1 z2=>by
     rw [b6 b (b7 (Heap.le.refl _) z1) (b8 (Heap.le.refl _) z1)]
     exact c8 _ _ (d6 (fun e'=>by rw [e',W] at z2; cases z2) (F _ _ (y _ _ z2)))
    have kb:(Heap.nw A D3 D4).le (Heap.nw A H E):=QrQ Z (fun b i=>R.none i) fun b e z1 z2=>by
     rw [b6 b (b7 (o.trans y) z1) (b8 (o.trans y) z1)]
     exact c8 _ _ (d6 (fun e'=>by rw [e',G] at z1; cases z1) z2)
    have a9:∀ b,(D4.put d (.row (Qb.c goodD))) b=none→D b=none∧H b=none:=fun b i=>by
     have:b≠d:=fun e=>by rw [e,Xa] at i; cases i
     rw [Xb _ _ _ this] at i
     have:=(o.trans (y.trans F)).none i
     exact ⟨this,t.none this⟩
    have kg:(Heap.nw A (D4.put d (.row (Qb.c goodD))) D6).le (Heap.nw A H E):=QrQ Z (fun b i=>(a9 b i).2) fun b e z1 z2=>by
     have:=(a9 b z1).1
     rw [b6 b (b7 (Heap.le.refl _) this) (b8 (Heap.le.refl _) this)]; exact z2
    refine k _ _ ⟨v.p,r,la,v.g,lb⟩ Y hw ⟨⟨e1,⟨rfl,Nat.le_trans f5 (by omega)⟩,?_,?_,?_⟩,(d0.ow.le ka).base fun b i=>t.none i,(a1.ow.le kg).base fun b i=>(a9 b i).2,(d1.ow.le kb).base fun b i=>R.none i⟩
    ·exact (d0.is (fun _=>rfl) (by omega) (fun h h'=>EpIs.le h _ _ h') (by omega)).le ka fun _ _ _ h=>EpIs.le ka _ _ h
    ·exact (a1.is (fun _=>rfl) (by omega) (fun _ h=>h) (by omega)).le kg fun _ _ _ h=>h
    ·exact (d1.is (fun _=>rfl) (by omega) (fun h h'=>LpIs.le h h') (by omega)).le kb fun _ _ _ h=>LpIs.le kb h
   ·unfold ruF
    rw [hr]
    dsimp only
    rw [if_neg (by rw [U]; decide),b0]
    dsimp only
    rw [hq]
  ·have S : ruF T m v = .error q := by
    unfold ruF
    rw [hr]
    dsimp only
    rw [if_neg (by rw [U]; decide),hq]
   refine boxZ rfl fun d D3 W y G=>fI (j:=3) G rfl (QaK rfl ?_)
   have I:∀ {b e},D b=some e→d≠b:=fun h e'=>by have:=o _ _ h; rw [← e',W] at this; cases this
   have a0:=o.trans y
   refine ⟨wo2 b3 b5 D3,QcJ,bxT (c:=Qi.c) (by rw [Qcg L M]; exact a0 _ _ N) (bxT (c:=Qb.c) (by rw [Qcg (I O) (I P)]; exact G) ?_)⟩
   exact fin2 (a0 _ _ O) rfl (a0 _ _ P) rfl a7 QcJ (by simp [wo2]) fun E Y=>ke _ _ _ (QgL (t.trans a0) q3 q5 Y) S
end
end
section
set_option linter.unusedSectionVars false
open Go Go.Proofs
def PR (A D1 Y:Heap) (r:Sl) (ps:List Str):Prop:=StL (Heap.nw A D1 Y) r ps∧OwS D1 (Heap.nw A D1 Y) 1 r∧r.len≤r.cap
section
variable {C:Ctx} {A:Heap}
theorem apS0 {s:Sl} {l:List Str} {H:Heap} {b:Nat} {K:Sl→HP} (L:StL A s l) (F:A.le H) (I:H b=some (true,.row [])) (q:l.length≤1000000000)
 (k:∀ r D,(H.del b).le D→(∀ {D1 Y:Heap},D1.le (H.del b)→(∀ p e,r.p=some p→(H.del b) p.1=none→D p.1=some e→Y p.1=some e)→PR A D1 Y r l)→K r D):apS [sv []] 16 (Sl.of (some (b,0)) 0 0) s K H:=by
 obtain ⟨xs,m,t,u,y,z⟩:=L
 have e0:xs.flatMap (fun x:Str=>[sv x])=xs.map sv:=by
  clear m t u y z
  induction xs with
  | nil=>rfl
  | cons a xs N=>rw [List.flatMap_cons,N]; rfl
 rw [e0] at m
 have f:OwnF (H.del b) H 1 (Sl.of (some (b,0)) 0 0) []:=⟨Xf _ _,⟨by simp,rfl,Nat.le_refl _,.inr ⟨b,[],rfl,by simpa using I,by simp⟩⟩,fun p hp=>by injection hp with hp; subst hp; exact Xg _ _⟩
 refine Qma (zc:=[sv []]) f (Qgl F m) (by simp [t]) (Qu9 xs) (by simp only [Sl.of]; omega) (by simp only [Sl.of]; omega) fun r D f O=>k r D f.le fun {D1 Y} h G=>?_
 have f:OwnF (H.del b) D 1 r (xs.map sv):=f
 obtain ⟨_,⟨q,hx,B,d⟩,o⟩:=f
 have hn:∀ p e,r.p=some p→D p.1=some e→Heap.nw A D1 Y p.1=some e:=fun p e hp J=>Qla (h.none (o p hp)) (G p e hp (o p hp) J)
 have f:Own (Heap.nw A D1 Y) 1 r (xs.map sv):=⟨q,hx,B,d.imp id fun ⟨j,E,hp,g,C⟩=>⟨j,E,hp,hn _ _ hp g,C⟩⟩
 refine ⟨⟨xs,by rw [e0]; exact f.rdsl,?_,u,y,fun i v x M hx=>z i v x M hx⟩,?_,B⟩
 ·simp only [List.length_map] at q; omega
 ·rcases d with ⟨hp,h0⟩ | ⟨j,E,hp,g,C⟩
  ·exact .inl (by omega)
  ·exact .inr ⟨j,_,hp,hx,hn _ _ hp g,by rw [Va]; omega,h.none (o _ hp)⟩
theorem dbox2 {α β:Type} {c:α→List Value} {d:β→List Value} {z v:α} {y u:β} {H:Heap} {K:Nat→Nat→HP} (hl:(c v).length=(c z).length) (hm:(d u).length=(d y).length)
 (k:∀ b b' D,H.le D→H b=none→H b' = none→b≠b'→D b=some (true,.row (c v))→D b' = some (true,.row (d u))→K b b' D) :
 nw (c z) (fun b H2=>nw (d y) (fun b' H3=>stT (b,0) (c v) (fun H4=>stT (b',0) (d u) (fun H5=>K b b' H5) H4) H3) H2) H:=
 box1N fun b D4 n e l g=>box1N fun b' D5 n' e' l' g'=>by
  have ne:b≠b':=fun e=>by rw [← e,g] at n'; cases n'
  have hb':H b' = none:=l.none n'
  refine stAll (l' _ _ g) hl.symm (stAll (by rw [Xb _ _ _ ne.symm]; exact g') hm.symm (k b b' _ (QP (QP (l.trans l') n) hb') n hb' ne ?_ (Xa ..)))
  rw [Xb _ _ _ ne]; exact Xa ..
variable {T:Tl} {m:MoP} {pl:List MoP} {pi:Nat} {sl:Sl} (hp:MpL A sl pl) (hpi:pi < pl.length) (hm:pl[pi]=m) (hg:Ag pl pi m T) (hn:m.n.length≤1000) {x:Qa} (hx:x.Name=m.n)
include hp hpi hm hg hn hx
theorem dCons {b12 I d:Nat} {H0:Heap} {y y1:Qd} (u:A.le (H0.del d)) (h12:(H0.del d) b12=some (true,.row (Qa.c x))) (hv:(H0.del d) I=some (true,.row (Qd.c y)))
 (ht:H0 d=some (true,.row (Qd.c y1))) (b2:y1.Cons=Sl.nil) {l:List CnV} (hs:CnL A y.Cons l) (a6:∀ c ∈ l,cnOk c=true) (c2:l.length≤1000) {REST EX:HP}
 (k:∀ D l' s',mpO (cnF T m) l=some l'→(H0.del d).le D→Gr CnIs Qj.c 2 A H0 D s' l'→D d=some (true,.row (Qd.c { y1 with Cons:=s' }))→REST D)
 (ke:∀ D,(H0.del d).le D→mpO (cnF T m) l=none→EX D) :
 lp (α:=Int) 0 H0 (fun g J81 H82=>
 ldL H82 ((I,0).1,(I,0).2+5) fun x83=>
 ift (decide ((g:Int) < (Sl.len x83:Int)))
 (ldL H82 ((I,0).1,(I,0).2+5) fun x86=>
 ixa x86 g fun p88=>
 ldL H82 ((p88.1,p88.2+(g:Int).toNat*2).1,(p88.1,p88.2+(g:Int).toNat*2).2+1) fun x93=>
 QbY C sl (pi:Int) x93 (fun r95 r96 H97=>
 ift (!r96)
 (EX H97)
 (dr H97 fun Hs114=>
 ldL Hs114 ((d,0).1,(d,0).2+5) fun x116=>
 ldS Hs114 ((b12,0).1,(b12,0).2+0) fun x118=>
 catOk x118 ([46]:Str)∧
 ldL Hs114 ((I,0).1,(I,0).2+5) fun x121=>
 ixa x121 g fun p123=>
 ldS Hs114 ((p123.1,p123.2+(g:Int).toNat*2).1,(p123.1,p123.2+(g:Int).toNat*2).2+0) fun x128=>
 catOk (x118++([46]:Str)) x128∧
 nw ((Qj.c (⟨((x118++([46]:Str))++x128),r95⟩:Qj))++[]) (fun b132 H133=>
 Heap.le Hs114 H133∧
 apS (Qj.c Qj.zero) 40 x116 (Sl.of (some (b132,0)) 1 1) (fun r135 H136=>
 Heap.le Hs114 H136∧
 st ((d,0).1,(d,0).2+5) (slv r135) (fun H137=>
 J81 (w .i64 (g+1)) H137) H136) H133) H97)) H82)
 (REST H82)):=by
 have P:=SlIs.len hs
 have nA:A d=none:=by
  cases ha:A d with
  | none=>rfl
  | some e=>have:=u _ _ ha; rw [Xg] at this; cases this
 have J:A.le H0:=u.trans (Xf _ _)
 have hR:∀ {X Y:Heap} {v:CnV} {x:Qj},X.le Y→CnIs X v x→CnIs Y v x:=fun h N=>CnIs.le h N
 refine ⟨fun y D=>(H0.del d).le D∧∃ (i:Nat) (l':List CnV) (s':Sl),y=(i:Int)∧i≤l.length∧mpO (cnF T m) (l.take i)=some l'∧Gr CnIs Qj.c 2 A H0 D s' l'∧D d=some (true,.row (Qd.c { y1 with Cons:=s' })),fun y _=>l.length - y.toNat,⟨Xf _ _,0,[],Sl.nil,rfl,Nat.zero_le _,rfl,Gr.nil (fun _ h=>h) J,?_⟩,?_⟩
 ·rw [ht,← b2]
 rintro _ D ⟨K,i,l',s',rfl,a4,E,L,H⟩
 refine fL (K _ _ hv) (j:=5) rfl ?_
 rw [P]
 have hlen':=QfP E
 rw [List.length_take,Nat.min_eq_left a4] at hlen'
 refine ift.of (fun h=>?_) (fun h=>?_)
 ·have z : i < l.length := by have := Vb h; omega
  refine fL (K _ _ hv) (j:=5) rfl (hs.fL (u.trans K) (fun _=>rfl) (by omega) rfl z (j:=1) (f:=Qj.Fields) (fun _=>rfl) fun y2 b3=>?_)
  have o:=a6 _ (Vg z)
  have M:=Qi3 (f:=cnF T m) (Vg z)
  have b0:=fun w=>QkS (w:=w) z E
  generalize hc:l[i]=c at *
  unfold cnOk at o
  rw [Ve] at o
  obtain ⟨a2,a3⟩:=QlT o.2
  have c0:=(QbL o.1).1
  refine QsW hp hpi hm hg hn a3 a2 (u.trans K) b3.2 (fun r O S t B a0=>Qaw rfl ?_) (fun O t B=>QaK rfl (ke O (K.trans t) (M ?_)))
  ·have W:=L.up t hR
   have hw:cnF T m c=some ⟨dotS m.n c.n,S⟩:=by unfold cnF; rw [B]
   have b7:=QfP B
   have R:=Qmi (D2:=O) J L.dom L.fresh L.has
   have Q:∀ q,s'.p=some q→q.1≠d:=fun q hq e=>by
    have:=L.fresh q hq
    rw [e,ht] at this; cases this
   have F:∀ {b:Nat} {e:Bool×GO},(H0.del d) b=some e→(Heap.off s' O) b=some e:=fun {b e} H=>Xe (t _ _ (K b e H)) fun q hq e'=>by
    have:=L.fresh q hq
    rw [e'] at this
    have N:=Xf _ _ _ _ H
    rw [this] at N; cases N
   refine ⟨Heap.off s' O,Xj _ _,fL (Xe (t _ _ H) Q) (j:=5) rfl (fS (F h12) rfl ⟨?_,fL (F hv) (j:=5) rfl (hs.fS (fun b e h=>F (u b e h)) (fun _=>rfl) (by omega) rfl z (j:=0) (f:=Qj.Name) (fun _=>rfl) fun y3 G=>⟨?_,?_⟩)⟩)⟩
   ·rw [hx]; exact cat1 hn
   ·rw [hc] at G
    rw [hx,G.1.1]; exact cat2 hn (by omega)
   rw [hc] at G
   rw [hx,G.1.1]
   refine W.lit J (x:=(⟨dotS m.n c.n,r⟩:Qj)) (v:=⟨dotS m.n c.n,S⟩) (fun _=>rfl) (by omega) hR rfl (Qwf _) ⟨⟨rfl,Qj5 hn (by omega)⟩,(a0.is (fun _=>rfl) (by omega) (fun h N=>FdIs.le h N) (by omega)).le R fun _ _ _ h=>FdIs.le R h⟩ (by omega) (by omega) (Heap.le.refl _) fun r2 D4 Z h4 c1=>?_
   have a1:=h4 _ _ (Xe (t _ _ H) Q)
   refine ⟨_,a1,by simp [Qd.c],?_⟩
   rw [Qu (by omega) (by omega)]
   have U:(H0.del d).le D4:=fun b e H=>h4 b e (F H)
   exact ⟨⟨Xk U,i+1,l'++[⟨dotS m.n c.n,S⟩],r2,by omega,by omega,b0 _ hw,Z.put ht nA,Xa ..⟩,by first | omega | (dsimp only; omega)⟩
  ·unfold cnF; rw [B]
 ·have a5 : i = l.length := by have := Vc h; omega
  subst a5
  rw [Vl] at E
  exact k _ _ _ E K L H
variable {b12 b15:Nat} {B W H0:Heap} {q:Qa} {o:MoP} (hO:Out A B W H0 b15 q o) (h12:W b12=some (true,.row (Qa.c x))) {REST:HP} {EX:Nat→HP}
include hO h12
theorem dTypes {l:List TdP} (hs:TpL A x.Types l) (c2:∀ t ∈ l,tdOk t.e=true) (Z:o.ty.length+l.length≤1000000)
 (k:∀ D q' a,mpE (tdF T m) l=.ok a→Out A B W D b15 q' { o with ty:=o.ty++a }→REST D)
 (ke:∀ b D q' o' (y:Qd) p,Out A B W D b15 q' o'→W b=none→D b=some (true,.row (Qd.c y))→y.Pos=psP p→mpE (tdF T m) l=.error p→EX b D) :
 lp (α:=Int) 0 H0 (fun U J18 H19=>
 ldL H19 ((b12,0).1,(b12,0).2+2) fun x20=>
 ift (decide ((U:Int) < (Sl.len x20:Int)))
 (ldL H19 ((b12,0).1,(b12,0).2+2) fun x23=>
 ixa x23 U fun p25=>
 ldT H19 Qd.c (p25.1,p25.2+(U:Int).toNat*6) fun x30=>
 nw (Qd.c Qd.zero) (fun b32 H33=>
 stT (b32,0) (Qd.c x30) (fun H34=>
 jn (α:=Nat×Nat) (fun x36 H37=>
 lp (α:=Int) 0 H37 (fun E J81 H82=>
 ldL H82 ((b32,0).1,(b32,0).2+5) fun x83=>
 ift (decide ((E:Int) < (Sl.len x83:Int)))
 (ldL H82 ((b32,0).1,(b32,0).2+5) fun x86=>
 ixa x86 E fun p88=>
 ldL H82 ((p88.1,p88.2+(E:Int).toNat*2).1,(p88.1,p88.2+(E:Int).toNat*2).2+1) fun x93=>
 QbY C sl (pi:Int) x93 (fun r95 r96 H97=>
 ift (!r96)
 (EX b32 H97)
 (dr H97 fun Hs114=>
 ldL Hs114 (x36.1,x36.2+5) fun x116=>
 ldS Hs114 ((b12,0).1,(b12,0).2+0) fun x118=>
 catOk x118 ([46]:Str)∧
 ldL Hs114 ((b32,0).1,(b32,0).2+5) fun x121=>
 ixa x121 E fun p123=>
 ldS Hs114 ((p123.1,p123.2+(E:Int).toNat*2).1,(p123.1,p123.2+(E:Int).toNat*2).2+0) fun x128=>
 catOk (x118++([46]:Str)) x128∧
 nw ((Qj.c (⟨((x118++([46]:Str))++x128),r95⟩:Qj))++[]) (fun b132 H133=>
 Heap.le Hs114 H133∧
 apS (Qj.c Qj.zero) 40 x116 (Sl.of (some (b132,0)) 1 1) (fun r135 H136=>
 Heap.le Hs114 H136∧
 st (x36.1,x36.2+5) (slv r135) (fun H137=>
 J81 (w .i64 (E+1)) H137) H136) H133) H97)) H82)
 (ldL H82 ((b15,0).1,(b15,0).2+2) fun x138=>
 ldT H82 Qd.c x36 fun x140=>
 apd (Qd.c Qd.zero) 88 x138 ((Qd.c x140)++[]) 1 (fun r142 H143=>
 st ((b15,0).1,(b15,0).2+2) (slv r142) (fun H144=>
 J18 (w .i64 (U+1)) H144) H143) H82)))
 (fun J35=>dr H34 fun Hs39=>
 ldT Hs39 Qk.c ((b32,0).1,(b32,0).2+0) fun x41=>
 ldB Hs39 ((b32,0).1,(b32,0).2+2) fun x43=>
 ldS Hs39 ((b12,0).1,(b12,0).2+0) fun x45=>
 catOk x45 ([46]:Str)∧
 ldS Hs39 ((b32,0).1,(b32,0).2+3) fun x48=>
 catOk (x45++([46]:Str)) x48∧
 ldL Hs39 ((b32,0).1,(b32,0).2+4) fun x51=>
 (nw ([]) (fun b54 H55=>
 Heap.le Hs39 H55∧
 (apS ([sv []]) 16 (Sl.of (some (b54,0)) 0 0) x51 (fun r57 H58=>
 Heap.le Hs39 H58∧
 nw (Qd.c Qd.zero) (fun b60 H61=>
 Heap.le Hs39 H61∧
 stT (b60,0) (Qd.c (⟨x41,x43,((x45++([46]:Str))++x48),r57,Sl.nil⟩:Qd)) (fun H62=>
 J35 (b60,0) H62) H61) H58) H55)∧
 (nw (Qd.c Qd.zero) (fun b64 H65=>
 Heap.le Hs39 H65∧
 apS ([sv []]) 16 (Sl.of (some (b54,0)) 0 0) x51 (fun r67 H68=>
 Heap.le Hs39 H68∧
 stT (b64,0) (Qd.c (⟨x41,x43,((x45++([46]:Str))++x48),r67,Sl.nil⟩:Qd)) (fun H69=>
 J35 (b64,0) H69) H68) H65) H55)) H34)∧
 (nw (Qd.c Qd.zero) (fun b71 H72=>
 Heap.le Hs39 H72∧
 nw ([]) (fun b74 H75=>
 Heap.le Hs39 H75∧
 apS ([sv []]) 16 (Sl.of (some (b74,0)) 0 0) x51 (fun r77 H78=>
 Heap.le Hs39 H78∧
 stT (b71,0) (Qd.c (⟨x41,x43,((x45++([46]:Str))++x48),r77,Sl.nil⟩:Qd)) (fun H79=>
 J35 (b71,0) H79) H78) H75) H72) H34))) H33) H19)
 (REST H19)):=by
 have b2:=SlIs.len hs
 refine ⟨fun y D=>∃ (i:Nat) (a:List TdP) (q':Qa),y=(i:Int)∧i≤l.length∧mpE (tdF T m) (l.take i)=.ok a∧Out A B W D b15 q' { o with ty:=o.ty++a },fun y _=>l.length - y.toNat,⟨0,[],q,rfl,Nat.zero_le _,rfl,by rw [List.append_nil]; exact hO⟩,?_⟩
 clear hO
 rintro _ D ⟨i,a,q',rfl,b9,ha,hO⟩
 refine fL (hO.wle _ _ h12) (j:=2) rfl ?_
 rw [b2]
 have c1:=Qap ha
 rw [List.length_take,Nat.min_eq_left b9] at c1
 refine ift.of (fun h=>?_) (fun h=>?_)
 ·have O : i < l.length := by have := Vb h; omega
  refine fL (hO.wle _ _ h12) (j:=2) rfl (hs.ld hO.al (fun _=>rfl) (by omega) rfl O fun y hy=>?_)
  have a5:=c2 _ (Vg O)
  have b1:=fun q=>Qgi (e:=q) O ha
  have c4:=fun w=>Qeh (w:=w) O ha
  generalize l[i]=v at *
  obtain ⟨e1,e2,e3,e4,e5⟩:=hy
  unfold tdOk TdP.e at a5
  simp only [Ve,Vj,List.all_eq_true] at a5
  obtain ⟨⟨⟨⟨⟨t1,t2⟩,t3⟩,t4⟩,t5⟩,t6⟩:=a5
  have e0:=(QbL t1).1
  refine boxZ rfl fun b32 D1 c6 c5 G=>?_
  have d:=hO.up c5
  have a9:=hO.wle.none c6
  refine ⟨fun pt F=>∃ z r,pt=(z,0)∧D1.le (F.del z)∧F z=some (true,.row (Qd.c ⟨y.Pos,y.Pub,dotS m.n v.n,r,Sl.nil⟩))∧PR A D1 (F.del z) r v.ps,?_,?_⟩
  ·refine ⟨D1,Heap.le.refl _,fPs (x:=y.Pos) G rfl rfl (fB G (j:=2) rfl (fS (d.wle _ _ h12) rfl ⟨?_,fS G (j:=3) rfl ⟨?_,fL G (j:=4) rfl ?_⟩⟩))⟩
   ·rw [hx]; exact cat1 hn
   ·rw [hx,e3.1]; exact cat2 hn (by omega)
   rw [hx,e3.1]
   have b4:∀ {X:Heap} {be z:Nat} {J:HP},D1.le X→X be=some (true,.row [])→X z=some (true,.row (Qd.c Qd.zero))→be≠z→D1 be=none→D1 z=none→
    (∀ F,(∃ bt' r,(z,0)=(bt',0)∧D1.le (F.del bt')∧F bt' = some (true,.row (Qd.c ⟨y.Pos,y.Pub,dotS m.n v.n,r,Sl.nil⟩))∧PR A D1 (F.del bt') r v.ps)→J F)→
    apS ([sv []]) 16 (Sl.of (some (be,0)) 0 0) y.Params (fun r H68=>Heap.le D1 H68∧stT (z,0) (Qd.c (⟨y.Pos,y.Pub,(m.n++([46]:Str))++v.n,r,Sl.nil⟩:Qd)) (fun H69=>J H69) H68) X:=by
    intro X be z J K ge gt ne c7 b3 kJ
    have g:D1.le (X.del be):=Xo K c7
    refine apS0 e4.1 (d.al.trans K) ge (by omega) fun r D2 u hP=>⟨g.trans u,?_⟩
    have b6:=u _ _ (show (X.del be) z=_ by rw [Xd _ ne.symm]; exact gt)
    refine stAll b6 rfl (kJ _ ⟨z,r,rfl,Xo (QP (g.trans u) b3) b3,Xa ..,hP g fun p e hp hf he=>?_⟩)
    have:p.1≠z:=fun e'=>by rw [e',Xd _ ne.symm,gt] at hf; cases hf
    rw [Xd _ this,Xb _ _ _ this]; exact he
   refine ⟨fun b54 H=>⟨Xc H,?_,fun b64 Q=>?_⟩,fun b71 R=>⟨Xc R,fun b74 S=>?_⟩⟩
   ·have K:D1.le (D1.put b54 (.row [])):=Xc H
    have g:D1.le ((D1.put b54 (.row [])).del b54):=Xo K H
    refine apS0 e4.1 (d.al.trans K) (Xa ..) (by omega) fun r D2 u hP=>⟨g.trans u,fun b60 P=>⟨(g.trans u).trans (Xc P),nwT rfl ⟨b60,r,rfl,?_,Xa ..,hP g fun p e hp hf he=>?_⟩⟩⟩
    ·exact Xo (QP (g.trans u) ((g.trans u).none P)) ((g.trans u).none P)
    ·have : p.1 ≠ b60 := fun e' => by rw [e', P] at he; cases he
     rw [Xd _ this,Xb _ _ _ this]; exact he
   ·have ne : b54 ≠ b64 := fun e => by rw [← e, Xa] at Q; cases Q
    have K:D1.le ((D1.put b54 (.row [])).put b64 (.row (Qd.c Qd.zero))):=(Xc H).trans (Xc Q)
    exact ⟨K,b4 K (by rw [Xb _ _ _ ne]; exact Xa ..) (Xa ..) ne H ((Xc H).none Q) fun F h=>h⟩
   ·have ne : b74 ≠ b71 := fun e => by rw [e, Xa] at S; cases S
    have K:D1.le ((D1.put b71 (.row (Qd.c Qd.zero))).put b74 (.row [])):=(Xc R).trans (Xc S)
    exact ⟨K,b4 K (Xa ..) (by rw [Xb _ _ _ ne.symm]; exact Xa ..) ne ((Xc R).none S) R fun F h=>h⟩
  ·rintro _ F0 ⟨z,r,rfl,f,hF,hP⟩
   refine dCons hp hpi hm hg hn hx (y:=y) (y1:=⟨y.Pos,y.Pub,dotS m.n v.n,r,Sl.nil⟩) (d.al.trans f) (f _ _ (d.wle _ _ h12)) (f _ _ G) hF rfl e5 t6 (by omega) (fun D' cs s' N I a7 b7=>?_) (fun D' I N=>ke b32 D' _ _ y v.p (d.up (f.trans I)) a9 ((f.trans I) _ _ G) e1 (b1 _ ?_))
   ·have hO':=d.up (f.trans I)
    have d2:=QfP N
    have hw:tdF T m v=.ok ⟨v.p,v.b,dotS m.n v.n,v.ps,cs⟩:=by unfold tdF; rw [N]
    have n1:D1 z=none:=by
     cases h:D1 z with
     | none=>rfl
     | some e=>have:=f _ _ h; rw [Xg] at this; cases this
    refine fL hO'.at_ (j:=2) rfl (bxT (c:=Qd.c) b7 ?_)
    rw [List.append_nil]
    have a1:(Heap.nw A D1 (F0.del z)).le (offB (blks q') (Heap.nw A B D')):=(QlW d.ab d.dom fun b Z=>⟨d.has b Z,d.xA b Z⟩).trans (QdT I)
    have a0:∀ b,F0 b=none→B b=none:=fun b Z=>d.dom b ((f.trans (Xf _ _)).none Z)
    have L:(Heap.nw A F0 D').le (offB (blks q') (Heap.nw A B D')):=QlW d.ab a0 fun b Z=>⟨by
     obtain ⟨e,he⟩:=d.has b Z
     exact ⟨e,Xf _ _ _ _ (f _ _ he)⟩,d.xA b Z⟩
    have a8:∀ {X Y:Heap} {v:CnV} {x:Qj},X.le Y→CnIs X v x→CnIs Y v x:=fun h h'=>CnIs.le h h'
    refine hO'.addTd (v:=⟨v.p,v.b,dotS m.n v.n,v.ps,cs⟩) (x:=⟨y.Pos,y.Pub,dotS m.n v.n,r,s'⟩) ⟨⟨e1,e2,⟨rfl,Qj5 hn (by omega)⟩,⟨StL.le a1 hP.1,hP.2.2⟩,?_⟩,(hP.2.1.le a1).base d.dom,(a7.ow.le L).base a0⟩ (by simp only [Va]; omega) fun r D3 _ c3=>c3 fun D4 M=>?_
    ·exact (a7.is (fun _=>rfl) (by omega) a8 (by omega)).le L fun _ _ _ h=>a8 L h
    ·rw [Qu (by omega) (by omega)]
     have M:Out A B W D4 b15 _ { o with ty:=(o.ty++a)++[⟨v.p,v.b,dotS m.n v.n,v.ps,cs⟩] }:=M
     rw [List.append_assoc] at M
     exact ⟨⟨i+1,a++[⟨v.p,v.b,dotS m.n v.n,v.ps,cs⟩],_,by omega,by omega,c4 _ hw,M⟩,by first | omega | (dsimp only; omega)⟩
   ·unfold tdF; rw [N]
 ·have c0 : i = l.length := by have := Vc h; omega
  subst c0
  rw [Vl] at ha
  exact k _ _ _ ha hO
theorem dRels {l:List RdP} (hs:RpL A x.Rels l) (a1:∀ t ∈ l,rdOk t.e=true) (S:o.re.length+l.length≤1000000)
 (k:∀ D q' a,mpE (rdF T m) l=.ok a→Out A B W D b15 q' { o with re:=o.re++a }→REST D)
 (ke:∀ b D q' o' (y:Qh) p,Out A B W D b15 q' o'→W b=none→D b=some (true,.row (Qh.c y))→y.Pos=psP p→mpE (rdF T m) l=.error p→EX b D) :
 lp (α:=Int) 0 H0 (fun z J146 H147=>
 ldL H147 ((b12,0).1,(b12,0).2+3) fun x148=>
 ift (decide ((z:Int) < (Sl.len x148:Int)))
 (ldL H147 ((b12,0).1,(b12,0).2+3) fun x151=>
 ixa x151 z fun p153=>
 ldT H147 Qh.c (p153.1,p153.2+(z:Int).toNat*6) fun x158=>
 nw (Qh.c Qh.zero) (fun b160 H161=>
 stT (b160,0) (Qh.c x158) (fun H162=>
 ldL H162 ((b160,0).1,(b160,0).2+5) fun x163=>
 QbY C sl (pi:Int) x163 (fun r165 r166 H167=>
 ift (!r166)
 (EX b160 H167)
 (ldS H167 ((b12,0).1,(b12,0).2+0) fun x184=>
 catOk x184 ([46]:Str)∧
 ldS H167 ((b160,0).1,(b160,0).2+4) fun x187=>
 catOk (x184++([46]:Str)) x187∧
 st ((b160,0).1,(b160,0).2+4) (sv ((x184++([46]:Str))++x187)) (fun H190=>
 st ((b160,0).1,(b160,0).2+5) (slv r165) (fun H191=>
 ldL H191 ((b15,0).1,(b15,0).2+3) fun x192=>
 ldT H191 Qh.c (b160,0) fun x194=>
 apd (Qh.c Qh.zero) 64 x192 ((Qh.c x194)++[]) 1 (fun r196 H197=>
 st ((b15,0).1,(b15,0).2+3) (slv r196) (fun H198=>
 J146 (w .i64 (z+1)) H198) H197) H191) H190) H167)) H162) H161) H147)
 (REST H147)):=by
 have P:=SlIs.len hs
 refine ⟨fun y D=>∃ (i:Nat) (a:List RdP) (q':Qa),y=(i:Int)∧i≤l.length∧mpE (rdF T m) (l.take i)=.ok a∧Out A B W D b15 q' { o with re:=o.re++a },fun y _=>l.length - y.toNat,⟨0,[],q,rfl,Nat.zero_le _,rfl,by rw [List.append_nil]; exact hO⟩,?_⟩
 clear hO
 rintro _ D ⟨i,a,q',rfl,Y,N,hO⟩
 refine fL (hO.wle _ _ h12) (j:=3) rfl ?_
 rw [P]
 have a0:=Qap N
 rw [List.length_take,Nat.min_eq_left Y] at a0
 refine ift.of (fun h=>?_) (fun h=>?_)
 ·have I : i < l.length := by have := Vb h; omega
  refine fL (hO.wle _ _ h12) (j:=3) rfl (hs.ld hO.al (fun _=>rfl) (by omega) rfl I fun y hy=>?_)
  have J:=a1 _ (Vg I)
  have O:=fun q=>Qgi (e:=q) I N
  have a3:=fun w=>Qeh (w:=w) I N
  generalize l[i]=v at *
  obtain ⟨e1,e2,e3,e4,e5⟩:=hy
  unfold rdOk RdP.e at J
  rw [Ve] at J
  obtain ⟨U,X⟩:=QlT J.2
  have b4:v.n.length≤32:=(QbL J.1).1
  refine boxZ rfl fun d D1 L Q E=>fL E (j:=5) rfl ?_
  have f:=hO.up Q
  refine QsW hp hpi hm hg hn X U f.al e5 (fun r D2 R u H M=>Qaw rfl ?_) (fun D2 u H=>QaK rfl (ke d D2 _ _ y v.p (f.up u) (hO.wle.none L) (u _ _ E) e1 (O _ ?_)))
  ·have a6:=QfP H
   have hw:rdF T m v=.ok ⟨v.p,v.b,v.i,dotS m.n v.n,R⟩:=by unfold rdF; rw [H]
   refine fS ((f.up u).wle _ _ h12) rfl ⟨?_,fS (u _ _ E) (j:=4) rfl ⟨?_,?_⟩⟩
   ·rw [hx]; exact cat1 hn
   ·rw [hx,e4.1]; exact cat2 hn (by omega)
   rw [hx,e4.1]
   refine ⟨_,u _ _ E,by simp [Qh.c],_,Xa ..,by simp [Qh.c],?_⟩
   rw [Xh]
   have hO':=hO.up (QP (m:=true) (g:=.row (Qh.c { y with Name:=dotS m.n v.n,Fields:=r })) (Q.trans u) L)
   have hb':(D2.put d (.row (Qh.c { y with Name:=dotS m.n v.n,Fields:=r }))) d=some (true,.row (Qh.c { y with Name:=dotS m.n v.n,Fields:=r })):=Xa ..
   have K:(Heap.nw A D1 D2).le (offB (blks q') (Heap.nw A B (D2.put d (.row (Qh.c { y with Name:=dotS m.n v.n,Fields:=r }))))):=Qi4 f.ab f.dom (fun b S=>⟨f.has b S,f.xA b S⟩) E (hO.al.none L)
   rw [show Heap.put D2 ((d,0).1,(d,0).2+4).1 (GO.row (List.set (List.set (Qh.c y) ((d,0).1,(d,0).2+4).2 (sv (m.n++[46]++v.n))) ((d,0).1,(d,0).2+5).2 (slv r)))=D2.put d (.row (Qh.c { y with Name:=dotS m.n v.n,Fields:=r })) from rfl]
   generalize D2.put d (.row (Qh.c { y with Name:=dotS m.n v.n,Fields:=r }))=G at *
   refine fL hO'.at_ (j:=3) rfl (bxT (c:=Qh.c) hb' ?_)
   rw [List.append_nil]
   refine hO'.addRd (v:=⟨v.p,v.b,v.i,dotS m.n v.n,R⟩) ⟨⟨e1,e2,e3,⟨rfl,Qj5 hn (by omega)⟩,?_⟩,(M.ow.le K).base f.dom⟩ (by simp only [Va]; omega) fun r D3 _ a2=>a2 fun D4 F=>?_
   ·exact (M.is (fun _=>rfl) (by omega) (fun h h'=>FdIs.le h h') (by omega)).le K fun _ _ _ h=>FdIs.le K h
   ·rw [Qu (by omega) (by omega)]
    have F:Out A B W D4 b15 _ { o with re:=(o.re++a)++[⟨v.p,v.b,v.i,dotS m.n v.n,R⟩] }:=F
    rw [List.append_assoc] at F
    exact ⟨⟨i+1,a++[⟨v.p,v.b,v.i,dotS m.n v.n,R⟩],_,by omega,by omega,a3 _ hw,F⟩,by first | omega | (dsimp only; omega)⟩
  ·unfold rdF; rw [H]
 ·have Z : i = l.length := by have := Vc h; omega
  subst Z
  rw [Vl] at N
  exact k _ _ _ N hO
theorem dRules {l:List RuP} (hs:UpL A x.Rules l) (Z:∀ t ∈ l,ruOk t.e=true∧t.b.length≤12) (S:o.ru.length+l.length≤1000000)
 (k:∀ D q' a,mpE (ruF T m) l=.ok a→Out A B W D b15 q' { o with ru:=o.ru++a }→REST D)
 (ke:∀ b D q' o' p,Out A B W D b15 q' o'→W b=none→D b=some (true,.row (Qb.c (fltD m.n p 63)))→mpE (ruF T m) l=.error p→EX b D) :
 lp (α:=Int) 0 H0 (fun d J200 H201=>
 ldL H201 ((b12,0).1,(b12,0).2+4) fun x202=>
 ift (decide ((d:Int) < (Sl.len x202:Int)))
 (ldL H201 ((b12,0).1,(b12,0).2+4) fun x205=>
 ixa x205 d fun p207=>
 ldT H201 Qi.c (p207.1,p207.2+(d:Int).toNat*6) fun x212=>
 Qhg C sl (pi:Int) x212 (fun r214 r215 H216=>
 nw (Qi.c Qi.zero) (fun b217 H218=>
 nw (Qb.c Qb.zero) (fun b219 H220=>
 stT (b217,0) (Qi.c r214) (fun H221=>
 stT (b219,0) (Qb.c r215) (fun H222=>
 ldI H222 .i64 ((b219,0).1,(b219,0).2+3) fun N=>
 ift ((N:Int) != 0)
 (EX b219 H222)
 (ldL H222 ((b15,0).1,(b15,0).2+4) fun x239=>
 ldT H222 Qi.c (b217,0) fun x241=>
 apd (Qi.c Qi.zero) 104 x239 ((Qi.c x241)++[]) 1 (fun r243 H244=>
 st ((b15,0).1,(b15,0).2+4) (slv r243) (fun H245=>
 J200 (w .i64 (d+1)) H245) H244) H222)) H221) H220) H218) H216) H201)
 (REST H201)):=by
 have L:=SlIs.len hs
 refine ⟨fun y D=>∃ (i:Nat) (a:List RuP) (q':Qa),y=(i:Int)∧i≤l.length∧mpE (ruF T m) (l.take i)=.ok a∧Out A B W D b15 q' { o with ru:=o.ru++a },fun y _=>l.length - y.toNat,⟨0,[],q,rfl,Nat.zero_le _,rfl,by rw [List.append_nil]; exact hO⟩,?_⟩
 clear hO
 rintro _ D ⟨i,a,q',rfl,U,J,hO⟩
 refine fL (hO.wle _ _ h12) (j:=4) rfl ?_
 rw [L]
 have Y:=Qap J
 rw [List.length_take,Nat.min_eq_left U] at Y
 refine ift.of (fun h=>?_) (fun h=>?_)
 ·have z : i < l.length := by have := Vb h; omega
  refine fL (hO.wle _ _ h12) (j:=4) rfl (hs.ld hO.al (fun _=>rfl) (by omega) rfl z fun y hy=>?_)
  have F:=Z _ (Vg z)
  have K:=fun q=>Qgi (e:=q) z J
  have a2:=fun w=>Qeh (w:=w) z J
  generalize l[i]=v at *
  refine QvB hp hpi hm hg hn F.1 F.2 hO.al hy (fun r D2 v' g a3 P=>?_) (fun r D2 p g a0=>?_)
  ·refine dbox2 rfl rfl fun R G O Q a4 M ne H f => fI (j := 3) f rfl (Qaw rfl ?_)
   have I:=hO.up (g.trans Q)
   refine fL I.at_ (j:=4) rfl (bxT (c:=Qi.c) H ?_)
   rw [List.append_nil]
   have E:(Heap.nw A D D2).le (offB (blks q') (Heap.nw A B O)):=(QlW hO.ab hO.dom fun b S=>⟨hO.has b S,hO.xA b S⟩).trans (QdT Q)
   refine I.addUd (v:=v') ⟨UpIs.le E P.1,(P.2.1.le E).base hO.dom,(P.2.2.1.le E).base hO.dom,(P.2.2.2.le E).base hO.dom⟩ (by simp only [Va]; omega) fun r O _ a1=>a1 fun D4 u=>?_
   rw [Qu (by omega) (by omega)]
   have u:Out A B W D4 b15 _ { o with ru:=(o.ru++a)++[v'] }:=u
   rw [List.append_assoc] at u
   exact ⟨⟨i+1,a++[v'],_,by omega,by omega,a2 _ a3,u⟩,by first | omega | (dsimp only; omega)⟩
  ·exact dbox2 rfl rfl fun R G O Q a4 M ne H f=>fI (j:=3) f rfl (QaK rfl (ke G O _ _ p (hO.up (g.trans Q)) ((hO.wle.trans g).none M) f (K _ a0)))
 ·have X : i = l.length := by have := Vc h; omega
  subst X
  rw [Vl] at J
  exact k _ _ _ J hO
theorem dNevers {l:List NeP} (hs:NpL A x.Nevers l) (a7:∀ t ∈ l,neOk t.e=true∧t.b.length≤12) (S:o.ne.length+l.length≤1000000)
 (k:∀ D q' a,mpE (neF T m) l=.ok a→Out A B W D b15 q' { o with ne:=o.ne++a }→REST D)
 (ke:∀ b D q' o' p,Out A B W D b15 q' o'→W b=none→D b=some (true,.row (Qb.c (fltD m.n p 63)))→mpE (neF T m) l=.error p→EX b D) :
 lp (α:=Int) 0 H0 (fun g J247 H248=>
 ldL H248 ((b12,0).1,(b12,0).2+5) fun x249=>
 ift (decide ((g:Int) < (Sl.len x249:Int)))
 (ldL H248 ((b12,0).1,(b12,0).2+5) fun x252=>
 ixa x252 g fun p254=>
 ldL H248 ((p254.1,p254.2+(g:Int).toNat*4).1,(p254.1,p254.2+(g:Int).toNat*4).2+3) fun x259=>
 QfX C sl (pi:Int) x259 (fun r261 r262 H263=>
 nw (Qb.c Qb.zero) (fun b264 H265=>
 stT (b264,0) (Qb.c r262) (fun H266=>
 ldI H266 .i64 ((b264,0).1,(b264,0).2+3) fun a0=>
 ift ((a0:Int) != 0)
 (EX b264 H266)
 (dr H266 fun Hs283=>
 ldL Hs283 ((b15,0).1,(b15,0).2+5) fun x285=>
 ldL Hs283 ((b12,0).1,(b12,0).2+5) fun x287=>
 ixa x287 g fun p289=>
 ldT Hs283 Qk.c ((p289.1,p289.2+(g:Int).toNat*4).1,(p289.1,p289.2+(g:Int).toNat*4).2+0) fun x294=>
 ldS Hs283 ((b12,0).1,(b12,0).2+0) fun x296=>
 catOk x296 ([46]:Str)∧
 ldL Hs283 ((b12,0).1,(b12,0).2+5) fun x299=>
 ixa x299 g fun p301=>
 ldS Hs283 ((p301.1,p301.2+(g:Int).toNat*4).1,(p301.1,p301.2+(g:Int).toNat*4).2+2) fun x306=>
 catOk (x296++([46]:Str)) x306∧
 nw ((Qo.c (⟨x294,((x296++([46]:Str))++x306),r261⟩:Qo))++[]) (fun b310 H311=>
 Heap.le Hs283 H311∧
 apS (Qo.c Qo.zero) 56 x285 (Sl.of (some (b310,0)) 1 1) (fun r313 H314=>
 Heap.le Hs283 H314∧
 st ((b15,0).1,(b15,0).2+5) (slv r313) (fun H315=>
 J247 (w .i64 (g+1)) H315) H314) H311) H266)) H265) H263) H248)
 (REST H248)):=by
 have X:=SlIs.len hs
 refine ⟨fun y D=>∃ (i:Nat) (a:List NeP) (q':Qa),y=(i:Int)∧i≤l.length∧mpE (neF T m) (l.take i)=.ok a∧Out A B W D b15 q' { o with ne:=o.ne++a },fun y _=>l.length - y.toNat,⟨0,[],q,rfl,Nat.zero_le _,rfl,by rw [List.append_nil]; exact hO⟩,?_⟩
 clear hO
 rintro _ D ⟨i,a,q',rfl,a4,R,hO⟩
 refine fL (hO.wle _ _ h12) (j:=5) rfl ?_
 rw [X]
 have a6:=Qap R
 rw [List.length_take,Nat.min_eq_left a4] at a6
 refine ift.of (fun h=>?_) (fun h=>?_)
 ·have u : i < l.length := by have := Vb h; omega
  refine fL (hO.wle _ _ h12) (j:=5) rfl (hs.fL hO.al (fun _=>rfl) (by omega) rfl u (j:=3) (f:=Qo.Body) (fun _=>rfl) fun y hy=>?_)
  have z:=a7 _ (Vg u)
  have U:=fun q=>Qgi (e:=q) u R
  have a9:=fun w=>Qeh (w:=w) u R
  generalize hc:l[i]=v at *
  obtain ⟨e1,e4,e5⟩:=hy
  obtain ⟨z,b8⟩:=z
  unfold neOk NeP.e at z
  simp only [Ve,Vj,List.all_map,List.all_eq_true,Function.comp_def] at z
  have c0:=(QbL z.1.1).1
  refine QsU hp hpi hm hg hn z.2 (by omega) hO.al e5 (fun r D2 fl F I a3=>?_) (fun r D2 q F I=>boxZ rfl fun P M Z L E=>fI (j:=3) E rfl (QaK rfl (ke P M _ _ q (hO.up (F.trans L)) ((hO.wle.trans F).none Z) E (U _ ?_))))
  ·refine boxZ rfl fun P M Z L E => fI (j := 3) E rfl (Qaw rfl ?_)
   have b1:=Qap I
   have hw:neF T m v=.ok ⟨v.p,dotS m.n v.n,fl⟩:=by unfold neF; rw [I]
   have O:=hO.up (F.trans L)
   have K:(Heap.nw A D D2).le (offB (blks q') (Heap.nw A B M)):=(QlW hO.ab hO.dom fun b S=>⟨hO.has b S,hO.xA b S⟩).trans (QdT L)
   have N:∀ {b:Nat} {e:Bool×GO},b ∉ blks q'→M b=some e→(Heap.off q'.Nevers M) b=some e:=fun {b e} S he=>Xe he fun p hp e'=>S (Vh _ (Vh _ (Vh _ (Qgn.2 ⟨p,hp,e'⟩))))
   have H:∀ {b:Nat} {e:Bool×GO},W b=some e→(Heap.off q'.Nevers M) b=some e:=fun {b e} h=>N (fun hm=>by rw [(hO.fr _ hm).2] at h; cases h) (O.wle _ _ h)
   have Q:A.le (Heap.off q'.Nevers M):=fun b e h=>H (hO.aw b e h)
   refine ⟨Heap.off q'.Nevers M,Xj _ _,fL (N hO.bx O.at_) (j:=5) rfl (fL (H h12) (j:=5) rfl (hs.fT Q (fun _=>rfl) (by omega) rfl u (j:=0) (d:=Qk.c) (f:=Qo.Pos) (fun y n v h=>by match n,h with | 0,h=>exact h | 1,h=>exact h) fun y2 Y=>fS (H h12) rfl ⟨?_,fL (H h12) (j:=5) rfl (hs.fS Q (fun _=>rfl) (by omega) rfl u (j:=2) (f:=Qo.Name) (fun _=>rfl) fun y3 J=>⟨?_,?_⟩)⟩))⟩
   ·rw [hx]; exact cat1 hn
   ·rw [hc] at J
    rw [hx,J.2.1.1]; exact cat2 hn (by omega)
   rw [hc] at Y J
   rw [hx,J.2.1.1]
   refine QrP (Heap.le.refl _) (QuM _) fun D4 l4 h4=>(O.up l4).addNd (x:=⟨y2.Pos,dotS m.n v.n,r⟩) (v:=⟨v.p,dotS m.n v.n,fl⟩) ⟨Y.1,⟨rfl,Qj5 hn (by omega)⟩,?_⟩ (by simp only [Va]; omega) fun r D5 hle a8=>⟨h4.trans hle,a8 fun D6 G=>?_⟩
   ·have K:=K.trans (QdT l4)
    exact (a3.is (fun _=>rfl) (by omega) (fun h h'=>LpIs.le h h') (by omega)).le K fun _ _ _ h=>LpIs.le K h
   ·rw [Qu (by omega) (by omega)]
    have G:Out A B W D6 b15 _ { o with ne:=(o.ne++a)++[⟨v.p,dotS m.n v.n,fl⟩] }:=G
    rw [List.append_assoc] at G
    exact ⟨⟨i+1,a++[⟨v.p,dotS m.n v.n,fl⟩],_,by omega,by omega,a9 _ hw,G⟩,by first | omega | (dsimp only; omega)⟩
  ·unfold neF; rw [I]
 ·have a5 : i = l.length := by have := Vc h; omega
  subst a5
  rw [Vl] at R
  exact k _ _ _ R hO
end
end
section
open Go Go.Proofs
def Mo4 (B A:Heap) (o:MoP) (q:Qa):Prop:=SlIs (TpO B A) Qd.c A q.Types o.ty∧SlIs (RpO B A) Qh.c A q.Rels o.re∧SlIs (UpO B A) Qi.c A q.Rules o.ru∧NpL A q.Nevers o.ne
theorem TpO.base {B d Z:Heap} {v x} (h:TpO B Z v x) (f:∀ b,B b=none→d b=none):TpO d Z v x:=⟨h.1,h.2.1.base f,h.2.2.base f⟩
theorem RpO.base {B d Z:Heap} {v x} (h:RpO B Z v x) (f:∀ b,B b=none→d b=none):RpO d Z v x:=⟨h.1,h.2.base f⟩
theorem UpO.base {B f Z:Heap} {v x} (h:UpO B Z v x) (d:∀ b,B b=none→f b=none):UpO f Z v x:=⟨h.1,h.2.1.base d,h.2.2.1.base d,h.2.2.2.base d⟩
theorem Mo4.le {B f A Z:Heap} {o:MoP} {q:Qa} (h:Mo4 B A o q) (hle:A.le Z) (d:∀ b,B b=none→f b=none):Mo4 f Z o q:=
 ⟨h.1.le hle fun _ _ _ h=>(TpO.le hle h).base d,h.2.1.le hle fun _ _ _ h=>(RpO.le hle h).base d,h.2.2.1.le hle fun _ _ _ h=>(UpO.le hle h).base d,h.2.2.2.le hle fun _ _ _ h=>NpIs.le hle h⟩
def mo0:MoP:=⟨[],[],[],[],[],[]⟩
section
variable {C:Ctx} {A B W D H:Heap}
theorem Out.mo4 {bo:Nat} {q:Qa} {o:MoP} (h:Out A B W D bo q o) (j:o.ty.length≤1000000) (m:o.re.length≤1000000) (r:o.ru.length≤1000000) (t:o.ne.length≤1000000):Mo4 B (Heap.nw A B D) o q:=by
 have g:(offB (blks q) (Heap.nw A B D)).le (Heap.nw A B D):=Qi5 _ _
 have f:∀ b ∈ blks q,B b=none:=fun b d=>(h.fr b d).1
 exact ⟨h.gt.is (fun b d => f b (Vi _ d)) g (fun _ => rfl) (by omega) TpO.le (by omega), h.gr.is (fun b d => f b (Vh _ (Vi _ d))) g (fun _ => rfl) (by omega) RpO.le (by omega),
  h.gu.is (fun b d=>f b (Vh _ (Vh _ (Vi _ d)))) g (fun _=>rfl) (by omega) UpO.le (by omega),h.gn.is (fun b d=>f b (Vh _ (Vh _ (Vh _ d)))) g (fun _=>rfl) (by omega) (fun h i=>NpIs.le h i) (by omega)⟩
theorem QvD {T:Tl} {pl:List MoP} {pi:Nat} {m:MoP} {sl:Sl} (hp:MpL A sl pl) (hpi:pi < pl.length) (hm:pl[pi]=m) (hg:Ag pl pi m T) (Q:MoG m)
 {K:Qa→Qb→HP} (hA:A.le H)
 (k:∀ q D o,H.le D→usedF T mo0 m=.ok o→Mo4 H (Heap.nw A H D) o q→K q goodD D) (ke:∀ q D p,H.le D→usedF T mo0 m=.error p→K q (fltD m.n p 63) D):QjV C sl (pi:Int) K H:=by
 have hn:m.n.length≤1000:=Nat.le_trans Q.n (by omega)
 apply Qqz
 unfold QmO
 refine box1N fun u H2 n1 _ l1 h1=>box1N fun b3 H4 n3 _ l3 h3=>hp.ld (hA.trans (l1.trans l3)) (fun _=>rfl) (by omega) rfl hpi fun x hx=>?_
 rw [hm] at hx
 obtain ⟨m1,m2,m3,m4,m5,m6⟩:=hx
 refine boxZ rfl fun b12 g S Z h12=>box1N fun b15 M a1 _ a0 a4=>?_
 have q1:H u=none:=n1
 have q3:H b3=none:=l1.none n3
 have N:u≠b3:=fun e=>by rw [← e,h1] at n3; cases n3
 have a8:b12≠u:=fun e=>by rw [e,l3 _ _ h1] at S; cases S
 have a9:b12≠b3:=fun e=>by rw [e,h3] at S; cases S
 have O:g u=some (true,.row (Qa.c Qa.zero)):=Z _ _ (l3 _ _ h1)
 have P:g b3=some (true,.row (Qb.c Qb.zero)):=Z _ _ h3
 have r:H.le g:=l1.trans (l3.trans Z)
 have I:=r.trans a0
 have hO:Out A M g M b15 Qa.zero mo0:=⟨fun _ h=>h,hA.trans I,hA.trans r,a0,a4,⟨_,a4⟩,a1,List.nodup_nil,(fun b j=>by cases j),⟨rfl,rfl,rfl⟩,Gq.nil,Gq.nil,Gq.nil,Gq.nil⟩
 have z:∀ {b e},g b=some e→b15≠b:=fun h e'=>by rw [e',h] at a1; cases a1
 have a3:∀ {b D q o} {cs:List Value} {y:Qk} {p:Pl},Out A M g D b15 q o→g b=none→D b=some (true,.row cs)→cs[0]? = some (.int .i64 y.Line)→cs[1]? = some (.int .i64 y.Col)→y=psP p→usedF T mo0 m=.error p→
  dr D fun i=>ldT i Qa.c (b15,0) fun b0=>ldS i ((b12,0).1,(b12,0).2+0) fun b2=>ldT i Qk.c ((b,0).1,(b,0).2+0) fun b4=>stT (u,0) (Qa.c b0) (fun U=>Heap.le i U∧stT (b3,0) (Qb.c (⟨(⟨b2,b4⟩:Qc),63⟩:Qb)) (fun B=>ldT B Qa.c (u,0) fun b5=>ldT B Qb.c (b3,0) fun b6=>K b5 b6 B) U) D:=by
  intro b D q o cs y p f j hD d1 d2 hy L
  have nb:∀ {X e},g X=some e→b≠X:=fun h e'=>by rw [e',h] at j; cases j
  refine ⟨wo2 u b3 D,QcJ,bxT (c:=Qa.c) (by rw [Qcg (z O) (z P)]; exact f.at_) (fS (by rw [Qcg a8 a9]; exact f.wle _ _ h12) rfl (fPs (x:=y) (by rw [Qcg (nb O) (nb P)]; exact hD) d1 d2 ?_))⟩
  subst hy
  rw [m1.1]
  exact fin2 (f.wle _ _ O) rfl (f.wle _ _ P) rfl N QcJ (by simp [wo2]) fun E hE=>ke _ _ _ (QgL (r.trans f.wle) q1 q3 hE) L
 have exF:∀ {b D q o} {p:Pl},Out A M g D b15 q o→g b=none→D b=some (true,.row (Qb.c (fltD m.n p 63)))→usedF T mo0 m=.error p→
  dr D fun t=>ldT t Qa.c (b15,0) fun b7=>ldT t Qb.c (b,0) fun b8=>stT (u,0) (Qa.c b7) (fun W=>Heap.le t W∧stT (b3,0) (Qb.c b8) (fun F=>ldT F Qa.c (u,0) fun b9=>ldT F Qb.c (b3,0) fun c0=>K b9 c0 F) W) D:=by
  intro b D q o p f j hD L
  have nb:∀ {X e},g X=some e→b≠X:=fun h e'=>by rw [e',h] at j; cases j
  refine ⟨wo2 u b3 D,QcJ,bxT (c:=Qa.c) (by rw [Qcg (z O) (z P)]; exact f.at_) (bxT (c:=Qb.c) (by rw [Qcg (nb O) (nb P)]; exact hD) ?_)⟩
  exact fin2 (f.wle _ _ O) rfl (f.wle _ _ P) rfl N QcJ (by simp [wo2]) fun E hE=>ke _ _ _ (QgL (r.trans f.wle) q1 q3 hE) L
 have lt:=Q.lt
 have lr:=Q.lr
 have lu:=Q.lu
 have ln:=Q.ln
 refine dTypes hp hpi hm hg hn m1.1 hO h12 m3 Q.ty (by simp only [mo0,Vk]; omega) (fun D1 e6 a ha c7=>?_) (fun b D q o y p f Y j hy L=>a3 f Y j rfl rfl hy (by unfold usedF; rw [L]))
 have la:=Qap ha
 refine dRels hp hpi hm hg hn m1.1 c7 h12 m4 Q.re (by simp only [mo0,Vk]; omega) (fun D2 q2 b R c8=>?_) (fun b D q o y p f Y j hy L=>a3 f Y j rfl rfl hy (by unfold usedF; rw [ha]; dsimp only; rw [L]))
 have lb:=Qap R
 refine dRules hp hpi hm hg hn m1.1 c8 h12 m5 Q.ru (by simp only [mo0,Vk]; omega) (fun D3 e7 c hc c9=>?_) (fun X D q o p f Y j L=>exF f Y j (by unfold usedF; rw [ha]; dsimp only; rw [R]; dsimp only; rw [L]))
 have lc:=Qap hc
 refine dNevers hp hpi hm hg hn m1.1 c9 h12 m6 Q.ne (by simp only [mo0,Vk]; omega) (fun D4 q4 d hd J=>?_) (fun X D q o p f Y j L=>exF f Y j (by unfold usedF; rw [ha]; dsimp only; rw [R]; dsimp only; rw [hc]; dsimp only; rw [L]))
 have ld:=Qap hd
 have hw:usedF T mo0 m=.ok ⟨mo0.n,mo0.im,mo0.ty++a,mo0.re++b,mo0.ru++c,mo0.ne++d⟩:=by unfold usedF; rw [ha]; dsimp only; rw [R]; dsimp only; rw [hc]; dsimp only; rw [hd]
 have hR:=J.mo4 (by simp only [mo0,List.nil_append]; omega) (by simp only [mo0,List.nil_append]; omega) (by simp only [mo0,List.nil_append]; omega) (by simp only [mo0,List.nil_append]; omega)
 refine ⟨wo2 u b3 D4,QcJ,bxT (c:=Qa.c) (by rw [Qcg (z O) (z P)]; exact J.at_) ?_⟩
 refine Qmf fun D5 G=>⟨QcJ.trans G,stAll (G _ _ (J.wle _ _ O)) rfl (stAll (by rw [Xb _ _ _ N.symm]; exact G _ _ (J.wle _ _ P)) rfl (bxT (c:=Qa.c) (by rw [Xb _ _ _ N]; exact Xa ..) (bxT (c:=Qb.c) (Xa ..) ?_)))⟩
 have a6:∀ b,b≠u→b≠b3→((D5.put u (.row (Qa.c q4))).put b3 (.row (Qb.c goodD))) b=D5 b:=fun b h h'=>by rw [Xb _ _ _ h',Xb _ _ _ h]
 refine k _ _ _ (QgL ((r.trans J.wle).trans G) q1 q3 a6) hw (hR.le (QrQ hA (fun b j=>I.none j) fun b e z1 z2=>?_) fun b j=>I.none j)
 have z0:=a0.none z1
 rw [a6 b (fun e=>by rw [e,O] at z0; cases z0) fun e=>by rw [e,P] at z0; cases z0]
 exact G _ _ z2
end
end
section
open Go Go.Proofs
def conT:List Str→List CnV→Bool
 | _,[]=>false
 | cs,c::l=>cs.contains c.n || conT (cs++[c.n]) l
def tolTy:List TdP→List Str→List Str→Option (Pl×Int)
 | [],_,_=>none
 | t::l,ts,cs=>if (ts.contains t.n || !decide t.ps.Nodup || conT cs t.cs)=true then some (t.p,6) else if t.cs.any (fun c=>openF t.ps c.f)=true then some (t.p,63) else tolTy l (ts++[t.n]) (cs++t.cs.map CnV.n)
def tolRe:List RdP→List Str→Option (Pl×Int)
 | [],_=>none
 | x::l,rs=>if rs.contains x.n=true then some (x.p,6) else if openF [] x.f=true then some (x.p,63) else tolRe l (rs++[x.n])
def tolNe:List NeP→List Str→Option (Pl×Int)
 | [],_=>none
 | x::l,rs=>if rs.contains x.n=true then some (x.p,6) else tolNe l (rs++[x.n])
def tolF (m:MoP):Option (Pl×Int):=match tolTy m.ty [] [] with
 | some e=>some e
 | none => match tolRe m.re [] with
  | some e=>some e
  | none=>tolNe m.ne []
def telCs (m:Str) (b:Bool) (l:List CnV):Tl:=l.map fun c=>((m,c.n,1),b)
def telTy (m:Str) (l:List TdP):Tl:=l.flatMap fun t=>((m,t.n,0),t.b)::telCs m t.b t.cs
def telL (m:MoP):Tl:=telTy m.n m.ty++(m.re.map (fun x=>((m.n,x.n,2),x.b))++m.ne.map fun x=>((m.n,x.n,3),false))
def Tol (m:Str) (S:Tl) (k:Int) (l:List Str):Prop:=∀ s,(lkL (m,s,k) S).isSome=l.contains s
abbrev PwK (S:Tl):Prop:=S.Pairwise fun p q=>p.1≠q.1
section
variable {m:Str} {S:Tl} {b:Bool} {s:Str} {k k2:Int} {l:List Str}
theorem Tol.no (h:Tol m S k l) (b:l.contains s=false):lkL (m,s,k) S=none:=by
 have:=h s
 rw [b] at this
 cases hl:lkL (m,s,k) S with
 | none=>rfl
 | some x=>rw [hl] at this; cases this
theorem Tol.yes (h:Tol m S k l) (b:l.contains s=true):∃ x,lkL (m,s,k) S=some x:=by
 have:=h s
 rw [b] at this
 cases hl:lkL (m,s,k) S with
 | some x=>exact ⟨x,rfl⟩
 | none=>rw [hl] at this; cases this
theorem Tol.add (h:Tol m S k l) (f:l.contains s=false):Tol m (S++[((m,s,k),b)]) k (l++[s]):=fun t=>by
 rw [Qn3 (h.no f)]
 by_cases e:t=s
 ·subst e; simp
 ·rw [if_neg (fun d => e (congrArg (fun p : Ky => p.2.1) d)), h t]
  simp only [List.contains_eq_mem,List.mem_append,List.mem_singleton,e,or_false]
theorem Tol.other (h:Tol m S k l) (f:k≠k2) (hn:lkL (m,s,k2) S=none):Tol m (S++[((m,s,k2),b)]) k l:=fun t=>by
 rw [Qn3 hn,if_neg (fun d=>f (congrArg (fun p:Ky=>p.2.2) d))]; exact h t
theorem PwK.snoc {d:Ky} (h:PwK S) (hn:lkL d S=none):PwK (S++[(d,b)]):=by
 refine List.pairwise_append.2 ⟨h,List.pairwise_singleton ..,fun p hp q f=>?_⟩
 rw [List.mem_singleton.1 f]
 intro e
 have:=QrM h (k:=p.1) (x:=p.2) hp
 have e:p.1=d:=e
 rw [e,hn] at this; cases this
theorem Qnq {d:Ky} (hn:lkL d S=none):tellF S d b=(true,S++[(d,b)]):=by unfold tellF; rw [hn]
theorem Qn6 {d:Ky} {x:Bool} (hn:lkL d S=some x):tellF S d b=(false,S):=by unfold tellF; rw [hn]
theorem QsR:∀ {l:List CnV} {a:Bool} {S:Tl} {cs:List Str},Tol m S 1 cs→(csNm m b (a,S) l).1=(a && !conT cs l)
 | [],a,S,cs,h=>by simp [csNm,conT]
 | c::l,a,S,cs,h=>by
  rw [csNm,conT]
  dsimp only
  cases hc:cs.contains c.n with
  | true=>
   obtain ⟨x,hx⟩:=h.yes hc
   rw [Qn6 hx]
   dsimp only
   rw [QsR h]; simp
  | false=>
   rw [Qnq (h.no hc)]
   dsimp only
   rw [QsR (h.add hc)]; simp
theorem Qwg:∀ {l:List CnV} {a:Bool} {S:Tl} {cs ts:List Str},Tol m S 1 cs→conT cs l=false→(csNm m b (a,S) l).2=S++telCs m b l∧Tol m (S++telCs m b l) 1 (cs++l.map CnV.n)∧(PwK S→PwK (S++telCs m b l))∧∀ k l',k≠1→Tol m S k l'→Tol m (S++telCs m b l) k l'
 | [],a,S,cs,ts,h,hc=>by simp [csNm,telCs,h]
 | c::l,a,S,cs,ts,h,hc=>by
  rw [conT,Bool.or_eq_false_iff] at hc
  have hno:=h.no hc.1
  obtain ⟨f,g,i,j⟩:=Qwg (a:=true && a) (ts:=ts) (h.add (b:=b) hc.1) hc.2
  have e:S++telCs m b (c::l)=S++[((m,c.n,1),b)]++telCs m b l:=by simp [telCs]
  rw [csNm]
  dsimp only
  rw [Qnq hno,e,show cs++(c::l).map CnV.n=cs++[c.n]++l.map CnV.n by simp]
  exact ⟨f,g,fun hp=>i (hp.snoc hno),fun k l' d o=>j k l' d (o.other d hno)⟩
theorem Qx6 {t:TdP} {ts cs:List Str} (h0:Tol m S 0 ts) (d:Tol m S 1 cs):(tyNm m t S).1=!(ts.contains t.n || !decide t.ps.Nodup || conT cs t.cs):=by
 unfold tyNm
 cases hc:ts.contains t.n with
 | true=>
  obtain ⟨x,hx⟩:=h0.yes hc
  rw [Qn6 hx]
  dsimp only
  rw [QsR d]; simp
 | false=>
  have b:=h0.no hc
  rw [Qnq b]
  dsimp only
  rw [QsR (d.other (by decide) b)]
  cases decide t.ps.Nodup <;> cases conT cs t.cs <;> rfl
theorem Qx5 {t:TdP} {ts cs:List Str} (h0:Tol m S 0 ts) (r:Tol m S 1 cs) (f:(ts.contains t.n || !decide t.ps.Nodup || conT cs t.cs)=false) :
 (tyNm m t S).2=S++telTy m [t]∧Tol m (S++telTy m [t]) 0 (ts++[t.n])∧Tol m (S++telTy m [t]) 1 (cs++t.cs.map CnV.n)∧(PwK S→PwK (S++telTy m [t]))∧∀ k l',k≠0→k≠1→Tol m S k l'→Tol m (S++telTy m [t]) k l':=by
 simp only [Bool.or_eq_false_iff] at f
 have d:=h0.no f.1.1
 have e:S++telTy m [t]=S++[((m,t.n,0),t.b)]++telCs m t.b t.cs:=by simp [telTy]
 obtain ⟨j,o,q,i⟩:=Qwg (b:=t.b) (a:=decide t.ps.Nodup) (ts:=ts) (r.other (b:=t.b) (by decide) d) f.2
 unfold tyNm
 rw [Qnq d,e]
 dsimp only
 rw [Bool.true_and]
 exact ⟨j,i 0 _ (by decide) (h0.add f.1.1),o,fun hp=>q (hp.snoc d),fun k l' g h u=>i k l' h (u.other g d)⟩
theorem QoX:∀ {l:List TdP} {S:Tl} {ts cs:List Str},Tol m S 0 ts→Tol m S 1 cs→match tolTy l ts cs with
  | some e=>namesTy m l S=.error (m,e.1,e.2)
  | none=>namesTy m l S=.ok (S++telTy m l)∧(PwK S→PwK (S++telTy m l))∧∀ k l',k≠0→k≠1→Tol m S k l'→Tol m (S++telTy m l) k l'
 | [],S,ts,cs,h0,h1=>by simp [tolTy,namesTy,telTy]
 | t::l,S,ts,cs,h0,h1=>by
  rw [tolTy,namesTy,Qx6 h0 h1]
  cases hc:(ts.contains t.n || !decide t.ps.Nodup || conT cs t.cs) with
  | true=>rfl
  | false=>
   obtain ⟨g1,g2,g3,g4,g5⟩:=Qx5 h0 h1 hc
   rw [if_neg (show ¬ (false=true) by decide),if_neg (show ¬ ((!false)=false) by decide),g1]
   cases hb:t.cs.any (fun c=>openF t.ps c.f) with
   | true=>rfl
   | false=>
    rw [if_neg (show ¬ (false=true) by decide),if_neg (show ¬ (false=true) by decide)]
    have b:=QoX (l:=l) g2 g3
    have e:S++telTy m (t::l)=S++telTy m [t]++telTy m l:=by simp [telTy]
    cases ht:tolTy l (ts++[t.n]) (cs++t.cs.map CnV.n) with
    | some i=>rw [ht] at b; exact b
    | none=>
     rw [ht] at b
     dsimp only at b ⊢
     rw [e]
     exact ⟨b.1,fun hp=>b.2.1 (g4 hp),fun k l' d g h=>b.2.2 k l' d g (g5 k l' d g h)⟩
theorem QoW:∀ {l:List RdP} {S:Tl} {i:List Str},Tol m S 2 i→match tolRe l i with
  | some e=>namesRe m l S=.error (m,e.1,e.2)
  | none=>namesRe m l S=.ok (S++l.map fun x=>((m,x.n,2),x.b))∧(PwK S→PwK (S++l.map fun x=>((m,x.n,2),x.b)))∧∀ k l',k≠2→Tol m S k l'→Tol m (S++l.map fun x=>((m,x.n,2),x.b)) k l'
 | [],S,i,h=>by simp [tolRe,namesRe]
 | x::l,S,i,h=>by
  rw [tolRe,namesRe]
  cases hc:i.contains x.n with
  | true=>
   obtain ⟨y,hy⟩:=h.yes hc
   rw [Qn6 hy]; rfl
  | false=>
   have d:=h.no hc
   rw [Qnq d]
   dsimp only
   rw [if_neg (show ¬ (false=true) by decide),if_neg (show ¬ (true=false) by decide)]
   cases hb:openF [] x.f with
   | true=>rfl
   | false=>
    rw [if_neg (show ¬ (false=true) by decide),if_neg (show ¬ (false=true) by decide)]
    have g:=QoW (l:=l) (h.add (b:=x.b) hc)
    have e:(S++(x::l).map fun x:RdP=>(((m,x.n,2),x.b):Ky×Bool))=S++[((m,x.n,2),x.b)]++l.map fun x=>((m,x.n,2),x.b):=by simp
    cases ht:tolRe l (i++[x.n]) with
    | some q=>rw [ht] at g; exact g
    | none=>
     rw [ht] at g
     dsimp only at g ⊢
     rw [e]
     exact ⟨g.1,fun hp=>g.2.1 (hp.snoc d),fun k l' j o=>g.2.2 k l' j (o.other j d)⟩
theorem QoV:∀ {l:List NeP} {S:Tl} {f:List Str},Tol m S 3 f→match tolNe l f with
  | some e=>namesNe m l S=.error (m,e.1,e.2)
  | none=>namesNe m l S=.ok (S++l.map fun x=>((m,x.n,3),false))∧(PwK S→PwK (S++l.map fun x=>((m,x.n,3),false)))
 | [],S,f,h=>by simp [tolNe,namesNe]
 | x::l,S,f,h=>by
  rw [tolNe,namesNe]
  cases hc:f.contains x.n with
  | true=>
   obtain ⟨y,hy⟩:=h.yes hc
   rw [Qn6 hy]; rfl
  | false=>
   have g:=h.no hc
   rw [Qnq g]
   dsimp only
   rw [if_neg (show ¬ (false=true) by decide),if_neg (show ¬ (true=false) by decide)]
   have d:=QoV (l:=l) (h.add (b:=false) hc)
   have e:(S++(x::l).map fun x:NeP=>(((m,x.n,3),false):Ky×Bool))=S++[((m,x.n,3),false)]++l.map fun x=>((m,x.n,3),false):=by simp
   cases ht:tolNe l (f++[x.n]) with
   | some i=>rw [ht] at d; exact d
   | none=>
    rw [ht] at d
    dsimp only at d ⊢
    rw [e]
    exact ⟨d.1,fun hp=>d.2 (hp.snoc g)⟩
end
theorem Qp1 (m:MoP):match tolF m with
 | some e=>namesF m []=.error (m.n,e.1,e.2)
 | none=>namesF m []=.ok (telL m)∧PwK (telL m):=by
 have g:∀ k,Tol m.n [] k []:=fun k s=>rfl
 unfold tolF namesF telL
 have b:=QoX (l:=m.ty) (g 0) (g 1)
 cases ht:tolTy m.ty [] [] with
 | some e=>rw [ht] at b; dsimp only at b ⊢; rw [b]
 | none=>
  rw [ht] at b
  dsimp only at b ⊢
  rw [b.1]
  dsimp only
  have d:=QoW (l:=m.re) (b.2.2 2 _ (by decide) (by decide) (g 2))
  cases hr:tolRe m.re [] with
  | some e=>rw [hr] at d; dsimp only at d ⊢; rw [d]
  | none=>
   rw [hr] at d
   dsimp only at d ⊢
   rw [d.1]
   dsimp only
   have f:=QoV (l:=m.ne) (d.2.2 3 _ (by decide) (b.2.2 3 _ (by decide) (by decide) (g 3)))
   cases hn:tolNe m.ne [] with
   | some e=>rw [hn] at f; exact f
   | none=>
    rw [hn] at f
    dsimp only at f ⊢
    rw [List.nil_append,List.append_assoc] at f
    exact ⟨f.1,f.2 (d.2.1 (b.2.1 List.Pairwise.nil))⟩
def tolAll:List MoP→Option Er
 | []=>none
 | m :: l => match tolF m with
  | some e=>some (m.n,e.1,e.2)
  | none=>tolAll l
theorem Qkc:∀ {l:List MoP} {T0:Tl},(∀ m ∈ l,Lk0 T0 m.n)→(l.map MoP.n).Nodup→match tolAll l with
  | some e=>namesAll l T0=.error e
  | none=>∃ T,namesAll l T0=.ok T
 | [],T0,_,_=>⟨T0,rfl⟩
 | m::l,T0,h0,hn=>by
  rw [List.map_cons,List.nodup_cons] at hn
  have hm0:=h0 m (List.mem_cons_self ..)
  have hm:=Qp1 m
  rw [tolAll,namesAll,Qw9 hm0]
  cases ht:tolF m with
  | some e=>rw [ht] at hm; dsimp only at hm ⊢; rw [hm]
  | none=>
   rw [ht] at hm
   dsimp only at hm ⊢
   rw [hm.1]
   refine Qkc (l:=l) (fun x hx k b=>?_) hn.2
   rw [QoT,h0 x (List.mem_cons_of_mem _ hx) k b]
   exact Qsx (QoU hm.1) (by rw [b]; exact fun e=>hn.1 (List.mem_map.2 ⟨x,hx,e⟩))
def EntK (m:MoP) (kd:Int) (s:Str) (b:Bool):Prop:=(kd=0∧∃ t ∈ m.ty,t.n=s∧t.b=b)∨(kd=1∧∃ t ∈ m.ty,∃ c ∈ t.cs,c.n=s∧t.b=b)∨(kd=2∧∃ x ∈ m.re,x.n=s∧x.b=b)
theorem Qva {m:MoP} {kd:Int} {s:Str} {b:Bool} (g:kd≤2):((m.n,s,kd),b) ∈ telL m↔EntK m kd s b:=by
 have h:¬ kd=3:=by omega
 have h3':¬ (3:Int)=kd:=by omega
 simp only [telL,telTy,telCs,EntK,List.mem_append,List.mem_flatMap,List.mem_cons,List.mem_map,Prod.mk.injEq,true_and]
 constructor
 ·rintro (⟨t,d,(⟨⟨rfl,rfl⟩,rfl⟩ | ⟨c,f,⟨rfl,rfl⟩,rfl⟩)⟩ | ⟨x,hx,⟨rfl,rfl⟩,rfl⟩ | ⟨x,hx,⟨rfl,e⟩,rfl⟩)
  ·exact .inl ⟨rfl,t,d,rfl,rfl⟩
  ·exact .inr (.inl ⟨rfl,t,d,c,f,rfl,rfl⟩)
  ·exact .inr (.inr ⟨rfl,x,hx,rfl,rfl⟩)
  ·exact absurd e h3'
 ·rintro (⟨rfl,t,d,rfl,rfl⟩ | ⟨rfl,t,d,c,f,rfl,rfl⟩ | ⟨rfl,x,hx,rfl,rfl⟩)
  ·exact .inl ⟨t,d,.inl ⟨⟨rfl,rfl⟩,rfl⟩⟩
  ·exact .inl ⟨t,d,.inr ⟨c,f,⟨rfl,rfl⟩,rfl⟩⟩
  ·exact .inr (.inl ⟨x,hx,⟨rfl,rfl⟩,rfl⟩)
theorem QoM {m:MoP} {kd:Int} {s:Str} {o:Bool} (h0:0≤kd) (h:kd≤2):hasF m (kd+1) s o=true ↔ ∃ b,EntK m kd s b∧(o=true→b=true):=by
 have i:kd=0∨kd=1∨kd=2:=by omega
 unfold hasF tyHas reHas EntK
 simp only [Bool.or_eq_true,List.any_eq_true,Ve,Bool.not_eq_true',Bool.and_eq_false_iff,beq_iff_eq]
 constructor
 ·rintro (⟨t,d,hp,(⟨e,hn⟩ | ⟨c,f,e,hn⟩)⟩ | ⟨x,hx,⟨e,hn⟩,hp⟩)
  ·exact ⟨t.b,.inl ⟨by omega,t,d,hn,rfl⟩,fun g=>by rcases hp with hp | hp <;> simp_all⟩
  ·exact ⟨t.b,.inr (.inl ⟨by omega,t,d,c,f,hn,rfl⟩),fun g=>by rcases hp with hp | hp <;> simp_all⟩
  ·exact ⟨x.b,.inr (.inr ⟨by omega,x,hx,hn,rfl⟩),fun g=>by rcases hp with hp | hp <;> simp_all⟩
 ·rintro ⟨b,(⟨rfl,t,d,hn,rfl⟩ | ⟨rfl,t,d,c,f,hn,rfl⟩ | ⟨rfl,x,hx,hn,rfl⟩),hp⟩
  ·exact .inl ⟨t,d,by cases o <;> simp_all,.inl ⟨rfl,hn⟩⟩
  ·exact .inl ⟨t,d,by cases o <;> simp_all,.inr ⟨c,f,rfl,hn⟩⟩
  ·exact .inr ⟨x,hx,⟨rfl,hn⟩,by cases o <;> simp_all⟩
theorem QuF {l:List MoP} {T:Tl} (hn:(l.map MoP.n).Nodup) (h:namesAll l []=.ok T) {i:Nat} (hi:i < l.length) {kd:Int} (h2:kd≤2) {s:Str} {b:Bool}:lkL (l[i].n,s,kd) T=some b↔EntK l[i] kd s b:=by
 obtain ⟨g1,g2⟩:=(Qn5 (fun _ _ _ _=>rfl) hn).2 T h
 have pw:∀ m R,namesF m []=.ok R→R=telL m∧PwK (telL m):=fun m R hR=>by
  have:=Qp1 m
  cases ht:tolF m with
  | some e=>rw [ht] at this; rw [this] at hR; cases hR
  | none=>rw [ht] at this; rw [this.1] at hR; injection hR with hR; exact ⟨hR.symm,this.2⟩
 rw [g2]
 constructor
 ·rintro (h | ⟨m,hm,R,hR,h⟩)
  ·cases h
  ·obtain ⟨rfl,hp⟩:=pw m R hR
   have hk:=QoU hR _ (QqZ h)
   have e:m=l[i]:=by
    obtain ⟨j,hj,rfl⟩:=List.mem_iff_getElem.1 hm
    have a:=Qn2 hn hj
    have b:=Qn2 hn hi
    have hk:l[i].n=l[j].n:=hk
    rw [hk,a] at b
    subst b; rfl
   subst e
   exact (Qva h2).1 (QqZ h)
 ·intro he
  obtain ⟨R,hR⟩:=g1 l[i] (Vg hi)
  obtain ⟨rfl,hp⟩:=pw _ R hR
  exact .inr ⟨l[i],Vg hi,_,hR,QrM hp ((Qva h2).2 he)⟩
theorem QtD {l:List MoP} {T:Tl} (hn:(l.map MoP.n).Nodup) (h:namesAll l []=.ok T) {a s:Str} {kd:Int} (g:∀ m ∈ l,m.n≠a):lkL (a,s,kd) T=none:=by
 obtain ⟨i,d⟩:=(Qn5 (fun _ _ _ _=>rfl) hn).2 T h
 cases hl:lkL (a,s,kd) T with
 | none=>rfl
 | some b=>
  rcases (d _ _).1 hl with h | ⟨m,hm,R,f,h⟩
  ·cases h
  ·exact absurd (QoU f _ (QqZ h)).symm (g m hm)
theorem Qya {l:List MoP} {T:Tl} (hn:(l.map MoP.n).Nodup) (h:namesAll l []=.ok T) {i:Nat} (hi:i < l.length):Ag l i l[i] T:=fun kd s h0 d=>by
 have own:∀ {r:Str},hasF l[i] (kd+1) r false=(lkL (l[i].n,r,kd) T).isSome:=fun {r}=>by
  cases hl:lkL (l[i].n,r,kd) T with
  | some b=>exact (QoM h0 d).2 ⟨b,(QuF hn h hi d).1 hl,fun e=>by cases e⟩
  | none=>
   cases hh:hasF l[i] (kd+1) r false with
   | false=>rfl
   | true=>
    obtain ⟨b,f,_⟩:=(QoM h0 d).1 hh
    rw [(QuF hn h hi d).2 f] at hl; cases hl
 unfold meanF meanD cutN
 cases hc:cutD s with
 | none=>
  dsimp only
  rw [own]
  cases hl:lkL (l[i].n,s,kd) T with
  | none=>rfl
  | some b=>dsimp only; rw [if_pos (by simp)]; rfl
 | some p=>
  obtain ⟨a,r⟩:=p
  have C:=Qsn hc
  have y:dotS a r=s:=by rw [C]; simp [dotS]
  dsimp only
  cases hj:l[findN l a]? with
  | none=>
   have z:=List.getElem?_eq_none_iff.1 hj
   rw [QtD hn h fun m hm e=>?_]
   obtain ⟨j,u,rfl⟩:=List.mem_iff_getElem.1 hm
   have:=Qn2 hn u
   rw [e] at this; omega
  | some A=>
   obtain ⟨g,x⟩:=List.getElem?_eq_some_iff.1 hj
   have q:l[findN l a].n=a:=QrI g
   dsimp only
   by_cases e:findN l a=i
   ·subst e
    rw [if_pos rfl,own,q]
    cases hl:lkL (a,r,kd) T with
    | none=>rfl
    | some b=>dsimp only; rw [if_pos (by simp),y]; rfl
   ·have o : a ≠ l[i].n := fun B => e (by rw [B]; exact Qn2 hn hi)
    rw [if_neg e]
    have lk:=fun b=>QuF (b:=b) (s:=r) hn h g d
    rw [x] at lk q
    rw [q] at lk
    cases him:impd l[i] a with
    | false=>
     rw [if_neg (by decide)]
     cases hl:lkL (a,r,kd) T with
     | none=>rfl
     | some b=>dsimp only; rw [if_neg (by simp [o])]
    | true=>
     rw [if_pos rfl]
     cases hl:lkL (a,r,kd) T with
     | none=>
      dsimp only
      cases hh:hasF A (kd+1) r true with
      | false=>rfl
      | true=>
       obtain ⟨b,f,_⟩:=(QoM h0 d).1 hh
       rw [(lk b).2 f] at hl; cases hl
     | some b=>
      dsimp only
      cases b with
      | true=>
       rw [if_pos (by simp),y]
       dsimp only
       rw [(QoM h0 d).2 ⟨true,(lk true).1 hl,fun _=>rfl⟩]
      | false=>
       rw [if_neg (by simp [o])]
       dsimp only
       cases hh:hasF A (kd+1) r true with
       | false=>rfl
       | true=>
        obtain ⟨b,f,t⟩:=(QoM h0 d).1 hh
        have:=(lk b).2 f
        rw [hl] at this
        injection this with this
        rw [t rfl] at this; cases this
end
section
open Go Go.Proofs
theorem Qxu:∀ v:TyV,tyOk v=true→TyNe v:=by
 refine TyV.rec_ fun v g b=>?_
 obtain ⟨f,b⟩:=(Qn8 v).1 b
 exact .mk (Qn7 f).2.1 fun w d=>g w d (b w d)
theorem Qwl {b:Bool} {l:List FdV} (h:fdsOk b l=true):∀ f ∈ l,TyNe f.t:=fun f d=>Qxu _ ((QlT h).2 f d)
structure TwL (X D:Heap) (s t:Sl) (a c:List Str):Prop where
 le:X.le D
 o1:Own D 1 s (a.map sv)
 o2:Own D 1 t (c.map sv)
 f1:Fresh X s
 f2:Fresh X t
 ne:∀ p q,s.p=some p→t.p=some q→p.1≠q.1
section
variable {X D D2:Heap} {s t:Sl} {a c:List Str} {x:Str}
theorem QxN (xs:List Str):xs.flatMap (fun x:Str=>[sv x])=xs.map sv:=by
 induction xs with
 | nil=>rfl
 | cons a xs b=>rw [List.flatMap_cons,b]; rfl
theorem TwL.swap (h:TwL X D s t a c):TwL X D t s c a:=⟨h.le,h.o2,h.o1,h.f2,h.f1,fun p q hp b e=>h.ne q p b hp e.symm⟩
theorem TwL.up (h:TwL X D s t a c) (hle:D.le D2):TwL X D2 s t a c:=⟨h.le.trans hle,h.o1.le hle,h.o2.le hle,h.f1,h.f2,h.ne⟩
theorem TwL.base {X0:Heap} (h:TwL X D s t a c) (hle:X0.le X):TwL X0 D s t a c:=⟨hle.trans h.le,h.o1,h.o2,h.f1.le hle,h.f2.le hle,h.ne⟩
theorem TwL.box {b:Nat} {g:GO} (h:TwL X D s t a c) (hn:D b=none) (hle:D.le D2) (hg:D2 b=some (true,g)):TwL (X.put b g) D2 s t a c:=by
 have fr:∀ {s:Sl} {cs:List Value},Own D 1 s cs→Fresh X s→Fresh (X.put b g) s:=fun {s cs} ho hf p hp=>by
  obtain ⟨g',hg'⟩:=ho.mine hp
  have:p.1≠b:=fun e=>by rw [e,hn] at hg'; cases hg'
  rw [Xb _ _ _ this]; exact hf p hp
 refine ⟨fun b' e hb=>?_,h.o1.le hle,h.o2.le hle,fr h.o1 h.f1,fr h.o2 h.f2,h.ne⟩
 by_cases hbb:b' = b
 ·subst hbb; rw [Xa] at hb; rw [hg]; exact hb
 ·rw [Xb _ _ _ hbb] at hb; exact hle _ _ (h.le _ _ hb)
theorem TwL.st (h:TwL X D s t a c) (d:∀ v ∈ a,v.length≤1000) (f:a.length≤1000000):StL D s a:=by
 have hl':=h.o1.1
 simp only [List.length_map,Nat.mul_one] at hl'
 refine ⟨a,by rw [QxN]; exact h.o1.rdsl,hl'.symm,rfl,by omega,fun i v y b hy=>?_⟩
 rw [b] at hy
 injection hy with hy
 subst hy
 exact ⟨rfl,Nat.le_trans (d v (List.mem_of_getElem? b)) (by omega)⟩
theorem TwL.add (h:TwL X D s t a c) (E:a.length≤1000000) {K:Sl→HP} (k:∀ r D2,TwL X D2 r t (a++[x]) c→K r D2):apd ([sv []]) 16 s ([sv x]) 1 K D:=by
 have hl':=h.o1.1
 simp only [List.length_map,Nat.mul_one] at hl'
 refine Qmb (zc:=[sv []]) h.o1.off rfl (by omega) (by omega) fun r D2 d F=>k r D2 ?_
 have y:X.le (Heap.off s D):=fun b e f=>Xe (h.le b e f) fun p hp z=>by
  have:=h.f1 p hp
  rw [z,f] at this; cases this
 have B:∀ q,t.p=some q→∃ g,(Heap.off s D) q.1=some (true,g):=fun q i=>by
  obtain ⟨g,hg⟩:=h.o2.mine i
  exact ⟨g,Xe hg fun p hp=>h.ne p q hp i⟩
 refine ⟨y.trans d.le,?_,?_,d.fresh.le y,h.f2,fun p q hp i e=>?_⟩
 ·rw [List.map_append]; exact d.own
 ·obtain ⟨m,o,u,h0 | ⟨b,C,hp,f,A⟩⟩:=h.o2
  ·exact ⟨m,o,u,.inl h0⟩
  ·exact ⟨m,o,u,.inr ⟨b,C,hp,d.le _ _ (Xe f fun p j=>h.ne p _ j hp),A⟩⟩
 ·obtain ⟨g,hg⟩:=B q i
  have:=d.fresh p hp
  rw [e,hg] at this; cases this
theorem TwL.nil (H:Heap):TwL H H Sl.nil Sl.nil [] []:=⟨Heap.le.refl _,Own.nil _ _,Own.nil _ _,Fresh.nil _,Fresh.nil _,fun p q h=>by cases h⟩
end
theorem Qru:∀ {l:List CnV} {cs:List Str} {c:CnV},conT cs (l++[c])=(conT cs l || (cs++l.map CnV.n).contains c.n)
 | [],cs,c=>by simp [conT]
 | d::l,cs,c=>by
  rw [List.cons_append,conT,conT,Qru,Bool.or_assoc,List.map_cons,show cs++[d.n]++l.map CnV.n=cs++d.n::l.map CnV.n by simp]
theorem Qxa {l:List Str} {k:Nat} (h:k < l.length):decide (l.take (k+1)).Nodup=(decide (l.take k).Nodup && !(l.take k).contains l[k]):=by
 rw [Vp,Vf h,Vo]
 have:(l.take k++[l[k]]).Nodup↔(l.take k).Nodup∧l[k] ∉ l.take k:=by
  rw [List.nodup_append]
  simp only [List.nodup_cons,List.not_mem_nil,not_false_eq_true,List.nodup_nil,and_self,true_and,List.mem_singleton]
  constructor
  ·rintro ⟨d,f⟩; exact ⟨d,fun hm=>f _ hm _ rfl rfl⟩
  ·rintro ⟨d,f⟩; exact ⟨d,fun a g b i e=>f (by rw [← i,← e]; exact g)⟩
 rw [Vn]
 simp only [this,Vj,Ve,Bool.not_eq_true',List.contains_eq_mem,decide_eq_false_iff_not]
section
variable {C:Ctx} {A H:Heap}
theorem QvC {m:MoP} {x:Qa} {K:Qb→HP} (hm:MpIs A m x) (hG:MoG m) (hA:A.le H)
 (k:∀ D,H.le D→tolF m=none→K goodD D) (ke:∀ D p e,H.le D→tolF m=some (p,e)→K (fltD m.n p e) D):QjU C x K H:=by
 obtain ⟨m1,m2,m3,m4,m5,m6⟩:=hm
 apply Qqy
 unfold QmN
 refine box1N fun b1 H2 n1 _ l1 Q=>box1N fun b3 H4 n3 _ l3 h3=>?_
 have q3:H b3=none:=l1.none n3
 have b6:=l1.trans l3
 have Q:=l3 _ _ Q
 have J:=hA.trans b6
 have lt:=hG.lt
 have out:∀ {D:Heap} {p:Pl} {e:Int},H4.le D→tolF m=some (p,e)→stT (b3,0) (Qb.c (⟨(⟨m.n,psP p⟩:Qc),e⟩:Qb)) (fun a6=>ldT a6 Qb.c (b3,0) fun d2=>K d2 a6) D:=fun {D p e} hD he=>
  stAll (hD _ _ h3) rfl (bxT (c:=Qb.c) (x:=fltD m.n p e) (Xa ..) (ke _ _ _ (QP (b6.trans hD) q3) he))
 refine ⟨fun y D=>∃ (i:Nat) (ts cs:List Str),y.2.2=(i:Int)∧i≤m.ty.length∧TwL H4 D y.1 y.2.1 ts cs∧tolTy m.ty [] []=tolTy (m.ty.drop i) ts cs∧(∀ v ∈ ts,v.length≤1000)∧(∀ v ∈ cs,v.length≤1000)∧ts.length=i∧cs.length≤16*i,fun y _=>m.ty.length - y.2.2.toNat,⟨0,[],[],rfl,Nat.zero_le _,TwL.nil _,rfl,(fun v h=>by cases h),(fun v h=>by cases h),rfl,Nat.le_refl _⟩,?_⟩
 rintro ⟨s1,s2,_⟩ D ⟨i,ts,cs,rfl,c8,o,b,b9,c7,b0,f3⟩
 dsimp only
 refine fL (o.le _ _ Q) (j:=2) rfl ?_
 rw [m3.len]
 refine ift.of (fun h=>?_) (fun h=>?_)
 ·have u : i < m.ty.length := by have := Vb h; first | omega | (dsimp only at this; omega)
  refine fL (o.le _ _ Q) (j:=2) rfl (m3.ld (J.trans o.le) (fun _=>rfl) (by omega) rfl u fun y hy=>?_)
  have b8:=hG.ty _ (Vg u)
  rw [List.drop_eq_getElem_cons u,tolTy] at b
  generalize m.ty[i]=v at *
  obtain ⟨e1,e2,e3,e4,e5⟩:=hy
  unfold tdOk TdP.e at b8
  simp only [Ve,Vj,List.all_eq_true] at b8
  obtain ⟨⟨⟨⟨⟨t1,t2⟩,t3⟩,t4⟩,t5⟩,t6⟩:=b8
  have c9:v.n.length≤32:=(QbL t1).1
  refine boxZ rfl fun a2 D1 d0 f7 b5=>fS b5 (j:=3) rfl ?_
  rw [e3.1]
  have c6:=o.box d0 f7 b5
  refine QpQ (c6.st b9 (by omega)) (Heap.le.refl _) (fS b5 (j:=3) rfl ?_)
  rw [e3.1]
  refine c6.add (by omega) fun f9 D2 S=>?_
  have W:H4.le (H4.put a2 (.row (Qd.c y))):=Xc (o.le.none d0)
  have g:(H4.put a2 (.row (Qd.c y))) a2=some (true,.row (Qd.c y)):=Xa ..
  have c3:=W _ _ Q
  have a4:=J.trans W
  have g9:=W _ _ h3
  generalize H4.put a2 (.row (Qd.c y))=X1 at *
  have h9:=e4.1.bd
  refine ⟨fun z E=>E=D2∧∃ n:Nat,z.2=(n:Int)∧n≤v.ps.length∧z.1=(ts.contains v.n || !decide (v.ps.take n).Nodup),fun z _=>v.ps.length - z.2.toNat,⟨rfl,0,rfl,Nat.zero_le _,by simp⟩,?_⟩
  rintro ⟨tw,_⟩ _ ⟨rfl,n,rfl,h8,rfl⟩
  dsimp only
  rename_i D2
  refine fL (S.le _ _ g) (j:=4) rfl ?_
  rw [e4.1.len]
  refine ift.of (fun h=>?_) (fun h=>?_)
  ·have Z : n < v.ps.length := by have := Vb h; first | omega | (dsimp only at this; omega)
   refine jv (ts.contains v.n || !decide (v.ps.take (n+1)).Nodup) D2 ?_ ?_
   ·rw [Qxa Z]
    refine ⟨D2,Heap.le.refl _,ift.of (fun h=>⟨rfl,?_⟩) (fun h=>?_)⟩
    ·rw [Bool.or_eq_true] at h
     rcases h with h | h
     ·rw [h]; rfl
     ·rw [Bool.not_eq_true'] at h; rw [h]; simp
    ·refine fL (S.le _ _ g) (j := 4) rfl (X4 e4.1 (fun _ => rfl) e4.2 rfl (Nat.le_of_lt Z) fun t ht => fL (S.le _ _ g) (j := 4) rfl (SlIs.fS (j := 0) e4.1 (a4.trans S.le) (fun _ => rfl) (by omega) rfl Z (f := fun y => y) (fun _ => rfl) fun y2 L => ?_))
     rw [L.1]
     refine QpQ (StL.le (a4.trans S.le) ht) (Heap.le.refl _) ⟨Heap.le.refl _,rfl,?_⟩
     rw [Bool.or_eq_false_iff,Bool.not_eq_false'] at h
     rw [h.1,h.2]; simp
   ·rw [Qu (by omega) (by omega)]
    exact ⟨⟨rfl,n+1,by first | omega | (dsimp only; omega),by omega,rfl⟩,by first | omega | (dsimp only; omega)⟩
  ·have f4 : n = v.ps.length := by have := Vc h; first | omega | (dsimp only at this; omega)
   subst f4
   rw [Vl]
   have h5:=e5.bd
   refine ⟨fun z E=>∃ j:Nat,z.2.2.2=(j:Int)∧j≤v.cs.length∧TwL X1 E f9 z.1 (ts++[v.n]) (cs++(v.cs.take j).map CnV.n)∧z.2.1=(ts.contains v.n || !decide v.ps.Nodup || conT cs (v.cs.take j))∧z.2.2.1=(v.cs.take j).any (fun c=>openF v.ps c.f),fun z _=>v.cs.length - z.2.2.2.toNat,⟨0,rfl,Nat.zero_le _,by simpa using S,by simp [conT],rfl⟩,?_⟩
   rintro ⟨i2,tw,bd,_⟩ E ⟨j,rfl,h7,G,rfl,rfl⟩
   dsimp only
   refine fL (G.le _ _ g) (j:=5) rfl ?_
   rw [e5.len]
   have f0:∀ c ∈ v.cs,c.n.length≤1000:=fun c hc=>by
    have:=t6 c hc
    unfold cnOk at this
    rw [Ve] at this
    exact Nat.le_trans (QbL this.1).1 (by omega)
   have a9:∀ w ∈ cs++(v.cs.take j).map CnV.n,w.length≤1000:=fun w I=>by
    rcases List.mem_append.1 I with I | I
    ·exact c7 w I
    ·obtain ⟨c,hc,rfl⟩:=List.mem_map.1 I
     exact f0 c (List.mem_of_mem_take hc)
   have h6:(cs++(v.cs.take j).map CnV.n).length≤16*i+16:=by simp only [Va,List.length_map,List.length_take]; omega
   refine ift.of (fun h=>?_) (fun h=>?_)
   ·have N : j < v.cs.length := by have := Vb h; first | omega | (dsimp only at this; omega)
    have X:=t6 _ (Vg N)
    unfold cnOk at X
    rw [Ve] at X
    have b4:v.cs.take (j+1)=v.cs.take j++[v.cs[j]]:=by rw [Vp,Vf N]; rfl
    have a3:=a4.trans G.le
    refine jv (ts.contains v.n || !decide v.ps.Nodup || conT cs (v.cs.take (j+1))) E ?_ ?_
    ·rw [b4,Qru,← Bool.or_assoc]
     refine ift.of (fun h=>⟨rfl,by rw [h]; rfl⟩) (fun h=>fL (G.le _ _ g) (j:=5) rfl (e5.fS a3 (fun _=>rfl) (by omega) rfl N (j:=0) (f:=Qj.Name) (fun _=>rfl) fun y2 L=>?_))
     rw [L.1.1]
     exact QpQ (G.swap.st a9 (by omega)) (Heap.le.refl _) ⟨rfl,by rw [h]; rfl⟩
    ·refine fL (G.le _ _ g) (j := 5) rfl (e5.fS a3 (fun _ => rfl) (by omega) rfl N (j := 0) (f := Qj.Name) (fun _ => rfl) fun y2 L => ?_)
     rw [L.1.1]
     refine G.swap.add (by omega) fun i1 F q=>?_
     have q:=q.swap
     have c4:=a4.trans q.le
     refine jw ((v.cs.take (j+1)).any fun c=>openF v.ps c.f) F ⟨F,Heap.le.refl _,?_⟩ fun F2 e8=>?_
     ·rw [b4,List.any_append,List.any_cons,List.any_nil,Bool.or_false]
      refine ift.of (fun h=>⟨Heap.le.refl _,by rw [h]; rfl⟩) (fun h=>fL (q.le _ _ g) (j:=5) rfl (e5.fL c4 (fun _=>rfl) (by omega) rfl N (j:=1) (f:=Qj.Fields) (fun _=>rfl) fun y3 f5=>fL (q.le _ _ g) (j:=4) rfl ?_))
      exact QrD e4.1 f5.2 (Qwl X.2) c4 fun D5 M=>⟨M,M,by rw [h]; rfl⟩
     ·rw [Qu (by omega) (by omega)]
      refine ⟨⟨j+1,by first | omega | (dsimp only; omega),by omega,?_,rfl,rfl⟩,by first | omega | (dsimp only; omega)⟩
      have:=q.up e8
      rw [b4,List.map_append,← List.append_assoc]; exact this
   ·have f2 : j = v.cs.length := by have := Vc h; first | omega | (dsimp only at this; omega)
    subst f2
    rw [Vl] at *
    have c5:=W.trans G.le
    refine ift.of (fun h=>?_) (fun h=>ift.of (fun h2=>?_) (fun h2=>?_))
    ·refine fS (G.le _ _ c3) (j:=0) rfl (fPs (x:=y.Pos) (G.le _ _ g) rfl rfl ?_)
     rw [m1.1,e1]
     exact out c5 (by unfold tolF; rw [b,if_pos h])
    ·refine fS (G.le _ _ c3) (j:=0) rfl (fPs (x:=y.Pos) (G.le _ _ g) rfl rfl ?_)
     rw [m1.1,e1]
     exact out c5 (by unfold tolF; rw [b,if_neg (by rw [h]; decide),if_pos h2])
    ·rw [if_neg (by rw [h]; decide), if_neg (by rw [h2]; decide)] at b
     rw [Qu (by omega) (by omega)]
     refine ⟨⟨i+1,ts++[v.n],cs++v.cs.map CnV.n,by first | omega | (dsimp only; omega),by omega,G.base W,b,fun w I=>?_,a9,by simp [b0],by omega⟩,by first | omega | (dsimp only; omega)⟩
     rcases List.mem_append.1 I with I | I
     ·exact b9 w I
     ·rw [List.mem_singleton.1 I]; omega
 ·have Y : i = m.ty.length := by have := Vc h; first | omega | (dsimp only at this; omega)
  subst Y
  rw [List.drop_length,tolTy] at b
  have hT:tolF m=(match tolRe m.re [] with | some e=>some e | none=>tolNe m.ne []):=by unfold tolF; rw [b] <;> rfl
  have hD:=o.le
  clear b o b9 c7 b0 f3
  have lr:=hG.lr
  refine ⟨fun y E=>∃ (i:Nat) (U:List Str),y.2=(i:Int)∧i≤m.re.length∧TwL H4 E y.1 Sl.nil U []∧tolRe m.re []=tolRe (m.re.drop i) U∧(∀ v ∈ U,v.length≤1000)∧U.length=i,fun y _=>m.re.length - y.2.toNat,⟨0,[],rfl,Nat.zero_le _,(TwL.nil _).up hD,rfl,(fun v h=>by cases h),rfl⟩,?_⟩
  rintro ⟨s,_⟩ E ⟨i,U,rfl,c8,o,b,T,a5⟩
  dsimp only
  refine fL (o.le _ _ Q) (j:=3) rfl ?_
  rw [m4.len]
  have a3:=J.trans o.le
  refine ift.of (fun h=>?_) (fun h=>?_)
  ·have u : i < m.re.length := by have := Vb h; first | omega | (dsimp only at this; omega)
   rw [List.drop_eq_getElem_cons u,tolRe] at b
   have O:=hG.re _ (Vg u)
   unfold rdOk RdP.e at O
   rw [Ve] at O
   have c9:m.re[i].n.length≤32:=(QbL O.1).1
   have nm:∀ {F:Heap} {K':Str→Prop},H4.le F→K' m.re[i].n→ldL F ((b1,0).1,(b1,0).2+3) fun a0=>ixa a0 (i:Int) fun B=>ldS F ((B.1,B.2+(i:Int).toNat*6).1,(B.1,B.2+(i:Int).toNat*6).2+4) K':=fun {F K'} hF k'=>
    fL (hF _ _ Q) (j:=3) rfl (m4.fS (J.trans hF) (fun _=>rfl) (by omega) rfl u (j:=4) (f:=Qh.Name) (fun _=>rfl) fun y hy=>by rw [hy.2.2.2.1.1]; exact k')
   have ex:∀ {F:Heap} {e:Int},H4.le F→tolF m=some (m.re[i].p,e)→dr F fun P=>ldS P ((b1,0).1,(b1,0).2+0) fun d3=>ldL P ((b1,0).1,(b1,0).2+3) fun d4=>ixa d4 (i:Int) fun R=>ldT P Qk.c ((R.1,R.2+(i:Int).toNat*6).1,(R.1,R.2+(i:Int).toNat*6).2+0) fun d5=>stT (b3,0) (Qb.c (⟨(⟨d3,d5⟩:Qc),e⟩:Qb)) (fun a7=>ldT a7 Qb.c (b3,0) fun d6=>K d6 a7) F:=fun {F e} hF he=>
    ⟨F,Heap.le.refl _,fS (hF _ _ Q) (j:=0) rfl (fL (hF _ _ Q) (j:=3) rfl (m4.fT (J.trans hF) (fun _=>rfl) (by omega) rfl u (j:=0) (d:=Qk.c) (f:=Qh.Pos) (fun y n v h=>by match n,h with | 0,h=>exact h | 1,h=>exact h) fun y2 L=>by rw [m1.1,L.1]; exact out hF he))⟩
   refine nm o.le ?_
   refine QpQ (o.st T (by omega)) (Heap.le.refl _) (ift.of (fun h=>ex o.le (by rw [hT,b,if_pos h])) (fun h=>nm o.le ?_))
   rw [if_neg (by rw [h]; decide)] at b
   refine o.add (by omega) fun r F q=>?_
   refine fL (q.le _ _ Q) (j:=3) rfl (m4.fL (J.trans q.le) (fun _=>rfl) (by omega) rfl u (j:=5) (f:=Qh.Fields) (fun _=>rfl) fun y hy=>?_)
   refine QrD (ps:=[]) (s:=Sl.nil) SlIs.nil hy.2.2.2.2 (Qwl O.2) (J.trans q.le) fun D5 M=>ift.of (fun h=>ex (q.le.trans M) (by rw [hT,b,if_pos h])) (fun h=>?_)
   rw [if_neg (by rw [h]; decide)] at b
   rw [Qu (by omega) (by omega)]
   refine ⟨⟨i+1,U++[m.re[i].n],by first | omega | (dsimp only; omega),by omega,q.up M,b,fun w I=>?_,by simp [a5]⟩,by first | omega | (dsimp only; omega)⟩
   rcases List.mem_append.1 I with I | I
   ·exact T w I
   ·rw [List.mem_singleton.1 I]; omega
  ·have Y : i = m.re.length := by have := Vc h; first | omega | (dsimp only at this; omega)
   subst Y
   rw [List.drop_length,tolRe] at b
   rw [b] at hT
   dsimp only at hT
   have hE:=o.le
   clear b o T a5 a3
   have ln:=hG.ln
   refine ⟨fun y E=>∃ (i:Nat) (U:List Str),y.2=(i:Int)∧i≤m.ne.length∧TwL H4 E y.1 Sl.nil U []∧tolNe m.ne []=tolNe (m.ne.drop i) U∧(∀ v ∈ U,v.length≤1000)∧U.length=i,fun y _=>m.ne.length - y.2.toNat,⟨0,[],rfl,Nat.zero_le _,(TwL.nil _).up hE,rfl,(fun v h=>by cases h),rfl⟩,?_⟩
   rintro ⟨s,_⟩ E ⟨i,U,rfl,c8,o,b,T,a5⟩
   dsimp only
   refine fL (o.le _ _ Q) (j:=5) rfl ?_
   rw [m6.len]
   refine ift.of (fun h=>?_) (fun h=>?_)
   ·have u : i < m.ne.length := by have := Vb h; first | omega | (dsimp only at this; omega)
    rw [List.drop_eq_getElem_cons u,tolNe] at b
    have O:=(hG.ne _ (Vg u)).1
    unfold neOk NeP.e at O
    simp only [Ve] at O
    have c9:m.ne[i].n.length≤32:=(QbL O.1.1).1
    have nm:∀ {F:Heap} {K':Str→Prop},H4.le F→K' m.ne[i].n→ldL F ((b1,0).1,(b1,0).2+5) fun a0=>ixa a0 (i:Int) fun B=>ldS F ((B.1,B.2+(i:Int).toNat*4).1,(B.1,B.2+(i:Int).toNat*4).2+2) K':=fun {F K'} hF k'=>
     fL (hF _ _ Q) (j:=5) rfl (m6.fS (J.trans hF) (fun _=>rfl) (by omega) rfl u (j:=2) (f:=Qo.Name) (fun _=>rfl) fun y hy=>by rw [hy.2.1.1]; exact k')
    refine nm o.le ?_
    refine QpQ (o.st T (by omega)) (Heap.le.refl _) (ift.of (fun h=>⟨E,Heap.le.refl _,fS (o.le _ _ Q) (j:=0) rfl (fL (o.le _ _ Q) (j:=5) rfl (m6.fT (J.trans o.le) (fun _=>rfl) (by omega) rfl u (j:=0) (d:=Qk.c) (f:=Qo.Pos) (fun y n v h=>by match n,h with | 0,h=>exact h | 1,h=>exact h) fun y2 L=>by rw [m1.1,L.1]; exact out o.le (by rw [hT,b,if_pos h])))⟩) (fun h=>nm o.le ?_))
    rw [if_neg (by rw [h]; decide)] at b
    refine o.add (by omega) fun r F q=>?_
    rw [Qu (by omega) (by omega)]
    refine ⟨⟨i+1,U++[m.ne[i].n],by first | omega | (dsimp only; omega),by omega,q,b,fun w I=>?_,by simp [a5]⟩,by first | omega | (dsimp only; omega)⟩
    rcases List.mem_append.1 I with I | I
    ·exact T w I
    ·rw [List.mem_singleton.1 I]; omega
   ·have Y : i = m.ne.length := by have := Vc h; first | omega | (dsimp only at this; omega)
    subst Y
    rw [List.drop_length,tolNe] at b
    rw [b] at hT
    exact Qmf fun D5 M=>stAll (M _ _ (o.le _ _ h3)) rfl (bxT (c:=Qb.c) (Xa ..) (k _ (QP ((b6.trans o.le).trans M) q3) hT))
end
end
section
open Go Go.Proofs
def bvR (S:Nat→Bool) (n:Nat):List Value:=(List.range n).map fun j=>.bool (S j)
theorem QqJ {S:Nat→Bool} {n:Nat}:(bvR S n).length=n:=by simp [bvR]
theorem Qsl {S:Nat→Bool} {n j:Nat} (h:j < n):(bvR S n)[j]? = some (.bool (S j)):=by
 unfold bvR
 rw [List.getElem?_map,List.getElem?_range h]; rfl
theorem QwM {S:Nat→Bool} {n j:Nat}:(bvR S n).set j (.bool true)=bvR (fun x=>decide (x=j) || S x) n:=by
 refine List.ext_getElem? fun i=>?_
 by_cases hi:i < n
 ·rw [Qsl hi]
  by_cases e:j=i
  ·subst e
   rw [List.getElem?_set_self (by rw [QqJ]; exact hi)]; simp
  ·rw [List.getElem?_set_ne e,Qsl hi]
   simp [Ne.symm e]
 ·rw [List.getElem?_eq_none (by rw [List.length_set,QqJ]; omega),List.getElem?_eq_none (by rw [QqJ]; omega)]
theorem Qvm {n:Nat}:zeros [.bool false] n=bvR (fun _=>false) n:=by
 unfold bvR
 rw [List.map_const',List.length_range]
 induction n with
 | zero=>rfl
 | succ n b=>rw [List.replicate_succ,← b,zeros]; rfl
section
variable {C:Ctx} {A H:Heap} {l:List MoP} {sl:Sl}
theorem Qug {a b:Nat} {K:Bool→HP} (T:MpL A sl l) (Z:Fnd l) (a4:l.length≤8) (Y:a < l.length) (hb:b < l.length) (hA:A.le H) (k:∀ D,H.le D→K (reachF l a b) D):QiU C sl (a:Int) (b:Int) K H:=by
 apply Qpt
 unfold Qlx
 rw [T.len]
 refine ⟨by omega,by omega,by omega,by omega,fun B n1=>?_⟩
 rw [show ((l.length:Int)).toNat=l.length by omega,Qvm]
 have I:∀ {S:Nat→Bool},H.le (H.put B (.row (bvR S l.length))):=fun {S}=>Xc n1
 have F:∀ {S:Nat→Bool},A.le (H.put B (.row (bvR S l.length))):=fun {S}=>hA.trans I
 have sto:∀ {S:Nat→Bool} {j:Nat} {x:Int} {J:HP},x=(j:Int)→j < l.length→J (H.put B (.row (bvR (fun y=>decide (y=j) || S y) l.length)))→ixa (Sl.of (some (B,0)) l.length l.length) x fun R=>st (R.1,R.2+x.toNat*1) (.bool true) J (H.put B (.row (bvR S l.length))):=fun {S j x J} hx d X=>by
  subst hx
  refine ⟨_,rfl,rfl,by omega,by simp only [Sl.of]; omega,_,Xa ..,by rw [QqJ]; omega,?_⟩
  dsimp only
  rw [Xh,show 0+((j:Int)).toNat*1=j by omega,QwM]; exact X
 have Q:∀ {S:Nat→Bool} {j:Nat} {J:Bool→Prop},j < l.length→J (S j)→ixa (Sl.of (some (B,0)) l.length l.length) (j:Int) fun R=>ldB (H.put B (.row (bvR S l.length))) (R.1,R.2+((j:Int)).toNat*1) J:=fun {S j J} d X=>
  ⟨_,rfl,rfl,by omega,by simp only [Sl.of]; omega,_,by rw [Qaq (Xa ..),show 0+((j:Int)).toNat*1=j by omega]; exact Qsl d,X⟩
 refine sto rfl Y ?_
 have N:∀ {i:Nat} (hi:i < l.length),∀ x ∈ l[i].im,findN l x.n < l.length:=fun {i} hi x hx=>Z i _ (by
  unfold adj
  rw [Vf hi]
  exact List.mem_map.2 ⟨x,hx,rfl⟩)
 have M:∀ {i:Nat} (hi:i < l.length) {x:ImP},x ∈ l[i].im→findN l x.n ∈ adj l i:=fun {i} hi x hx=>by
  unfold adj
  rw [Vf hi]
  exact List.mem_map.2 ⟨x,hx,rfl⟩
 refine ⟨fun y E=>∃ (r:Nat) (S:Nat→Bool),y=(r:Int)∧r≤l.length∧E=H.put B (.row (bvR S l.length))∧(∀ j,comeF l a r j=true→S j=true)∧∀ j,S j=true→Rc l a j,fun y _=>l.length - y.toNat,⟨0,_,rfl,Nat.zero_le _,rfl,fun j h=>?_,fun j h=>?_⟩,?_⟩
 ·simp only [comeF,Vj] at h
  simp [h]
 ·simp at h
  rw [h]; exact .refl
 rintro _ _ ⟨r,S,rfl,a7,rfl,t,q⟩
 refine ift.of (fun h=>?_) (fun h=>?_)
 ·have a5 : r < l.length := by have := Vb h; omega
  refine ⟨fun y E=>∃ (i:Nat) (S:Nat→Bool),y=(i:Int)∧i≤l.length∧E=H.put B (.row (bvR S l.length))∧(∀ j,comeF l a r j=true→S j=true)∧(∀ j,S j=true→Rc l a j)∧∀ u < i,comeF l a r u=true→∀ j ∈ adj l u,S j=true,fun y _=>l.length - y.toNat,⟨0,S,rfl,Nat.zero_le _,rfl,t,q,fun u h=>by omega⟩,?_⟩
  clear t q
  rintro _ _ ⟨i,S,rfl,a2,rfl,t,q,L⟩
  refine ift.of (fun h=>?_) (fun h=>?_)
  ·have g : i < l.length := by have := Vb h; omega
   refine ⟨fun y E=>∃ (n:Nat) (S:Nat→Bool),y=(n:Int)∧n≤l[i].im.length∧E=H.put B (.row (bvR S l.length))∧(∀ j,comeF l a r j=true→S j=true)∧(∀ j,S j=true→Rc l a j)∧(∀ u < i,comeF l a r u=true→∀ j ∈ adj l u,S j=true)∧∀ x ∈ l[i].im.take n,S (findN l x.n)=true,fun y _=>l[i].im.length - y.toNat,⟨0,S,rfl,Nat.zero_le _,rfl,t,q,L,fun x hx=>by simp at hx⟩,?_⟩
   clear t q L
   rintro _ _ ⟨n,S,rfl,a6,rfl,t,q,L,hx⟩
   refine T.fL F (fun _=>rfl) (by omega) rfl g (j:=1) (f:=Qa.Imports) (fun _=>rfl) fun y hy=>?_
   have O:=hy.2.1.1
   have a3:=O.bd
   rw [O.len]
   refine jv (decide (n < l[i].im.length) && S i) _ (ift.of (fun h=>Q g ⟨rfl,by rw [show decide (n < l[i].im.length)=true from decide_eq_true (by have:=Vb h; omega)]; rfl⟩) (fun h=>⟨rfl,by rw [show decide (n < l[i].im.length)=false from decide_eq_false (by have:=Vc h; omega)]; rfl⟩)) ?_
   refine ift.of (fun h=>?_) (fun h=>?_)
   ·rw [Ve,Vj] at h
    refine T.fL F (fun _=>rfl) (by omega) rfl g (j:=1) (f:=Qa.Imports) (fun _=>rfl) fun y hy=>?_
    refine hy.2.1.1.fS F (fun _=>rfl) (by omega) rfl h.1 (j:=2) (f:=Qq.Name) (fun _=>rfl) fun z hz=>?_
    rw [hz.2.1]
    have P:=N g _ (Vg h.1)
    refine Qme T F ?_
    refine sto (j:=findN l l[i].im[n].n) (by unfold fIx; rw [if_pos P]) P ?_
    rw [Qu (by omega) (by omega)]
    have up:∀ {j},S j=true→(decide (j=findN l l[i].im[n].n) || S j)=true:=fun h=>by rw [h,Bool.or_true]
    refine ⟨⟨n+1,_,by omega,by omega,rfl,fun j d=>up (t j d),fun j d=>?_,fun u G m j d=>up (L u G m j d),fun x o=>?_⟩,by first | omega | (dsimp only; omega)⟩
    ·rw [Bool.or_eq_true,Vj] at d
     rcases d with rfl | d
     ·exact .step (q i h.2) (M g (Vg h.1))
     ·exact q j d
    ·rw [Vp,Vf h.1,Vo,List.mem_append,List.mem_singleton] at o
     rcases o with o | rfl
     ·exact up (hx x o)
     ·simp
   ·rw [Qu (by omega) (by omega)]
    refine ⟨⟨i+1,S,by omega,by omega,rfl,t,q,fun u G m j d=>?_⟩,by first | omega | (dsimp only; omega)⟩
    by_cases e:u=i
    ·subst e
     rw [t _ m,Bool.and_true,decide_eq_false_iff_not] at h
     unfold adj at d
     rw [Vf g] at d
     obtain ⟨x,o,rfl⟩:=List.mem_map.1 d
     exact hx x (by rw [List.take_of_length_le (by omega)]; exact o)
    ·exact L u (by omega) m j d
  ·have U : i = l.length := by have := Vc h; omega
   subst U
   rw [Qu (by omega) (by omega)]
   refine ⟨⟨r+1,S,by omega,by omega,rfl,fun j d=>?_,q⟩,by first | omega | (dsimp only; omega)⟩
   simp only [comeF,Bool.or_eq_true,List.any_eq_true,List.mem_range,Ve] at d
   rcases d with d | ⟨i,hi,m,d⟩
   ·exact t j d
   ·exact L i hi m j (List.contains_iff_mem.1 d)
 ·have W : r = l.length := by have := Vc h; omega
  subst W
  refine Q hb ?_
  have e:S b=reachF l a b:=by
   rw [Vn]
   exact ⟨fun h=>(Qnm Z Y).2 (q b h),fun h=>t b h⟩
  rw [e]
  exact k _ I
theorem Qsq {K:Qb→HP} (M:MpL A sl l) (a9:l.length≤8) (hA:A.le H) (k:∀ D,H.le D→impA l l=none→impBf l 0 l=none→K goodD D)
 (ke:∀ D e,H.le D→(impA l l=some e∨impA l l=none∧impBf l 0 l=some e)→K (fltD e.1 e.2.1 e.2.2) D):Qe1 C sl K H:=by
 apply QnT
 unfold Qjn
 refine box1N fun b1 H2 n1 _ l1 h1=>?_
 have r:=hA.trans l1
 have out:∀ {D:Heap} {n:Str} {p:Pl} {e:Int},H2.le D→(impA l l=some (n,p,e)∨impA l l=none∧impBf l 0 l=some (n,p,e))→stT (b1,0) (Qb.c (⟨(⟨n,psP p⟩:Qc),e⟩:Qb)) (fun G=>ldT G Qb.c (b1,0) fun U=>K U G) D:=fun {D n p e} L he=>
  stAll (L _ _ h1) rfl (bxT (c:=Qb.c) (x:=fltD n p e) (Xa ..) (ke _ (n,p,e) (QP (l1.trans L) n1) he))
 refine lpS M.len M.bd (fun i D=>H2.le D∧impA l l=impA l (l.drop i)) ⟨Heap.le.refl _,rfl⟩ ?_ ?_
 ·rintro i D J hi ⟨L,o⟩ hJ
  rw [List.drop_eq_getElem_cons hi,impA] at o
  have nm:∀ {F:Heap} {I:Str→Prop},H2.le F→I l[i].n→ixa sl (i:Int) fun b=>ldS F ((b.1,b.2+((i:Int)).toNat*6).1,(b.1,b.2+((i:Int)).toNat*6).2+0) I:=fun {F I} hF k'=>
   M.fS (r.trans hF) (fun _=>rfl) (by omega) rfl hi (j:=0) (f:=Qa.Name) (fun _=>rfl) fun y hy=>by rw [hy.1.1]; exact k'
  have T:∀ {F:Heap} {I:Sl→Prop},H2.le F→(∀ s,IpL A s l[i].im→I s)→ixa sl (i:Int) fun b=>ldL F ((b.1,b.2+((i:Int)).toNat*6).1,(b.1,b.2+((i:Int)).toNat*6).2+1) I:=fun {F I} hF k'=>
   M.fL (r.trans hF) (fun _=>rfl) (by omega) rfl hi (j:=1) (f:=Qa.Imports) (fun _=>rfl) fun y hy=>k' _ hy.2.1.1
  refine ⟨fun y E=>∃ n:Nat,y=(n:Int)∧n≤l[i].im.length∧H2.le E∧impA1 l l[i].n [] l[i].im=impA1 l l[i].n ((l[i].im.take n).map ImP.n) (l[i].im.drop n),fun y _=>l[i].im.length - y.toNat,⟨0,rfl,Nat.zero_le _,L,rfl⟩,?_⟩
  rintro _ E ⟨n,rfl,hn,B,g⟩
  refine T B fun s q=>?_
  have a7:=q.bd
  rw [q.len]
  refine ift.of (fun h=>?_) (fun h=>?_)
  ·have t : n < l[i].im.length := by have := Vb h; omega
   rw [List.drop_eq_getElem_cons t,impA1] at g
   refine T B fun s q=>q.ld (r.trans B) (fun _=>rfl) (by omega) rfl t fun z hz=>?_
   refine boxZ rfl fun X W b9 b2 P=>fS P (j:=2) rfl ?_
   rw [hz.2.1]
   have m:=B.trans b2
   refine Qme M (r.trans m) ?_
   have Y:∀ {e:Int},impA1 l l[i].n [] l[i].im=some (l[i].n,l[i].im[n].p,e)→dr W fun O=>ixa sl (i:Int) fun b=>ldS O ((b.1,b.2+((i:Int)).toNat*6).1,(b.1,b.2+((i:Int)).toNat*6).2+0) fun b3=>ldT O Qk.c ((X,0).1,(X,0).2+0) fun b4=>stT (b1,0) (Qb.c (⟨(⟨b3,b4⟩:Qc),e⟩:Qb)) (fun G=>ldT G Qb.c (b1,0) fun U=>K U G) W:=fun {e} he=>
    ⟨W,Heap.le.refl _,nm m (fPs (x:=z.Pos) P rfl rfl (by rw [hz.1]; exact out m (.inl (by rw [o,he]))))⟩
   refine ift.of (fun h=>Y (by
    have h:=Vb h
    unfold fIx at h
    rw [g,if_pos (Nat.le_of_not_lt fun h'=>by rw [if_pos h'] at h; omega)])) (fun h=>?_)
   have N:¬ l.length≤findN l l[i].im[n].n:=fun h'=>by
    have h:=Vc h
    unfold fIx at h
    rw [if_neg (by omega)] at h; omega
   rw [if_neg N] at g
   refine ⟨fun y E=>∃ j:Nat,y=(j:Int)∧j≤n∧E=W∧∀ x ∈ l[i].im.take j,x.n≠l[i].im[n].n,fun y _=>n - y.toNat,⟨0,rfl,Nat.zero_le _,rfl,fun x hx=>by simp at hx⟩,?_⟩
   rintro _ _ ⟨j,rfl,hj,rfl,a1⟩
   refine ift.of (fun h=>?_) (fun h=>?_)
   ·have u : j < n := by have := Vb h; omega
    refine T m fun s q=>q.fS (r.trans m) (fun _=>rfl) (by omega) rfl (Nat.lt_trans u t) (j:=2) (f:=Qq.Name) (fun _=>rfl) fun z2 S=>fS P (j:=2) rfl ?_
    rw [S.2.1,hz.2.1]
    refine ift.of (fun h=>Y ?_) (fun h=>?_)
    ·have h:=eq_of_beq h
     rw [g,if_pos (List.contains_iff_mem.2 (List.mem_map.2 ⟨l[i].im[j],?_,h⟩))]
     exact List.mem_iff_getElem?.2 ⟨j,by rw [List.getElem?_take,if_pos u,Vf (Nat.lt_trans u t)]⟩
    ·rw [Qu (by omega) (by omega)]
     refine ⟨⟨j+1,by omega,by omega,rfl,fun x hx=>?_⟩,by first | omega | (dsimp only; omega)⟩
     rw [Vp,Vf (Nat.lt_trans u t),Vo,List.mem_append,List.mem_singleton] at hx
     rcases hx with hx | rfl
     ·exact a1 x hx
     ·intro e; rw [e] at h; simp at h
   ·have a8 : j = n := by have := Vc h; omega
    subst a8
    rw [if_neg (fun h=>by
     obtain ⟨x,hx,e⟩:=List.mem_map.1 (List.contains_iff_mem.1 h)
     exact a1 x hx e)] at g
    rw [Qu (by omega) (by omega)]
    refine ⟨⟨j+1,by omega,by omega,m,?_⟩,by first | omega | (dsimp only; omega)⟩
    rw [g,show (l[i].im.take (j+1)).map ImP.n=(l[i].im.take j).map ImP.n++[l[i].im[j].n] by rw [Vp,Vf t,Vo,List.map_append]; rfl]
  ·have R : n = l[i].im.length := by have := Vc h; omega
   subst R
   rw [List.drop_length,impA1] at g
   rw [g] at o
   exact hJ _ ⟨B,o⟩
 ·rintro D ⟨L,o⟩
  rw [List.drop_length,impA] at o
  have hf:=Qs3 o
  refine lpS M.len M.bd (fun i D=>H2.le D∧impBf l 0 l=impBf l i (l.drop i)) ⟨L,rfl⟩ ?_ ?_
  ·rintro i D J hi ⟨L,Q⟩ hJ
   rw [List.drop_eq_getElem_cons hi,impBf] at Q
   have T:∀ {F:Heap} {I:Sl→Prop},H2.le F→(∀ s,IpL A s l[i].im→I s)→ixa sl (i:Int) fun b=>ldL F ((b.1,b.2+((i:Int)).toNat*6).1,(b.1,b.2+((i:Int)).toNat*6).2+1) I:=fun {F I} hF k'=>
    M.fL (r.trans hF) (fun _=>rfl) (by omega) rfl hi (j:=1) (f:=Qa.Imports) (fun _=>rfl) fun y hy=>k' _ hy.2.1.1
   refine ⟨fun y E=>∃ n:Nat,y=(n:Int)∧n≤l[i].im.length∧H2.le E∧impB1 l l[i].n i l[i].im=impB1 l l[i].n i (l[i].im.drop n),fun y _=>l[i].im.length - y.toNat,⟨0,rfl,Nat.zero_le _,L,rfl⟩,?_⟩
   rintro _ E ⟨n,rfl,hn,B,g⟩
   refine T B fun s q=>?_
   have a7:=q.bd
   rw [q.len]
   refine ift.of (fun h=>?_) (fun h=>?_)
   ·have t : n < l[i].im.length := by have := Vb h; omega
    rw [List.drop_eq_getElem_cons t,impB1] at g
    refine T B fun s q=>q.fS (r.trans B) (fun _=>rfl) (by omega) rfl t (j:=2) (f:=Qq.Name) (fun _=>rfl) fun z hz=>?_
    rw [hz.2.1]
    have N:findN l l[i].im[n].n < l.length:=hf i _ (by
     unfold adj
     rw [Vf hi]
     exact List.mem_map.2 ⟨_,Vg t,rfl⟩)
    refine Qme M (r.trans B) ?_
    rw [show fIx l l[i].im[n].n=(findN l l[i].im[n].n:Int) by unfold fIx; rw [if_pos N]]
    refine Qug M hf a9 N hi (r.trans B) fun W m=>?_
    have m:=B.trans m
    refine ift.of (fun h=>?_) (fun h=>?_)
    ·rw [if_pos h] at g
     refine ⟨W,Heap.le.refl _,M.fS (r.trans m) (fun _=>rfl) (by omega) rfl hi (j:=0) (f:=Qa.Name) (fun _=>rfl) fun y hy=>T m fun s q=>q.fT (r.trans m) (fun _=>rfl) (by omega) rfl t (j:=0) (d:=Qk.c) (f:=Qq.Pos) (fun y n v h=>by match n,h with | 0,h=>exact h | 1,h=>exact h) fun z2 S=>?_⟩
     rw [hy.1.1,S.1]
     exact out m (.inr ⟨o,by rw [Q,g]⟩)
    ·rw [if_neg (by rw [h]; decide)] at g
     rw [Qu (by omega) (by omega)]
     exact ⟨⟨n+1,by omega,by omega,m,g⟩,by first | omega | (dsimp only; omega)⟩
   ·have R : n = l[i].im.length := by have := Vc h; omega
    subst R
    rw [List.drop_length,impB1] at g
    rw [g] at Q
    exact hJ _ ⟨B,Q⟩
  ·rintro D ⟨L,Q⟩
   rw [List.drop_length,impBf] at Q
   exact Qmf fun D5 Z=>stAll (Z _ _ (L _ _ h1)) rfl (bxT (c:=Qb.c) (Xa ..) (k _ (QP ((l1.trans L).trans Z) n1) o Q))
end
end
section
open Go Go.Proofs
section
variable {α β:Type} {R:Heap→α→β→Prop} {c:β→List Value} {z:Nat} {Z Y D:Heap} {s t:Sl} {l l2:List α}
theorem Gq.app (h:Gq R c z Z D s l) (ht:SlIs (R Y) c Y t l2) (hY:Y.le D) (hz:∀ x,(c x).length=z) (hz0:0 < z) (h1:∀ x,∀ u ∈ c x,u.oneCell' = true) {zc:List Value} (hzc:zc.length=z) {bytes:Nat} {K:Sl→HP} (hb:(l.length+l2.length)*bytes≤140737488355328) (hl:l.length+l2.length≤140737488355328)
 (k:∀ r D2,(∀ Z2,(∀ (v:α) (x:β),R Z v x→R Z2 v x)→(∀ (v:α) (x:β),R Y v x→R Z2 v x)→Gq R c z Z2 D2 r (l++l2))→(Heap.off s D).le D2→Fresh (Heap.off s D) r→K r D2):apS zc bytes s t K D:=by
 have hlen:=h.len hz hz0
 have hlt:=ht.len
 obtain ⟨xs,g1,g2,g3⟩:=h
 obtain ⟨ys,y1,y2,y3,y4,y5⟩:=ht
 subst hzc
 refine Qma g1.off (Qgl hY y1) (by rw [QoH hz,y2]) (fun u hu=>?_) (by rw [hlen,hlt]; exact hb) (by rw [hlen,hlt]; omega) fun r D2 ho hr=>?_
 ·obtain ⟨x,_,hx⟩:=List.mem_flatMap.1 hu
  exact h1 x u hx
 refine k r D2 (fun Z2 hZ hZ2=>⟨xs++ys,?_,by simp [g2,y3],fun i v x hv hx=>?_⟩) ho.le ho.fresh
 ·rw [List.flatMap_append]; exact ho.own
 ·by_cases hi:i < l.length
  ·rw [List.getElem?_append_left hi] at hv
   rw [List.getElem?_append_left (by omega)] at hx
   exact hZ _ _ (g3 i v x hv hx)
  ·rw [List.getElem?_append_right (by omega)] at hv
   rw [List.getElem?_append_right (by omega)] at hx
   exact hZ2 _ _ (y5 _ v x hv (by rw [g2]; exact hx))
end
section
variable {A B W D Y:Heap} {bo:Nat} {q:Qa} {o:MoP} {t:Sl}
theorem Out.appT (h:Out A B W D bo q o) {l:List TdP} (j:SlIs (TpO B Y) Qd.c Y t l) (d:Y.le (offB (blks q) (Heap.nw A B D))) (m:o.ty.length+l.length≤1000000) {K:HP}
 (k:∀ r D3,Out A B W D3 bo { q with Types:=r } { o with ty:=o.ty++l }→Y.le (offB (blks { q with Types:=r }) (Heap.nw A B D3))→K D3):apS (Qd.c Qd.zero) 88 q.Types t (fun r H97=>st ((bo,0).1,(bo,0).2+2) (slv r) (fun H100=>K H100) H97) D:=
 h.gt.app (R:=TpO B) j (d.trans ((Qi5 _ _).trans (Qk9 h.al))) (fun _=>rfl) (by omega) QwB rfl (by omega) (by omega) fun r D2 b hle g=>h.setT hle g (fun Z2 f=>b Z2 (fun v x=>TpO.le f) fun v x=>TpO.le (d.trans f)) fun D3 hO i=>k r D3 hO (d.trans i)
theorem Out.appR (h:Out A B W D bo q o) {l:List RdP} (j:SlIs (RpO B Y) Qh.c Y t l) (d:Y.le (offB (blks q) (Heap.nw A B D))) (m:o.re.length+l.length≤1000000) {K:HP}
 (k:∀ r D3,Out A B W D3 bo { q with Rels:=r } { o with re:=o.re++l }→Y.le (offB (blks { q with Rels:=r }) (Heap.nw A B D3))→K D3):apS (Qh.c Qh.zero) 64 q.Rels t (fun r H97=>st ((bo,0).1,(bo,0).2+3) (slv r) (fun H100=>K H100) H97) D:=
 h.gr.app (R:=RpO B) j (d.trans ((Qi5 _ _).trans (Qk9 h.al))) (fun _=>rfl) (by omega) Qww rfl (by omega) (by omega) fun r D2 b hle g=>h.setR hle g (fun Z2 f=>b Z2 (fun v x=>RpO.le f) fun v x=>RpO.le (d.trans f)) fun D3 hO i=>k r D3 hO (d.trans i)
theorem Out.appU (h:Out A B W D bo q o) {l:List RuP} (j:SlIs (UpO B Y) Qi.c Y t l) (d:Y.le (offB (blks q) (Heap.nw A B D))) (m:o.ru.length+l.length≤1000000) {K:HP}
 (k:∀ r D3,Out A B W D3 bo { q with Rules:=r } { o with ru:=o.ru++l }→Y.le (offB (blks { q with Rules:=r }) (Heap.nw A B D3))→K D3):apS (Qi.c Qi.zero) 104 q.Rules t (fun r H97=>st ((bo,0).1,(bo,0).2+4) (slv r) (fun H100=>K H100) H97) D:=
 h.gu.app (R:=UpO B) j (d.trans ((Qi5 _ _).trans (Qk9 h.al))) (fun _=>rfl) (by omega) Qwy rfl (by omega) (by omega) fun r D2 b hle g=>h.setU hle g (fun Z2 f=>b Z2 (fun v x=>UpO.le f) fun v x=>UpO.le (d.trans f)) fun D3 hO i=>k r D3 hO (d.trans i)
theorem Out.appN (h:Out A B W D bo q o) {l:List NeP} (i:NpL Y t l) (d:Y.le (offB (blks q) (Heap.nw A B D))) (j:o.ne.length+l.length≤1000000) {K:HP}
 (k:∀ r D3,Out A B W D3 bo { q with Nevers:=r } { o with ne:=o.ne++l }→K D3):apS (Qo.c Qo.zero) 56 q.Nevers t (fun r H97=>st ((bo,0).1,(bo,0).2+5) (slv r) (fun H100=>K H100) H97) D:=
 h.gn.app (R:=NpIs) i (d.trans ((Qi5 _ _).trans (Qk9 h.al))) (fun _=>rfl) (by omega) QuM rfl (by omega) (by omega) fun r D2 b hle g=>h.setN hle g (fun Z2 f=>b Z2 (fun v x=>NpIs.le f) fun v x=>NpIs.le (d.trans f)) fun D3 hO m=>k r D3 hO
end
theorem Qs2 {l:List MoP} {m:Str}:∀ {r:List ImP} {ps:List Str} {e:Er},impA1 l m ps r=some e→e.2.2≠0
 | [],ps,e,h=>by simp [impA1] at h
 | x::r,ps,e,h=>by
  rw [impA1] at h
  split at h
  ·injection h with h; subst h; simp
  ·split at h
   ·injection h with h; subst h; simp
   ·exact Qs2 h
theorem Quz {l:List MoP}:∀ {r:List MoP} {e:Er},impA l r=some e→e.2.2≠0
 | [],e,h=>by simp [impA] at h
 | m::r,e,h=>by
  rw [impA] at h
  split at h
  ·rename_i h1; injection h with h; subst h; exact Qs2 h1
  ·exact Quz h
theorem Qs4 {l:List MoP} {m:Str} {i:Nat}:∀ {r:List ImP} {e:Er},impB1 l m i r=some e→e.2.2≠0
 | [],e,h=>by simp [impB1] at h
 | x::r,e,h=>by
  rw [impB1] at h
  split at h
  ·injection h with h; subst h; simp
  ·exact Qs4 h
theorem Qs5 {l:List MoP}:∀ {r:List MoP} {i:Nat} {e:Er},impBf l i r=some e→e.2.2≠0
 | [],i,e,h=>by simp [impBf] at h
 | m::r,i,e,h=>by
  rw [impBf] at h
  split at h
  ·rename_i h1; injection h with h; subst h; exact Qs4 h1
  ·exact Qs5 h
theorem Qtn:∀ {l:List TdP} {ts cs:List Str} {e:Pl×Int},tolTy l ts cs=some e→e.2≠0
 | [],ts,cs,e,h=>by simp [tolTy] at h
 | t::l,ts,cs,e,h=>by
  rw [tolTy] at h
  split at h
  ·injection h with h; subst h; simp
  ·split at h
   ·injection h with h; subst h; simp
   ·exact Qtn h
theorem Qtm:∀ {l:List RdP} {ts:List Str} {e:Pl×Int},tolRe l ts=some e→e.2≠0
 | [],ts,e,h=>by simp [tolRe] at h
 | t::l,ts,e,h=>by
  rw [tolRe] at h
  split at h
  ·injection h with h; subst h; simp
  ·split at h
   ·injection h with h; subst h; simp
   ·exact Qtm h
theorem Qtl:∀ {l:List NeP} {ts:List Str} {e:Pl×Int},tolNe l ts=some e→e.2≠0
 | [],ts,e,h=>by simp [tolNe] at h
 | t::l,ts,e,h=>by
  rw [tolNe] at h
  split at h
  ·injection h with h; subst h; simp
  ·exact Qtl h
theorem Qxs {m:MoP} {e:Pl×Int} (h:tolF m=some e):e.2≠0:=by
 unfold tolF at h
 split at h
 ·rename_i b; injection h with h; subst h; exact Qtn b
 ·split at h
  ·rename_i b; injection h with h; subst h; exact Qtm b
  ·exact Qtl h
section
variable {l:List MoP} {e:Er} (h0:¬ l.length=0) (h8:¬ 8 < l.length)
include h0 h8
theorem Quv (h:singleF [] l=some e):flatF l=.error e:=by
 unfold flatF
 rw [if_neg h0,if_neg h8,h]
theorem QwV (h:singleF [] l=none) (hi:impA l l=some e∨impA l l=none∧impBf l 0 l=some e):flatF l=.error e:=by
 unfold flatF
 rw [if_neg h0,if_neg h8,h]
 dsimp only
 rcases hi with hi | ⟨hi,b⟩
 ·rw [hi]
 ·rw [hi]
  dsimp only
  rw [b]
theorem QwW (h:singleF [] l=none) (hi:impA l l=none) (b:impBf l 0 l=none) (hn:namesAll l []=.error e):flatF l=.error e:=by
 unfold flatF
 rw [if_neg h0,if_neg h8,h]
 dsimp only
 rw [hi]
 dsimp only
 rw [b]
 dsimp only
 rw [hn]
theorem QwX {T:Tl} (h:singleF [] l=none) (hi:impA l l=none) (b:impBf l 0 l=none) (hn:namesAll l []=.ok T):flatF l=if totB l=true then .error ([],(0,0),3) else usedAll T ⟨(l.head?.map MoP.n).getD [],[],[],[],[],[]⟩ l:=by
 unfold flatF
 rw [if_neg h0,if_neg h8,h]
 dsimp only
 rw [hi]
 dsimp only
 rw [b]
 dsimp only
 rw [hn]
end
theorem Qto {T:Tl} {m:MoP}:(∀ {p},usedF T mo0 m=.error p→∀ o,usedF T o m=.error p)∧∀ {o2},usedF T mo0 m=.ok o2→∀ o,usedF T o m=.ok ⟨o.n,o.im,o.ty++o2.ty,o.re++o2.re,o.ru++o2.ru,o.ne++o2.ne⟩:=by
 unfold usedF
 cases mpE (tdF T m) m.ty with
 | error p=>exact ⟨fun h o=>h,fun h=>by cases h⟩
 | ok a=>
  dsimp only
  cases mpE (rdF T m) m.re with
  | error p=>exact ⟨fun h o=>h,fun h=>by cases h⟩
  | ok b=>
   dsimp only
   cases mpE (ruF T m) m.ru with
   | error p=>exact ⟨fun h o=>h,fun h=>by cases h⟩
   | ok c=>
    dsimp only
    cases mpE (neF T m) m.ne with
    | error p=>exact ⟨fun h o=>h,fun h=>by cases h⟩
    | ok d=>exact ⟨fun h=>(by cases h),fun h o=>by injection h with h; subst h; rfl⟩
end
section
open Go Go.Proofs
theorem QxP:∀ {l:List MoP} (h:0 < l.length),(l.head?.map MoP.n).getD []=l[0].n
 | [],h=>by simp at h
 | m::l,_=>rfl
section
variable {C:Ctx} {A H:Heap} {l:List MoP} {sl:Sl}
theorem dimportsG {K:Qb→HP} (m:MpL A sl l) (h0:¬ l.length=0) (h8:¬ 8 < l.length) (g:singleF [] l=none) (j:A.le H)
 (k:∀ f D,H.le D→(f=goodD∧impA l l=none∧impBf l 0 l=none∨∃ e:Er,f=fltD e.1 e.2.1 e.2.2∧e.2.2≠0∧flatF l=.error e)→K f D):Qe1 C sl K H:=
 Qsq m (by omega) j (fun D d a b=>k _ D d (.inl ⟨rfl,a,b⟩)) fun D e d i=>k _ D d (.inr ⟨e,rfl,i.elim Quz (fun h=>Qs5 h.2),QwV h0 h8 g i⟩)
theorem QsV {K:Qa→Qc→Int→HP} (Q:MpL A sl l) (hA:A.le H) (hd:∀ m ∈ l,moD m.e≤4611686018427387904)
 (k:∀ q D o,flatF l=.ok o→H.le D→MpIs (Heap.nw A H D) o q→K q ⟨[],psP (0,0)⟩ 0 D)
 (ke:∀ D e,flatF l=.error e→H.le D→K Qa.zero ⟨e.1,psP e.2.1⟩ e.2.2 D):QeZ C sl K H:=by
 have f9:=Q.len
 apply QnS
 unfold Qjm
 refine box1N fun u H2 n1 _ l1 h1=>box1N fun b3 H4 n3 _ l3 h3=>?_
 have q1:H u=none:=n1
 have q3:H b3=none:=l1.none n3
 have b5:u≠b3:=fun e=>by rw [← e,h1] at n3; cases n3
 have g1:=l3 _ _ h1
 have S:=l1.trans l3
 have a1:=hA.trans S
 have i3:∀ {D X:Heap} {q:Qa} {w:Qc} {n:Int},H4.le D→X.le D→X u=none→X b3=none→(∀ E,(∀ b,b≠u→b≠b3→E b=D b)→K q w n E)→
  stT (u,0) (Qa.c q) (fun L=>Heap.le X L∧stT (b3,0) (Qc.c w) (fun r=>Heap.le X r∧ldT r Qa.c (u,0) fun W=>ldT r Qc.c (b3,0) fun Y=>K W Y n r) L) D:=fun {D X q w n} z hX x1 x3 k'=>by
  refine stAll (z _ _ g1) rfl ⟨QP hX x1,stAll ((Xb _ _ _ b5.symm).trans (z _ _ h3)) rfl ⟨QP (QP hX x1) x3,bxT (c:=Qa.c) (by rw [Xb _ _ _ b5]; exact Xa ..) (bxT (c:=Qc.c) (Xa ..) (k' _ fun b q1 q3=>?_))⟩⟩
  rw [Xb _ _ _ q3,Xb _ _ _ q1]
 have b6:∀ {D X:Heap} {e:Er},H4.le D→X.le D→X u=none→X b3=none→flatF l=.error e→
  stT (u,0) (Qa.c Qa.zero) (fun L=>Heap.le X L∧stT (b3,0) (Qc.c ⟨e.1,psP e.2.1⟩) (fun r=>Heap.le X r∧ldT r Qa.c (u,0) fun W=>ldT r Qc.c (b3,0) fun Y=>K W Y e.2.2 r) L) D:=fun {D X e} z hX x1 x3 he=>
  i3 z hX x1 x3 fun E hE=>ke _ _ he (QgL (S.trans z) q1 q3 hE)
 have d2:∀ {D:Heap} {q:Qa} {w:Qc} {n:Int},H4.le D→(∀ E,(∀ b,b≠u→b≠b3→E b=D b)→K q w n E)→
  stT (u,0) (Qa.c q) (fun L=>stT (b3,0) (Qc.c w) (fun r=>ldT r Qa.c (u,0) fun W=>ldT r Qc.c (b3,0) fun Y=>K W Y n r) L) D:=fun {D q w n} z k'=>by
  refine stAll (z _ _ g1) rfl (stAll ((Xb _ _ _ b5.symm).trans (z _ _ h3)) rfl (bxT (c:=Qa.c) (by rw [Xb _ _ _ b5]; exact Xa ..) (bxT (c:=Qc.c) (Xa ..) (k' _ fun b q1 q3=>?_))))
  rw [Xb _ _ _ q3,Xb _ _ _ q1]
 have er:∀ {D:Heap} {e:Er},H4.le D→flatF l=.error e→stT (u,0) (Qa.c Qa.zero) (fun L=>stT (b3,0) (Qc.c ⟨e.1,psP e.2.1⟩) (fun r=>ldT r Qa.c (u,0) fun W=>ldT r Qc.c (b3,0) fun Y=>K W Y e.2.2 r) L) D:=fun {D e} z he=>
  d2 z fun E hE=>ke _ _ he (QgL (S.trans z) q1 q3 hE)
 have wz:∀ {D:Heap},wo2 u b3 D u=none∧wo2 u b3 D b3=none:=fun {D}=>⟨by simp [wo2],by simp [wo2]⟩
 refine ift.of (fun h=>er (e:=([],(0,0),1)) (Heap.le.refl _) (by unfold flatF; rw [if_pos (by have:=eq_of_beq h; omega)])) (fun h=>?_)
 have h0:¬ l.length=0:=fun e=>by rw [f9,e] at h; simp at h
 refine ift.of (fun h=>er (e:=([],(0,0),3)) (Heap.le.refl _) (by unfold flatF; rw [if_neg h0,if_pos (by have:=Vb h; omega)])) (fun h=>?_)
 have h8:¬ 8 < l.length:=by have:=Vc h; omega
 refine lpS Q.len Q.bd (fun i D=>H4.le D∧singleF [] l=singleF ((l.take i).map MoP.n) (l.drop i)) ⟨Heap.le.refl _,by simp⟩ ?_ ?_
 ·rintro i D J hi ⟨z,hn⟩ hJ
  refine Q.ld (a1.trans z) (fun _=>rfl) (by omega) rfl hi fun y hy=>?_
  refine Quc (MpIs.e hy) (a1.trans z) (hd _ (Vg hi)) ?_
  have f7:=QkP (l:=l) (s:=l[i].n) (i:=i) (by omega)
  have j2:findN l l[i].n < l.length:=by have:=Qnk hi; omega
  have j5:(l.take i).map MoP.n++[l[i].n]=(l.take (i+1)).map MoP.n:=by rw [Vp,Vf hi,Vo,List.map_append]; rfl
  rw [QbK hi,singleF,j5] at hn
  have e7:∀ {F:Heap} {K':Str→Prop},A.le F→K' l[i].n→ixa sl (i:Int) fun c8=>ldS F ((c8.1,c8.2+((i:Int)).toNat*6).1,(c8.1,c8.2+((i:Int)).toNat*6).2+0) K':=fun {F K'} hF k'=>Q.fS hF (fun _=>rfl) (by omega) rfl hi (j:=0) (f:=Qa.Name) (fun _=>rfl) fun y hy=>by rw [hy.1.1]; exact k'
  have k5:fIx l l[i].n=(findN l l[i].n:Int):=by unfold fIx; rw [if_pos j2]
  generalize l[i]=m at *
  refine ⟨fun x F=>F=D∧x=if moC m.e=0∧findN l m.n < i then 6 else moC m.e,?_,?_⟩
  ·refine jv (decide (moC m.e = 0 ∧ findN l m.n < i)) D (ift.of (fun h => e7 (a1.trans z) (Qme Q (a1.trans z) ⟨rfl, ?_⟩)) (fun h => ⟨rfl, ?_⟩)) (ift.of (fun h => ⟨rfl, ?_⟩) (fun h => ⟨rfl, ?_⟩))
   ·rw [k5,Vm]
    have:=eq_of_beq h
    exact ⟨fun h=>⟨this,by omega⟩,fun h=>by omega⟩
   ·exact (decide_eq_false fun h'=>by rw [h'.1] at h; simp at h).symm
   ·rw [if_pos (Vb h)]
   ·rw [if_neg (Vc h)]
  ·rintro _ _ ⟨rfl,rfl⟩
   by_cases hc:moC m.e=0
   ·rw [if_neg (by simpa using hc)] at hn
    by_cases hf:findN l m.n < i
    ·rw [if_pos (f7.1 hf)] at hn
     rw [if_pos ⟨hc,hf⟩]
     exact QaK rfl ⟨wo2 u b3 _,QcJ,e7 (hA.trans (Qtq (S.trans z) q1 q3)) (b6 (e:=(m.n,(0,0),6)) z QcJ wz.1 wz.2 (Quv h0 h8 hn))⟩
    ·rw [if_neg fun e => hf (f7.2 e)] at hn
     rw [if_neg fun h=>hf h.2,hc]
     exact Qaw rfl (hJ _ ⟨z,hn⟩)
   ·rw [if_pos hc] at hn
    rw [if_neg fun h=>hc h.1]
    exact QaK (by simpa using hc) ⟨wo2 u b3 _,QcJ,e7 (hA.trans (Qtq (S.trans z) q1 q3)) (b6 (e:=(m.n,(0,0),moC m.e)) z QcJ wz.1 wz.2 (Quv h0 h8 hn))⟩
 rintro D ⟨z,a6⟩
 rw [List.drop_length,singleF] at a6
 obtain ⟨j4,e5,_⟩:=Qhy a6
 have hG:∀ m ∈ l,MoG m:=fun m hm=>moG (j4 m hm)
 refine dimportsG Q h0 h8 a6 (a1.trans z) fun f D2 O hf=>?_
 refine boxZ rfl fun a3 D3 a9 k6 N=>?_
 have h2:=z.trans O
 refine ⟨fun y E=>∃ (i:Nat) (f:Qb),y=(i:Int)∧i≤l.length∧D2.le E∧E a3=some (true,.row (Qb.c f))∧((f=goodD∧impA l l=none∧impBf l 0 l=none)∧tolAll l=tolAll (l.drop i)∨∃ e:Er,f=fltD e.1 e.2.1 e.2.2∧e.2.2≠0∧flatF l=.error e),fun y _=>l.length - y.toNat,⟨0,f,rfl,Nat.zero_le _,k6,N,hf.imp (fun h=>⟨h,rfl⟩) id⟩,?_⟩
 clear hf N
 rintro _ E ⟨i,f,rfl,f8,hE,N,hf⟩
 have n4:=Q.bd
 refine jv (decide (i < l.length) && decide (f.e_=0)) E (ift.of (fun h=>fI (j:=3) N rfl ⟨rfl,?_⟩) (fun h=>⟨rfl,?_⟩)) ?_
 ·rw [show decide (i < l.length) = true from decide_eq_true (by have := Vb h; omega)]
  cases hx:decide (f.e_=0) with
  | true=>rw [Vb hx]; rfl
  | false=>simpa using Vc hx
 ·rw [show decide (i < l.length)=false from decide_eq_false (by have:=Vc h; omega)]; rfl
 have G:=a1.trans (h2.trans hE)
 have d9:f.e_=0→(f=goodD∧impA l l=none∧impBf l 0 l=none)∧tolAll l=tolAll (l.drop i):=fun h=>hf.elim id fun ⟨e,h1,h2,_⟩=>absurd (by rw [h1] at h; exact h) h2
 have b0:∀ {D4:Heap} {g:GO},E.le D4→D2.le (D4.put a3 g):=fun R=>QP (hE.trans R) a9
 refine ift.of (fun h=>?_) (fun h=>?_)
 ·rw [Ve,Vj,Vj] at h
  obtain ⟨hi,a5⟩:=h
  obtain ⟨⟨rfl,c5,c6⟩,t⟩:=d9 a5
  rw [QbK hi,tolAll] at t
  refine Q.ld G (fun _=>rfl) (by omega) rfl hi fun y hy=>?_
  refine QvC hy (hG _ (Vg hi)) G (fun D4 R ht=>stAll (R _ _ N) rfl ?_) (fun D4 p e R ht=>stAll (R _ _ N) rfl ?_)
  ·rw [ht] at t
   rw [Qu (by omega) (by omega)]
   exact ⟨⟨i+1,goodD,by omega,by omega,b0 R,Xa ..,.inl ⟨⟨rfl,c5,c6⟩,t⟩⟩,by first | omega | (dsimp only; omega)⟩
  ·rw [ht] at t
   rw [Qu (by omega) (by omega)]
   have e6:=Qkc (l:=l) (T0:=[]) (fun _ _ _ _=>rfl) e5
   rw [t] at e6
   exact ⟨⟨i+1,fltD l[i].n p e,by omega,by omega,b0 R,Xa ..,.inr ⟨(l[i].n,p,e),rfl,Qxs ht,QwW h0 h8 a6 c5 c6 e6⟩⟩,by first | omega | (dsimp only; omega)⟩
 have f4:=S.trans (h2.trans hE)
 refine fI (j:=3) N rfl (ift.of (fun b7=>?_) (fun b7=>?_))
 ·have d6 : a3 ≠ u ∧ a3 ≠ b3 := ⟨fun e => (by rw [e, h2 _ _ g1] at a9; cases a9), fun e => (by rw [e, h2 _ _ h3] at a9; cases a9)⟩
  rcases hf with ⟨⟨rfl,_⟩,_⟩ | ⟨e,rfl,e6,he⟩
  ·exact absurd b7 (by decide)
  ·have g71':wo2 u b3 E a3=_:=(Qcg d6.1 d6.2).trans N
   exact ⟨wo2 u b3 E,QcJ,fT (c:=Qc.c) (x:=⟨e.1,psP e.2.1⟩) (j:=0) g71' (fun i v h=>by match i,h with | 0,h=>exact h | 1,h=>exact h | 2,h=>exact h) (fI (j:=3) g71' rfl (b6 (h2.trans hE) QcJ wz.1 wz.2 he))⟩
 have a5:f.e_=0:=by simpa using b7
 obtain ⟨⟨rfl,c5,c6⟩,t⟩:=d9 a5
 have e4:i=l.length:=by
  rw [a5,Bool.and_eq_false_iff] at h
  rcases h with h | h
  ·have:=Vc h; omega
  ·simp at h
 subst e4
 rw [List.drop_length,tolAll] at t
 have hT:=Qkc (l:=l) (T0:=[]) (fun _ _ _ _=>rfl) e5
 rw [t] at hT
 obtain ⟨T,hT⟩:=hT
 have U:=QwX h0 h8 a6 c5 c6 hT
 have P:=h2.trans hE
 clear b7 h a5 t d9 b0
 refine ⟨fun y F=>F=E∧∃ i:Nat,i≤l.length∧y=((total MoP.ty (l.take i):Int),(total MoP.re (l.take i):Int),(total MoP.ru (l.take i):Int),(total MoP.ne (l.take i):Int),(i:Int)),fun y _=>l.length - y.2.2.2.2.toNat,⟨rfl,0,Nat.zero_le _,by simp [total]⟩,?_⟩
 rintro _ E' ⟨rfl,i,f8,rfl⟩
 dsimp only
 refine ift.of (fun h=>?_) (fun h=>?_)
 ·have hi : i < l.length := by have := Vb h; omega
  have hg:=hG _ (Vg hi)
  have c0:∀ m ∈ l.take i,MoG m:=fun m hm=>hG m (List.mem_of_mem_take hm)
  have t1:=QkT (f:=MoP.ty) (B:=256) (l:=l.take i) fun m hm=>Nat.le_trans (c0 m hm).lt (by omega)
  have t2:=QkT (f:=MoP.re) (B:=256) (l:=l.take i) fun m hm=>Nat.le_trans (c0 m hm).lr (by omega)
  have t3:=QkT (f:=MoP.ru) (B:=256) (l:=l.take i) fun m hm=>(c0 m hm).lu
  have t4:=QkT (f:=MoP.ne) (B:=256) (l:=l.take i) fun m hm=>(c0 m hm).ln
  rw [List.length_take,Nat.min_eq_left f8] at t1 t2 t3 t4
  have g1:=hg.lt
  have g2:=hg.lr
  have g3:=hg.lu
  have g4:=hg.ln
  refine Q.fL G (fun _=>rfl) (by omega) rfl hi (j:=2) (f:=Qa.Types) (fun _=>rfl) fun y1 j7=>Q.fL G (fun _=>rfl) (by omega) rfl hi (j:=3) (f:=Qa.Rels) (fun _=>rfl) fun y2 j8=>Q.fL G (fun _=>rfl) (by omega) rfl hi (j:=4) (f:=Qa.Rules) (fun _=>rfl) fun y3 j9=>Q.fL G (fun _=>rfl) (by omega) rfl hi (j:=5) (f:=Qa.Nevers) (fun _=>rfl) fun y4 k0=>?_
  rw [j7.2.2.1.len,j8.2.2.2.1.len,j9.2.2.2.2.1.len,k0.2.2.2.2.2.len,Qu (by omega) (by omega),Qu (by omega) (by omega),Qu (by omega) (by omega),Qu (by omega) (by omega),Qu (by omega) (by omega)]
  refine ⟨⟨rfl,i+1,by omega,?_⟩,by first | omega | (dsimp only; omega)⟩
  rw [QdG hi,QdG hi,QdG hi,QdG hi]
  simp
 have e4:i=l.length:=by have:=Vc h; omega
 subst e4
 rw [Vl]
 have g0:(decide ((total MoP.ty l:Int) > 64) || decide ((total MoP.re l:Int) > 64) || decide ((total MoP.ru l:Int) > 256) || decide ((total MoP.ne l:Int) > 256))=totB l:=by
  unfold totB
  rw [show decide ((total MoP.ty l:Int) > 64)=decide (64 < total MoP.ty l) from by rw [Vm]; omega,show decide ((total MoP.re l:Int) > 64)=decide (64 < total MoP.re l) from by rw [Vm]; omega,show decide ((total MoP.ru l:Int) > 256)=decide (256 < total MoP.ru l) from by rw [Vm]; omega,show decide ((total MoP.ne l:Int) > 256)=decide (256 < total MoP.ne l) from by rw [Vm]; omega]
 rw [g0]
 refine ift.of (fun h=>er (e:=([],(0,0),3)) P (by rw [U,if_pos h])) (fun h=>?_)
 rw [if_neg (by rw [h]; decide)] at U
 refine Q.fS G (fun _=>rfl) (by omega) (x:=0) (i:=0) rfl (by omega) (j:=0) (f:=Qa.Name) (fun _=>rfl) fun y0 j6=>?_
 refine boxZ rfl fun I D6 g6 a0 d3=>?_
 have m8:=f4.trans a0
 have j3:=QxP (l:=l) (by omega)
 rw [j3] at U
 have i6:Out A D6 E' D6 I ⟨y0.Name,Sl.nil,Sl.nil,Sl.nil,Sl.nil,Sl.nil⟩ ⟨l[0].n,[],[],[],[],[]⟩:=⟨fun _ h=>h,G.trans a0,G,a0,d3,⟨_,d3⟩,g6,List.nodup_nil,(fun b M=>by cases M),⟨j6.1.1,rfl,rfl⟩,Gq.nil,Gq.nil,Gq.nil,Gq.nil⟩
 have a4:∀ b,D6 b=none→H b=none∧b≠u∧b≠b3:=fun b M=>by
  have:=(P.trans a0).none M
  exact ⟨S.none this,fun e=>(by rw [e,g1] at this; cases this),fun e=>(by rw [e,h3] at this; cases this)⟩
 refine lpS Q.len Q.bd (fun i D=>∃ q o,usedAll T ⟨l[0].n,[],[],[],[],[]⟩ l=usedAll T o (l.drop i)∧Out A D6 E' D I q o∧o.ty.length≤64*i∧o.re.length≤64*i∧o.ru.length≤256*i∧o.ne.length≤256*i) ⟨_,_,rfl,i6,by simp,by simp,by simp,by simp⟩ ?_ ?_
 ·rintro i D J hi ⟨q,o,hu,hO,l6,l7,l8,l9⟩ hJ
  rw [QbK hi,usedAll] at hu
  have hg:=hG _ (Vg hi)
  have m4:=hg.lt
  have m5:=hg.lr
  have m6:=hg.lu
  have m7:=hg.ln
  refine QvD Q hi rfl (Qya e5 hT hi) hg hO.al (fun q2 D2 o2 O c7 hM=>?_) (fun q2 D2 p O c7=>?_)
  ·obtain ⟨c1,c2,c3,c4,_⟩:=Qo9 c7
   simp only [mo0,Vk,Nat.zero_add] at c1 c2 c3 c4
   rw [Qto.2 c7] at hu
   dsimp only at hu
   refine dbox2 rfl rfl fun d a2 D3 l3 a7 a8 ne d4 Z=>fI (j:=3) Z rfl (Qaw rfl ?_)
   have b9:=hO.up (O.trans l3)
   have g7:E' d=none:=(hO.wle.trans O).none a7
   have d8:D d=none:=O.none a7
   have j1:I≠d:=fun e=>by have:=hO.at_; rw [e,d8] at this; cases this
   have lW:E'.le (E'.put d (.row (Qa.c q2))):=Xc g7
   have e0:Out A D6 (E'.put d (.row (Qa.c q2))) D3 I q o:=b9.keep (G.trans lW) (fun b e M=>by
    by_cases hbb:b=d
    ·subst hbb; rw [Xa] at M; rw [d4]; exact M
    ·rw [Xb _ _ _ hbb] at M; exact b9.wle _ _ M) (by rw [Xb _ _ _ j1]; exact hO.wo) fun b M=>by
     have:b≠d:=fun e=>by
      obtain ⟨e',h'⟩:=hO.has b M
      rw [e,d8] at h'; cases h'
     rw [Xb _ _ _ this]; exact (hO.fr b M).2
   have gW:(E'.put d (.row (Qa.c q2))) d=some (true,.row (Qa.c q2)):=Xa ..
   have back:∀ {D' q' o'},Out A D6 (E'.put d (.row (Qa.c q2))) D' I q' o'→Out A D6 E' D' I q' o':=fun h=>h.keep G (lW.trans h.wle) hO.wo fun b M=>lW.none (h.fr b M).2
   have hY:(Heap.nw A D D2).le (offB (blks q) (Heap.nw A D6 D3)):=(QlW hO.ab hO.dom fun b M=>⟨hO.has b M,hO.xA b M⟩).trans (QdT l3)
   obtain ⟨k1,k2,k3,k4⟩:=hM.le (Heap.le.refl _) hO.dom
   generalize E'.put d (.row (Qa.c q2))=W' at *
   refine fL e0.at_ (j:=2) rfl (fL (e0.wle _ _ gW) (j:=2) rfl (e0.appT k1 hY (by omega) fun r1 D4 e1 i8=>?_))
   refine fL e1.at_ (j:=3) rfl (fL (e1.wle _ _ gW) (j:=3) rfl (e1.appR k2 i8 (by dsimp only; omega) fun r2 D5 e2 i9=>?_))
   refine fL e2.at_ (j:=4) rfl (fL (e2.wle _ _ gW) (j:=4) rfl (e2.appU k3 i9 (by dsimp only; omega) fun r3 l5 e3 j0=>?_))
   refine fL e3.at_ (j:=5) rfl (fL (e3.wle _ _ gW) (j:=5) rfl (e3.appN k4 j0 (by dsimp only; omega) fun r4 D7 i7=>?_))
   exact hJ _ ⟨_,_,hu,back i7,by simp only [Va]; omega,by simp only [Va]; omega,by simp only [Va]; omega,by simp only [Va]; omega⟩
  ·rw [Qto.1 c7] at hu
   dsimp only at hu
   refine dbox2 rfl rfl fun d a2 D3 l3 a7 a8 ne d4 Z=>fI (j:=3) Z rfl (QaK rfl ?_)
   have b9:=hO.wle.trans (O.trans l3)
   have nx:∀ {b e},H4 b=some e→a2≠b:=fun h e'=>by rw [e',O _ _ (hO.wle _ _ (P _ _ h))] at a8; cases a8
   have g173':wo2 u b3 D3 a2=_:=(Qcg (nx g1) (nx h3)).trans Z
   exact ⟨wo2 u b3 D3,QcJ,fT (c:=Qc.c) (x:=⟨l[i].n,psP p⟩) (j:=0) g173' (fun i v h=>by match i,h with | 0,h=>exact h | 1,h=>exact h | 2,h=>exact h) (fI (j:=3) g173' rfl (b6 (e:=(l[i].n,p,63)) (P.trans b9) QcJ wz.1 wz.2 (by rw [U,hu])))⟩
 ·rintro D ⟨q,o,hu,hO,_⟩
  rw [List.drop_length,usedAll] at hu
  rw [hu] at U
  obtain ⟨T',hF⟩:=Qsu U
  refine bxT (c:=Qa.c) hO.at_ (d2 (w:=⟨[],psP (0,0)⟩) (P.trans hO.wle) fun F f3=>k q F o U (QgL (f4.trans hO.wle) q1 q3 f3) (MpIs.le (QrQ hA (fun b M=>(a4 b M).1) fun b e z1 z2=>?_) (hO.is hF)))
  rw [f3 b (a4 b z1).2.1 (a4 b z1).2.2]; exact z2
end
end
section
open Go Go.Proofs
abbrev spS:Str:=[115,112,111,105,108,116]
structure Sp (B D F F':Heap):Prop where
 same:∀ b,B b≠none∨D b=none→F' b=F b
 row:∀ b c,D b=some (true,.row c)→∃ c',F' b=some (true,.row c')∧c'.length=c.length∧∀ (j:Nat) (s:Sl),c[j]? = some (slv s)→c'[j]? = some (slv s)
section
variable {B D F F':Heap}
theorem Sp.refl (h:D.le F):Sp B D F F:=⟨fun _ _=>rfl,fun b c d=>⟨c,h _ _ d,rfl,fun _ _ h=>h⟩⟩
theorem Sp.put (h:Sp B D F F') {b j:Nat} {c g:List Value} (f:D b=some (true,.row c)) (r:B b=none) (t:F' b=some (true,.row g)) (u:∀ s,c[j]? ≠ some (slv s)) (v:Value):Sp B D F (F'.put b (.row (g.set j v))):=by
 refine ⟨fun x hx=>?_,fun x m hx=>?_⟩
 ·have : x ≠ b := fun e => by
   subst e
   rcases hx with hx | hx
   ·exact hx r
   ·rw [f] at hx; cases hx
  rw [Xb _ _ _ this]; exact h.same x hx
 ·by_cases e:x=b
  ·subst e
   rw [f] at hx
   injection hx with hx
   injection hx with _ hx
   injection hx with hx
   subst hx
   obtain ⟨y,d,o,q⟩:=h.row x c f
   rw [t] at d
   injection d with d
   injection d with _ d
   injection d with d
   subst d
   refine ⟨_,Xa ..,by rw [List.length_set,o],fun i s hi=>?_⟩
   have:j≠i:=fun e=>by subst e; exact u s hi
   rw [List.getElem?_set_ne this]; exact q i s hi
  ·rw [Xb _ _ _ e]; exact h.row x m hx
variable {α β:Type} {R:α→β→Prop} {c:β→List Value} {z:Nat} {s:Sl} {l:List α}
theorem Sp.at_ (ho:OwS B D z s) (hs:SlIs R c D s l) (hz:∀ x,(c x).length=z) {i:Nat} {x:Int} {K:Nat×Nat→Prop} (hx:x=(i:Int)) (hi:i < l.length)
 (k:∀ b cs y,D b=some (true,.row cs)→B b=none→R l[i] y→(∀ j,j < z→cs[0+x.toNat*z+j]? = (c y)[j]?)→K (b,0)):ixa s x K:=by
 have hlen:=hs.len
 obtain ⟨xs,h1,h2,h3,h4,h5⟩:=hs
 rcases ho with ho | ⟨b,cs,g1,g2,g3,g4,g5⟩
 ·omega
 have hi2:i < xs.length:=by omega
 have hg:=Vf hi2
 subst hx
 refine ⟨(b,0),g1,g2,by omega,by omega,k b cs xs[i] g3 g5 (h5 i _ _ (Vf hi) hg) fun j hj=>?_⟩
 have e0:(i:Int).toNat=i:=by omega
 have hjc:j < (c xs[i]).length:=by rw [hz]; exact hj
 have hf:=QkQ c z hz xs i _ hg j _ (Vf hjc)
 rcases h1 with h1 | ⟨_,p,hp,hr⟩
 ·rw [h1] at hf; simp at hf
 ·rw [g1] at hp
  injection hp with hp
  subst hp
  have:=Qi7 hr _ _ hf
  rw [Qaq g3,← Vf hjc] at this
  rw [e0,Nat.add_assoc]; exact this
theorem Sp.sto (h:Sp B D F F') (E:OwS B D z s) (G:SlIs R c D s l) (q:∀ x,(c x).length=z) {i j:Nat} {x:Int} {v:Value} {K:HP} (hx:x=(i:Int)) (hi:i < l.length) (d:j < z) (hn:∀ y t,(c y)[j]? ≠ some (slv t)) (k:∀ F2,Sp B D F F2→K F2) :
 ixa s x fun p=>st ((p.1,p.2+x.toNat*z).1,(p.1,p.2+x.toNat*z).2+j) v K F':=
 Sp.at_ E G q hx hi fun b cs y m A hy o=>by
  obtain ⟨r,g,u,I⟩:=h.row b cs m
  have e:=o j d
  have f:j < (c y).length:=by rw [q]; exact d
  rw [Vf f] at e
  have C:=(List.getElem?_eq_some_iff.1 e).1
  exact ⟨r,g,by rw [u]; exact C,k _ (h.put m A g (fun t H=>hn y t (by rw [← o j d]; exact H)) v)⟩
theorem Sp.lod (h:Sp B D F F') (t:OwS B D z s) (u:SlIs R c D s l) (A:∀ x,(c x).length=z) {i j:Nat} {x:Int} {K:Sl→Prop} (hx:x=(i:Int)) (hi:i < l.length) (r:j < z) {f:β→Sl} (q:∀ y,(c y)[j]? = some (slv (f y))) (k:∀ y,R l[i] y→K (f y)) :
 ixa s x fun p=>ldL F' ((p.1,p.2+x.toNat*z).1,(p.1,p.2+x.toNat*z).2+j) K:=
 Sp.at_ t u A hx hi fun b cs y m G hy o=>by
  obtain ⟨C,d,E,g⟩:=h.row b cs m
  exact ⟨f y,by rw [Qaq d]; exact g _ _ (by rw [o j r]; exact q y),k y hy⟩
theorem Sp.inn (h:Sp B D F F') {b1 jm:Nat} {cs1:List Value} (hb1:F b1=some (true,.row cs1)) (hD1:D b1=none) (hj1:cs1[jm]? = some (slv s)) (ho:OwS B D z s) (hs:SlIs R c D s l) (hz:∀ x,(c x).length=z) {i jf:Nat} (hi:i < l.length) (hjf:jf < z)
 {f:β→Sl} (hf:∀ y,(c y)[jf]? = some (slv (f y))) {γ δ:Type} {R2:γ→δ→Prop} {c2:δ→List Value} {z2 j2:Nat} {g:List γ} (hin:∀ y,R l[i] y→OwS B D z2 (f y)∧SlIs R2 c2 D (f y) g) (hz2:∀ x,(c2 x).length=z2) (hj2:j2 < z2) (hn:∀ y t,(c2 y)[j2]? ≠ some (slv t)) {REST:HP}
 (k:∀ F2,Sp B D F F2→REST F2) :
 lp (α := Int) 0 F' (fun x17 J18 H19 => ldL H19 ((b1, 0).1, (b1, 0).2 + jm) fun x20 => ixa x20 (i : Int) fun p22 => ldL H19 ((p22.1, p22.2 + ((i : Int)).toNat * z).1, (p22.1, p22.2 + ((i : Int)).toNat * z).2 + jf) fun x27 => ift (decide ((x17 : Int) < (Sl.len x27 : Int)))
  (ldL H19 ((b1,0).1,(b1,0).2+jm) fun x30=>ixa x30 (i:Int) fun p32=>ldL H19 ((p32.1,p32.2+((i:Int)).toNat*z).1,(p32.1,p32.2+((i:Int)).toNat*z).2+jf) fun x37=>ixa x37 x17 fun p39=>st ((p39.1,p39.2+(x17:Int).toNat*z2).1,(p39.1,p39.2+(x17:Int).toNat*z2).2+j2) (sv spS) (fun H44=>J18 (w .i64 (x17+1)) H44) H19)
  (REST H19)):=by
 refine ⟨fun y E=>∃ n:Nat,y=(n:Int)∧n≤g.length∧Sp B D F E,fun y _=>g.length - y.toNat,⟨0,rfl,Nat.zero_le _,h⟩,?_⟩
 clear h
 rintro _ E ⟨n,rfl,hn',h⟩
 have hE1:E b1=some (true,.row cs1):=(h.same b1 (.inr hD1)).trans hb1
 refine fL hE1 hj1 (h.lod ho hs hz rfl hi hjf hf fun y hy=>?_)
 have hl:=(hin y hy).2.len
 have hbd:=(hin y hy).2.bd
 rw [hl]
 refine ift.of (fun hh=>?_) (fun hh=>k E h)
 have hlt:n < g.length:=by have:=Vb hh; omega
 refine fL hE1 hj1 (h.lod ho hs hz rfl hi hjf hf fun y hy=>?_)
 refine h.sto (hin y hy).1 (hin y hy).2 hz2 rfl hlt hj2 hn fun F2 h2=>?_
 rw [Qu (by omega) (by omega)]
 exact ⟨⟨n+1,by omega,by omega,h2⟩,by first | omega | (dsimp only; omega)⟩
end
section
variable {C:Ctx} {B D F:Heap}
theorem Qui {o:MoP} {q:Qa} {K:HP} (Q:Mo4 B D o q) (G:OwS B D 6 q.Types) (P:OwS B D 6 q.Rels) (H:OwS B D 6 q.Rules) (L:D.le F) (k:∀ F2,(∀ b e,F b=some e→B b≠none∨D b=none→F2 b=some e)→K F2):QiQ C q K F:=by
 obtain ⟨z,I,A,S⟩:=Q
 have b1':=z.bd
 have b2':=I.bd
 have b3':=A.bd
 apply Qpi
 unfold Qlm
 refine box1N fun x H2 n1 _ M m=>?_
 have g:D x=none:=L.none n1
 refine ⟨fun y E=>∃ i:Nat,y=(i:Int)∧i≤o.ty.length∧Sp B D H2 E,fun y _=>o.ty.length - y.toNat,⟨0,rfl,Nat.zero_le _,Sp.refl (L.trans M)⟩,?_⟩
 rintro _ E ⟨i,rfl,u,h⟩
 refine fL ((h.same x (.inr g)).trans m) (j:=2) rfl ?_
 rw [z.len]
 refine ift.of (fun r=>?_) (fun r=>?_)
 ·have hi : i < o.ty.length := by have := Vb r; omega
  refine fL ((h.same x (.inr g)).trans m) (j:=2) rfl (h.sto G z (fun _=>rfl) rfl hi (by decide) (fun y t d=>by injection d with d; cases d) fun N h=>?_)
  refine h.inn m g rfl G z (fun _=>rfl) hi (by decide) (jf:=4) (f:=Qd.Params) (fun _=>rfl) (z2:=1) (j2:=0) (fun y hy=>⟨hy.2.1,hy.1.2.2.2.1.1⟩) (fun _=>rfl) (by decide) (fun y t d=>by injection d with d; cases d) fun J h=>?_
  refine h.inn m g rfl G z (fun _=>rfl) hi (by decide) (jf:=5) (f:=Qd.Cons) (fun _=>rfl) (z2:=2) (j2:=0) (fun y hy=>⟨hy.2.2,hy.1.2.2.2.2⟩) (fun _=>rfl) (by decide) (fun y t d=>by injection d with d; cases d) fun O h=>?_
  rw [Qu (by omega) (by omega)]
  exact ⟨⟨i+1,by omega,by omega,h⟩,by first | omega | (dsimp only; omega)⟩
 refine ⟨fun y E=>∃ i:Nat,y=(i:Int)∧i≤o.re.length∧Sp B D H2 E,fun y _=>o.re.length - y.toNat,⟨0,rfl,Nat.zero_le _,h⟩,?_⟩
 clear h r u i
 rintro _ E ⟨i,rfl,u,h⟩
 refine fL ((h.same x (.inr g)).trans m) (j:=3) rfl ?_
 rw [I.len]
 refine ift.of (fun r=>?_) (fun r=>?_)
 ·have hi : i < o.re.length := by have := Vb r; omega
  refine h.inn m g rfl P I (fun _=>rfl) hi (by decide) (jf:=5) (f:=Qh.Fields) (fun _=>rfl) (z2:=3) (j2:=0) (fun y hy=>⟨hy.2,hy.1.2.2.2.2⟩) (fun _=>rfl) (by decide) (fun y t d=>by injection d with d; cases d) fun J h=>?_
  rw [Qu (by omega) (by omega)]
  exact ⟨⟨i+1,by omega,by omega,h⟩,by first | omega | (dsimp only; omega)⟩
 refine ⟨fun y E=>∃ i:Nat,y=(i:Int)∧i≤o.ru.length∧Sp B D H2 E,fun y _=>o.ru.length - y.toNat,⟨0,rfl,Nat.zero_le _,h⟩,?_⟩
 clear h r u i
 rintro _ E ⟨i,rfl,u,h⟩
 refine fL ((h.same x (.inr g)).trans m) (j:=4) rfl ?_
 rw [A.len]
 refine ift.of (fun r=>?_) (fun r=>?_)
 ·have hi : i < o.ru.length := by have := Vb r; omega
  refine h.inn m g rfl H A (fun _=>rfl) hi (by decide) (jf:=4) (f:=Qi.Aggs) (fun _=>rfl) (z2:=1) (j2:=0) (fun y hy=>⟨hy.2.2.1,hy.1.2.2.2.1⟩) (fun _=>rfl) (by decide) (fun y t d=>by injection d with d; cases d) fun N h=>?_
  refine h.inn m g rfl H A (fun _=>rfl) hi (by decide) (jf:=3) (f:=Qi.Args) (fun _=>rfl) (z2:=9) (j2:=3) (fun y hy=>⟨hy.2.1,hy.1.2.2.1⟩) (fun _=>rfl) (by decide) (fun y t d=>by injection d with d; cases d) fun J h=>?_
  refine h.inn m g rfl H A (fun _=>rfl) hi (by decide) (jf:=5) (f:=Qi.Body) (fun _=>rfl) (z2:=5) (j2:=3) (fun y hy=>⟨hy.2.2.2,hy.1.2.2.2.2⟩) (fun _=>rfl) (by decide) (fun y t d=>by injection d with d; cases d) fun O h=>?_
  rw [Qu (by omega) (by omega)]
  exact ⟨⟨i+1,by omega,by omega,h⟩,by first | omega | (dsimp only; omega)⟩
 exact k E fun b e R hx=>(h.same b hx).trans (M _ _ R)
end
end
section
open Go Go.Proofs
theorem Gq.owS {α β:Type} {R:Heap→α→β→Prop} {c:β→List Value} {z:Nat} {Z B D:Heap} {s:Sl} {l:List α} (h:Gq R c z Z D s l) (i:∀ b ∈ bk s,B b=none):OwS B D z s:=by
 obtain ⟨xs,⟨f,g,j,⟨hp,h0⟩ | ⟨b,m,hp,d,_⟩⟩,_,_⟩:=h
 ·exact .inl (by omega)
 ·exact .inr ⟨b,_,hp,g,d,by rw [Va,f]; omega,i b (Qgn.2 ⟨_,hp,rfl⟩)⟩
theorem Qwp {A:Heap}:MpIs A mo0 Qa.zero:=⟨⟨rfl,by decide⟩,⟨SlIs.nil,Nat.le_refl _⟩,SlIs.nil,SlIs.nil,SlIs.nil,SlIs.nil⟩
structure WrO (A D:Heap) (o:MoP) (q:Qa) (B D0:Heap):Prop where
 is:MpIs D o q
 m4:Mo4 B D0 o q
 ty:OwS B D0 6 q.Types
 re:OwS B D0 6 q.Rels
 ru:OwS B D0 6 q.Rules
 le:D0.le D
 ak:∀ b e,A b=some e→B b≠none∨D0 b=none
section
variable {C:Ctx} {A H:Heap} {l:List MoP} {sl:Sl}
theorem Qt9 (hT:MaxC C) (hs:MpL A sl l) (hd:∀ m ∈ l,moD m.e≤4611686018427387904) (hz:∀ m ∈ l,moSz m.e≤268435456):∃ (o:MoP) (w:Qc) (n:Int),(moPl o).length≤4294967296∧
 (∀ {H:Heap} {K:Qa→Qc→Int→HP},A.le H→(∀ q D B D0,H.le D→WrO A D o q B D0→K q w n D)→QbN C sl K H)∧
 ∀ {H:Heap} {K:Qa→Qc→Int→HP},A.le H→(∀ q D,H.le D→MpIs (Heap.nw A H D) o q→K q w n D)→QeZ C sl K H:=by
 cases hf:flatF l with
 | error e=>
  refine ⟨mo0,⟨e.1,psP e.2.1⟩,e.2.2,by decide,fun {H K} hA k=>Qm2 hT hs hA hd (fun D B W bo q o ho=>by rw [hf] at ho; cases ho) (fun D e' he hD=>?_),fun {H K} hA k=>QsV hs hA hd (fun q D o ho=>by rw [hf] at ho; cases ho) (fun D e' he hD=>?_)⟩
  ·rw [hf] at he; injection he with he; subst he
   exact k _ D (fun _=>none) (fun _=>none) hD ⟨Qwp,⟨SlIs.nil,SlIs.nil,SlIs.nil,SlIs.nil⟩,.inl rfl,.inl rfl,.inl rfl,fun b e h=>(by cases h),fun _ _ _=>.inr rfl⟩
  ·rw [hf] at he; injection he with he; subst he
   exact k _ D hD Qwp
 | ok o=>
  obtain ⟨T,hF⟩:=Qsu hf
  obtain ⟨f1,f2,f3,f4,f5⟩:=hF.len
  refine ⟨o,⟨[],psP (0,0)⟩,0,hF.pl hz,fun {H K} hA k=>Qm2 hT hs hA hd (fun D B W bo q o' ho hB hW hO=>?_) (fun D e' he hD=>by rw [hf] at he; cases he),fun {H K} hA k=>QsV hs hA hd (fun q D o' ho hD hM=>?_) (fun D e' he hD=>by rw [hf] at he; cases he)⟩
  ·rw [hf] at ho; injection ho with ho; subst ho
   have hfr:∀ b ∈ blks q,B b=none:=fun b hb=>(hO.fr b hb).1
   exact k q D B D (hW.trans hO.wle) ⟨MpIs.le (Qk9 hO.al) (hO.is hF),(hO.mo4 (by omega) (by omega) (by omega) (by omega)).le (Qk9 hO.al) fun _ h=>h,hO.gt.owS fun b hb=>hfr b (Vi _ hb),hO.gr.owS fun b hb=>hfr b (Vh _ (Vi _ hb)),hO.gu.owS fun b hb=>hfr b (Vh _ (Vh _ (Vi _ hb))),Heap.le.refl _,fun b e hb=>.inl (by rw [hO.ab b e hb]; exact fun h=>by cases h)⟩
  ·rw [hf] at ho; injection ho with ho; subst ho
   exact k q D hD hM
theorem Qm3 (Q:MaxC C) (Z:FmtC C) {s:Sl} {K:Bool→HP} (hs:MpL H s l) (hz:∀ m ∈ l,moSz m.e≤16777216) (hl:l.length≤16777216) (k:∀ D,K true D):Qa7 C s K H:=by
 apply QiC
 unfold Qfh
 refine QvI Q Z hs (Heap.le.refl _) hz hl fun b1 H2 O a3=>ift.of (fun _=>QsN Q fun D _=>k D) (fun h1=>?_)
 obtain ⟨c4,a4⟩:=a3 h1
 obtain ⟨o,w,n,hp,r,U⟩:=Qt9 (C:=C) Q hs (fun m hm=>Nat.le_trans (a4 m hm) (by omega)) fun m hm=>Nat.le_trans (hz m hm) (by omega)
 refine r O fun q D B D0 hD g=>?_
 refine dbox2 rfl rfl fun b6 b12 R l1 c5 c6 d1 d t=>?_
 have u:=O.trans (hD.trans l1)
 refine U u fun q2 D2 y P=>?_
 refine dbox2 rfl rfl fun T b7 S l3 a7 c7 d2 I J=>?_
 have f:=y.trans l3
 have d:=f _ _ d
 have t:=f _ _ t
 have N:=l1.trans f
 have X:=u.trans f
 have a1:(Heap.nw H R D2).le S:=(Qk9 (u.trans y)).trans l3
 refine jv false S (Qaw (by simp) (bxT (c:=Qc.c) t (fS J (j:=0) rfl (fPs (x:=w.Pos) J rfl rfl ⟨rfl,by rw [Qjc.2 rfl]; rfl⟩)))) ?_
 refine jw false S (Qaw rfl (bxT (c:=Qa.c) d (bxT (c:=Qa.c) I (Qti (MpIs.le N g.is) (MpIs.le a1 P) (Heap.le.refl _) hp hp fun b F A i _=>⟨A,by rw [i rfl rfl]; rfl⟩)))) fun F A=>Qaw rfl ?_
 refine bxT (c:=Qa.c) (A _ _ d) (Qui g.m4 g.ty g.re g.ru (g.le.trans (N.trans A)) fun F2 E=>?_)
 have d0:∀ {b},R b=none→D0 b=none:=fun h=>g.le.none (l1.none h)
 have M:H.le F2:=fun b e i=>E b e (A _ _ (X _ _ i)) (g.ak b e i)
 have a0:(Heap.nw H R D2).le F2:=fun b e i=>by
  rcases QgK i with ⟨z1,z2⟩ | z
  ·exact E b e (A _ _ (l3 _ _ z2)) (.inr (d0 z1))
  ·exact M b e z
 have g20':=E T _ (A _ _ I) (.inr (d0 (y.none a7)))
 refine r M fun q3 D5 B5 b5 Y a2=>?_
 refine dbox2 rfl rfl fun b8 b9 D6 l6 c8 c9 d3 W c0=>?_
 have L:=Y.trans l6
 refine bxT (c:=Qa.c) W (bxT (c:=Qa.c) (L _ _ g20') (Qti (MpIs.le l6 a2.is) (MpIs.le (a0.trans L) P) (Heap.le.refl _) hp hp fun b G hG i _=>jn.inl (QnY (i rfl rfl) (QsN Q fun D _=>k D))))
end
end
end Sx
end
