/-
  Texts of this family, one behind the other: Mod9, Mod10, Mod11, Mod12, Mod13, Mod14, Mod15, Mod16, Mod17, Mod18, Mod19, Mod20, Mod21, Mod22, Mod23, Mod24, Mod25, Mod26, Mod27, ModR, MoRAhead, U, RowIAhead.
-/
import Derived.Test.YtmeefnmaphmpkaaGreatDoorBA5
import Derived.Test.YtmeefnmaphmpkaaGreatDoorRows
import Derived.JoinedCond
noncomputable section
set_option linter.unusedVariables false
set_option linter.unusedSimpArgs false
set_option maxRecDepth 10000
namespace Sx
section
open Go Go.Proofs
theorem moC0 {m:MoV} (h:moC m=0):moD m≤64∧moOk m=true∧moFew m=true:=by
 unfold moC at h
 split at h
 ·cases h
 ·split at h
  ·cases h
  ·split at h
   ·cases h
   ·rename_i h1 h2 h3
    exact ⟨by omega,by simpa using h2,by simpa using h3⟩
/-- what is known of a module that passes -/
structure MoG (m:MoP):Prop where
 n:m.n.length≤32
 im:∀ x ∈ m.im,x.n.length≤32
 ty:∀ t ∈ m.ty,tdOk t.e=true
 re:∀ t ∈ m.re,rdOk t.e=true
 ru:∀ t ∈ m.ru,ruOk t.e=true∧t.b.length≤12
 ne:∀ t ∈ m.ne,neOk t.e=true∧t.b.length≤12
 li:m.im.length≤8
 lt:m.ty.length≤64
 lr:m.re.length≤64
 lu:m.ru.length≤256
 ln:m.ne.length≤256
theorem moG {m:MoP} (h:moC m.e=0):MoG m:=by
 obtain ⟨_,h1,h2⟩:=moC0 h
 unfold moOk moFew MoP.e at *
 simp only [Bool.and_eq_true,decide_eq_true_eq,List.all_map,List.all_eq_true,Function.comp_def,List.length_map,RuP.e,NeP.e] at h1 h2
 obtain ⟨⟨⟨⟨⟨a1,a2⟩,a3⟩,a4⟩,a5⟩,a6⟩:=h1
 obtain ⟨⟨⟨⟨⟨⟨b1,b2⟩,b3⟩,b4⟩,b5⟩,b6⟩,b7⟩:=h2
 exact ⟨(Qfb a1).1,fun x hx=>(Qfb (a2 x hx)).1,a3,a4,fun t ht=>⟨a5 t ht,b6 t ht⟩,fun t ht=>⟨a6 t ht,b7 t ht⟩,b1,b2,b3,b4,b5⟩
section
variable {C:Ctx} {A B W H:Heap} {E:Value→Heap→Prop}
theorem Qu7 {T:Tl} {m o:MoP} {bp bm bo:Nat} {sl:Sl} {x q:Qa} {K:Heap→Prop} (hO:Out A B W H bo q o) (hP:Pr W bp bm sl) (hT:TlIs W bm T) (hm:MpIs A m x) (hg:MoG m)
 (hb:o.ty.length≤900000∧o.re.length≤900000∧o.ru.length≤900000∧o.ne.length≤900000)
 (k:∀ D q' o',usedF T o m=.ok o'→Out A B W D bo q' o'→K D) (ke:∀ D q' o' p,Out A B W D bo q' o'→usedF T o m=.error p→E (flt m.n p 63) D):Qc8 C E (some (bp,0)) (some (bo,0)) x K H:=by
 obtain ⟨m1,m2,m3,m4,m5,m6⟩:=hm
 have hn:=hg.n
 have gt:=hg.lt
 have gr:=hg.lr
 have gu:=hg.lu
 have gn:=hg.ln
 apply Qi6
 unfold QeY
 refine box1N fun b1 H2 n1 e1 l1 h1=>fL h1 (j:=2) rfl ?_
 have hO2:=hO.up l1
 have hWn:W b1=none:=hO.wle.none n1
 have hW1:W.le (W.put b1 (.row (Qa.c x))):=Heap.le_put hWn
 have h1W:(W.put b1 (.row (Qa.c x))) b1=some (true,.row (Qa.c x)):=Heap.put_same ..
 have hne:∀ b,(∃ e,H b=some e)→b≠b1:=fun b ⟨e,he⟩ e'=>by rw [e',n1] at he; cases he
 have hO3:Out A B (W.put b1 (.row (Qa.c x))) H2 bo q o:=hO2.keep (hO2.aw.trans hW1) (by
  rw [e1]
  intro b e hb
  by_cases hbb:b=b1
  ·subst hbb; rw [Heap.put_same] at hb ⊢; exact hb
  ·rw [Heap.put_ne _ _ _ hbb] at hb ⊢; exact hO.wle b e hb) (by rw [Heap.put_ne _ _ _ (hne bo ⟨_,hO.at_⟩)]; exact hO.wo) fun b hb=>by rw [Heap.put_ne _ _ _ (hne b (hO.has b hb))]; exact (hO.fr b hb).2
 have back:∀ {D q' o'},Out A B (W.put b1 (.row (Qa.c x))) D bo q' o'→Out A B W D bo q' o':=fun h=>h.keep hO.aw (hW1.trans h.wle) hO.wo fun b hb=>hW1.none (h.fr b hb).2
 have hP1:=hP.le hW1
 have hT1:=hT.le hW1
 generalize W.put b1 (.row (Qa.c x))=W1 at *
 refine uTypes m1.1 m2.1 (by omega) hO3 h1W hP1 hT1 m3 hg.ty (by omega) (fun D1 q1 a ha hOa=>?_) (fun D q' o' p hO' hp=>ke D q' o' p (back hO') (by unfold usedF; rw [hp]))
 have la:=Qcn ha
 refine fL (hOa.wle _ _ h1W) (j:=3) rfl ?_
 refine uRels m1.1 m2.1 (by omega) hOa h1W hP1 hT1 m4 hg.re (by dsimp only; omega) (fun D2 q2 b hb2 hOb=>?_) (fun D q' o' p hO' hp=>ke D q' o' p (back hO') (by unfold usedF; rw [ha]; dsimp only; rw [hp]))
 refine fL (hOb.wle _ _ h1W) (j:=4) rfl ?_
 refine uRules m1.1 m2.1 (by omega) hOb h1W hP1 hT1 m5 hg.ru (by dsimp only; omega) (fun D3 q3 c hc hOc=>?_) (fun D q' o' p hO' hp=>ke D q' o' p (back hO') (by unfold usedF; rw [ha]; dsimp only; rw [hb2]; dsimp only; rw [hp]))
 refine fL (hOc.wle _ _ h1W) (j:=5) rfl ?_
 refine uNevers m1.1 m2.1 (by omega) hOc h1W hP1 hT1 m6 hg.ne (by dsimp only; omega) (fun D4 q4 d hd hOd=>?_) (fun D q' o' p hO' hp=>ke D q' o' p (back hO') (by unfold usedF; rw [ha]; dsimp only; rw [hb2]; dsimp only; rw [hc]; dsimp only; rw [hp]))
 exact k D4 q4 _ (by unfold usedF; rw [ha]; dsimp only; rw [hb2]; dsimp only; rw [hc]; dsimp only; rw [hd]) (back hOd)
end
end
section
open Go Go.Proofs
theorem Qnv (ps:List Str):∀ l:List TyV,freeTys ps l=l.any (freeTy ps)
 | []=>rfl
 | v::l=>by rw [freeTys,Qnv ps l,List.any_cons]
theorem Qry (ps:List Str) (v:TyV):freeTy ps v=if v.n.headD 0=39 then !ps.contains v.n else v.a.any (freeTy ps):=by
 obtain ⟨n,a⟩:=v
 rw [freeTy,Qnv]; rfl
theorem SlIs.nil {α β:Type} {R:α→β→Prop} {c:β→List Value} {A:Heap}:SlIs R c A Sl.nil ([]:List α):=⟨[],.inl rfl,rfl,rfl,by simp,fun i v x h=>by simp at h⟩
theorem Qq4 {β:Type} {c:β→List Value} {z:Nat} (hz:∀ x,(c x).length=z):∀ (n:Nat) (xs:List β),(xs.take n).flatMap c=(xs.flatMap c).take (n*z)
 | 0,xs=>by simp
 | n+1,[]=>by simp
 | n+1,x::xs=>by
  rw [List.take_succ_cons,List.flatMap_cons,List.flatMap_cons,Qq4 hz n xs,List.take_append,hz,List.take_of_length_le (l:=c x) (by rw [hz,Nat.succ_mul]; omega),Nat.succ_mul,Nat.add_sub_cancel]
/-- a beginning of a list -/
theorem SlIs.pre {α β:Type} {R:α→β→Prop} {c:β→List Value} {z:Nat} {A:Heap} {s:Sl} {l:List α} {i:Nat} {e:Int} {K:Sl→Prop} (h:SlIs R c A s l) (hz:∀ x,(c x).length=z) (hc:s.len≤s.cap) (he:e=(i:Int)) (hi:i≤l.length) (k:∀ t,SlIs R c A t (l.take i)→K t):slL s 0 e (s.cap:Int) z K:=by
 subst he
 obtain ⟨xs,h1,h2,h3,h4,h5⟩:=h
 have r1:=QrI h1 (lo:=0) (hi:=(i:Int)) (mx:=(s.cap:Int)) (z:=z) (by omega) (by omega) (by omega) (by simp)
 rw [show (0:Int).toNat*z=0 by simp,List.drop_zero,show ((i:Int) - 0).toNat=i by omega,← Qq4 hz] at r1
 simp only [show ((s.cap:Int) - 0).toNat=s.cap by omega] at r1
 refine ⟨by omega,by omega,by omega,by omega,_,rfl,k _ ⟨xs.take i,?_,?_,?_,?_,?_⟩⟩
 ·simpa using r1
 ·simp only [List.length_take]; omega
 ·simp only [List.length_take]; omega
 ·simp only [List.length_take]; omega
 ·intro j v x hv hx
  rw [List.getElem?_take] at hv hx
  split at hv
  ·rename_i hj
   rw [if_pos hj] at hx
   exact h5 j v x hv hx
  ·cases hv
section
variable {C:Ctx} {A:Heap} {E:Value→Heap→Prop}
theorem Quy:∀ (v:TyV),tyOk v=true→∀ {t:Qg} {H:Heap} {s:Sl} {ps:List Str} {K:Bool→Heap→Prop},A.le H→TyIs A v t→StL A s ps→(∀ D,H.le D→K (freeTy ps v) D)→QfX C t s K H:=by
 refine TyV.rec_ fun v ih hok t H s ps K hA ht hs k=>?_
 obtain ⟨hN,hok⟩:=(Qrl v).1 hok
 obtain ⟨hnl,hne,hal⟩:=Qrk hN
 obtain ⟨ht1,ht2⟩:=Qeq.1 ht
 rw [Qry] at k
 apply Qn7
 unfold QkW
 refine box1N fun b1 H2 n1 _ l1 h1=>box1N fun b3 H4 n3 _ l3 h3=>?_
 have h1:=l3 _ _ h1
 have hH4:=l1.trans l3
 refine fS h1 rfl ?_
 rw [ht1.1]
 obtain ⟨c,cs,hc⟩:=List.exists_cons_of_ne_nil hne
 refine ⟨c,by omega,by rw [hc]; rfl,?_⟩
 have hh:v.n.headD 0=c:=by rw [hc]; rfl
 rw [hh] at k
 refine ift.of (fun h=>?_) (fun h=>?_)
 ·have hc9 : c = 39 := by
   have h':(c.toNat:Int)=39:=by simpa using h
   have:c.toNat=39:=by omega
   exact UInt8.toNat_inj.1 (by rw [this]; rfl)
  rw [if_pos hc9] at k
  refine ⟨s,by rw [QaF h3]; rfl,fS h1 rfl ?_⟩
  rw [ht1.1]
  exact contS hs (hA.trans hH4) (k _ hH4)
 ·have hc9 : c ≠ 39 := fun e => by rw [e] at h; exact absurd h (by decide)
  rw [if_neg hc9] at k
  refine fL h1 rfl ?_
  refine cfType (R:=TyIs A) (ok:=freeTy ps) ht2 (hA.trans hH4) ?_ fun D hD=>k D (hH4.trans hD)
  intro w hw y D Φ hD hy hΦ
  refine ⟨203,[],[pv (some (b3,0))],rfl,QmO,QmH C y (b3,0) Φ D ?_⟩
  unfold QiV
  refine box1N fun b2 H3 _ _ l2 h2=>bxT (c:=Qg.c) h2 ⟨s,by rw [QaF (l2 _ _ (hD _ _ h3))]; rfl,?_⟩
  exact ih w hw (hok w hw) ((hA.trans hH4).trans (hD.trans l2)) hy hs fun D2 hD2=>hΦ D2 (l2.trans hD2)
theorem QsD {H:Heap} {s q:Sl} {ps:List Str} {l:List FdV} {K:Bool→Heap→Prop} (hA:A.le H) (hl:FdL A q l) (hok:∀ f ∈ l,tyOk f.t=true) (hs:StL A s ps) (k:∀ D,H.le D→K (openF ps l) D):QfY C q s K H:=by
 apply Qn8
 unfold QkX
 refine box1N fun b1 H2 n1 _ l1 h1=>?_
 refine cfFieldDef (R:=FdIs A) (ok:=fun f=>freeTy ps f.t) hl (hA.trans l1) ?_ fun D hD=>k D (l1.trans hD)
 intro w hw y D Φ hD hy hΦ
 refine ⟨153,[],[pv (some (b1,0))],rfl,QmP,QmI C y (b1,0) Φ D ?_⟩
 unfold QiW
 refine box1N fun b2 H3 _ _ l2 h2=>fT (c:=Qg.c) (x:=y.Type_) h2 (fun i v hv=>by match i,hv with | 0,hv=>exact hv | 1,hv=>exact hv) ⟨s,by rw [QaF (l2 _ _ (hD _ _ h1))]; rfl,?_⟩
 exact Quy w.t (hok w hw) ((hA.trans l1).trans (hD.trans l2)) hy.2 hs fun D2 hD2=>hΦ D2 (l2.trans hD2)
end
def Kp (bm:Nat) (H D:Heap):Prop:=(H.del bm).le D
section
variable {bm:Nat} {A H D D2:Heap}
theorem Kp.of (h:H.le D):Kp bm H D:=(Heap.del_le _ _).trans h
theorem Kp.refl:Kp bm H H:=Heap.del_le _ _
theorem Kp.at_ (h:Kp bm H D) {b:Nat} {e:Bool×GO} (hb:b≠bm) (he:H b=some e):D b=some e:=h b e (by rw [Heap.del_ne _ hb]; exact he)
theorem Kp.trans (h:Kp bm H D) (h2:Kp bm D D2):Kp bm H D2:=fun b e hb=>by
 have hne:b≠bm:=fun e'=>by rw [e',Heap.del_same] at hb; cases hb
 rw [Heap.del_ne _ hne] at hb
 exact h2.at_ hne (h.at_ hne hb)
theorem Kp.al (h:Kp bm H D) (hA:A.le H) (hn:A bm=none):A.le D:=fun b e hb=>h.at_ (fun e'=>by rw [e',hn] at hb; cases hb) (hA b e hb)
theorem Kp.pr {bp bq:Nat} {sl:Sl} (h:Kp bm H D) (hn:bp≠bm) (hP:Pr H bp bq sl):Pr D bp bq sl:=by
 obtain ⟨m,hP⟩:=hP.at_
 exact ⟨m,h.at_ hn hP⟩
theorem TlIs.has {T:Tl} (h:TlIs H bm T):∃ e,H bm=some e:=by
 obtain ⟨l,⟨es,ck,h1⟩,_⟩:=h
 exact ⟨_,h1.at_⟩
end
theorem Qra {κ α:Type} [DecidableEq κ] {k k2:κ} {b:α}:∀ {T:List (κ×α)},lkL k T=none→lkL k2 (T++[(k,b)])=if k2=k then some b else lkL k2 T
 | [],_=>by
  by_cases h:k2=k
  ·simp [lkL,h]
  ·simp [lkL,h,Ne.symm h,eq_comm]
 | p::T,hn=>by
  simp only [lkL] at hn
  by_cases hp:p.1=k
  ·rw [if_pos hp] at hn; cases hn
  ·rw [if_neg hp] at hn
   simp only [List.cons_append,lkL,Qra hn]
   by_cases h2:p.1=k2
   ·rw [if_pos h2,if_pos h2,if_neg fun e=>hp (h2.trans e)]
   ·rw [if_neg h2,if_neg h2]
section
variable {C:Ctx} {A:Heap} {E:Value→Heap→Prop}
theorem QpB {H:Heap} {T:Tl} {bp bm:Nat} {sl:Sl} {x:Qa} {own:Str} {kind:Int} {pub:Bool} {K:Bool→Heap→Prop} (hP:Pr H bp bm sl) (hbm:bp≠bm) (hT:TlIs H bm T)
 (k:∀ D,Kp bm H D→TlIs D bm (tellF T (x.Name,own,kind) pub).2→K (tellF T (x.Name,own,kind) pub).1 D):QaB C (some (bp,0)) x own kind pub K H:=by
 apply Qi5
 unfold QeX
 refine box1N fun b1 H2 n1 _ l1 h1=>fS h1 rfl ?_
 refine boxZ rfl fun b5 H7 n5 l5 h5=>?_
 have hH7:=l1.trans l5
 obtain ⟨e0,hbm0⟩:=hT.has
 have n5m:b5≠bm:=fun e=>by rw [e,l1 _ _ hbm0] at n5; cases n5
 obtain ⟨_,hbp⟩:=(hP.le hH7).at_
 obtain ⟨lT,hm,hl⟩:=hT.le hH7
 refine ⟨_,rfl,some bm,by rw [QaF hbp]; rfl,bxT (c:=Qv.c) h5 ?_⟩
 show lkM kp3 encB false (some bm) ((x.Name,own,kind):Ky) _ H7
 refine hm.is.lk (fun b hb=>?_) (fun hno=>?_)
 ·rw [hl] at hb
  have hk:tellF T (x.Name,own,kind) pub=(false,T):=by unfold tellF; rw [hb]
  rw [hk] at k
  refine ⟨fun _ F=>F=H7,ift.of (fun h=>by simp at h) (fun _=>rfl),?_⟩
  rintro _ _ rfl
  exact k _ (Kp.of hH7) ⟨lT,hm,hl⟩
 ·rw [hl] at hno
  have hk:tellF T (x.Name,own,kind) pub=(true,T++[((x.Name,own,kind),pub)]):=by unfold tellF; rw [hno]
  rw [hk] at k
  refine ⟨fun _ F=>Kp bm H F∧TlIs F bm (T++[((x.Name,own,kind),pub)]),ift.of (fun _=>?_) (fun h=>by simp at h),?_⟩
  ·refine ⟨H7.del bm, Heap.del_le _ _, _, rfl, some bm, by rw [QaF (by rw [Heap.del_ne _ hbm]; exact hbp)]; rfl, bxT (c := Qv.c) (by rw [Heap.del_ne _ n5m]; exact h5) ?_⟩
   refine ⟨bm,lT,rfl,hm,fun g l2 hm2 hl2 _=>⟨Heap.del_put (Heap.del_le _ _),?_,l2,hm2,fun k2=>?_⟩⟩
   ·exact Heap.del_put ((Kp.of hH7:Kp bm H H7))
   ·rw [hl2,Qra hno,hl]
  ·rintro _ F ⟨h1,h2⟩
   exact k F h1 h2
end
end
section
open Go Go.Proofs
theorem Qcu {α:Type} {l:List α} {i:Nat} (h:i < l.length):l.drop i=l[i]::l.drop (i+1):=List.drop_eq_getElem_cons h
theorem QrE {l:List Str} {i:Nat} (h:i < l.length):decide (l.take (i+1)).Nodup=(decide (l.take i).Nodup && !(l.take i).contains l[i]):=by
 rw [List.take_add_one,List.getElem?_eq_getElem h,Option.toList_some,Bool.eq_iff_iff]
 simp only [decide_eq_true_eq,Bool.and_eq_true,Bool.not_eq_true',List.nodup_append,List.nodup_cons,List.mem_singleton]
 constructor
 ·rintro ⟨h1,_,h2⟩
  refine ⟨h1,?_⟩
  cases hc:(l.take i).contains l[i] with
  | false=>rfl
  | true=>exact absurd rfl (h2 _ (List.contains_iff_mem.1 hc) _ rfl)
 ·rintro ⟨h1,h2⟩
  refine ⟨h1,by simp,fun a ha b hb e=>?_⟩
  subst hb; subst e
  rw [List.contains_iff_mem.2 ha] at h2; cases h2
theorem Qvh {c:CnV} (h:cnOk c=true):∀ f ∈ c.f,tyOk f.t=true:=by
 unfold cnOk at h
 rw [Bool.and_eq_true] at h
 exact (Qpj h.2).2
section
variable {C:Ctx} {A:Heap} {E:Value→Heap→Prop}
theorem Qtq {H:Heap} {T:Tl} {m:MoP} {bp bm:Nat} {sl:Sl} {x:Qa} {K:Heap→Prop} (hA:A.le H) (hAm:A bm=none) (hP:Pr H bp bm sl) (hbm:bp≠bm) (hT:TlIs H bm T) (hm:MpIs A m x) (hg:MoG m)
 (k:∀ D T',namesF m T=.ok T'→Kp bm H D→TlIs D bm T'→K D) (ke:∀ D e,namesF m T=.error e→Kp bm H D→E (flt e.1 e.2.1 e.2.2) D):QcM C E (some (bp,0)) x K H:=by
 obtain ⟨m1,m2,m3,m4,m5,m6⟩:=hm
 apply Qij
 unfold QeG
 refine box1N fun b1 H2 n1 _ l1 h1=>fL h1 (j:=2) rfl ?_
 have hA2:=hA.trans l1
 have hP2:=hP.le l1
 have hT2:=hT.le l1
 obtain ⟨e0,hbm0⟩:=hT.has
 have n1m:b1≠bm:=fun e=>by rw [e,hbm0] at n1; cases n1
 have hlt:=SlIs.len m3
 have hbt:=SlIs.bd m3
 have k:∀ D T',namesF m T=.ok T'→Kp bm H2 D→TlIs D bm T'→K D:=fun D T' h1 h2=>k D T' h1 ((Kp.of l1).trans h2)
 have ke:∀ D e,namesF m T=.error e→Kp bm H2 D→E (flt e.1 e.2.1 e.2.2) D:=fun D e h1 h2=>ke D e h1 ((Kp.of l1).trans h2)
 clear hA hP hT
 refine ⟨fun y D=>Kp bm H2 D∧∃ (i:Nat) (T1:Tl),y=(i:Int)∧i≤m.ty.length∧TlIs D bm T1∧namesTy m.n m.ty T=namesTy m.n (m.ty.drop i) T1,fun y _=>m.ty.length - y.toNat,⟨Kp.refl,0,T,rfl,Nat.zero_le _,hT2,by rw [List.drop_zero]⟩,?_⟩
 rintro _ D ⟨hD,i,T1,rfl,hi,hT1,hn⟩
 rw [hlt]
 refine ift.of (fun h=>?_) (fun h=>?_)
 ·have hil : i < m.ty.length := by have := of_decide_eq_true h; omega
  refine jn.inl ?_
  refine m3.ld (hD.al hA2 hAm) (fun _=>rfl) (by omega) rfl hil fun y hy=>?_
  have htd:=hg.ty _ (List.getElem_mem hil)
  rw [Qcu hil] at hn
  generalize m.ty[i]=t at *
  obtain ⟨e1,e2,e3,e4,e5⟩:=hy
  unfold tdOk TdP.e at htd
  simp only [Bool.and_eq_true,decide_eq_true_eq,List.all_eq_true] at htd
  have hcs:∀ c ∈ t.cs,cnOk c=true:=htd.2
  refine boxZ rfl fun b20 D1 n20 l20 h20=>?_
  obtain ⟨e',hbm1⟩:=hT1.has
  have n20m:b20≠bm:=fun e=>by rw [e,hbm1] at n20; cases n20
  have hD1:=hD.trans (Kp.of l20)
  refine bxT (c:=Qa.c) (hD1.at_ n1m h1) (fS h20 (j:=3) rfl (fB h20 (j:=2) rfl ?_))
  rw [e3.1,e2]
  refine QpB (hD1.pr hbm hP2) hbm (hT1.le l20) fun D2 hD2 hT2'=>?_
  rw [m1.1] at hT2' ⊢
  have hDD2:=hD1.trans hD2
  have h20':=hD2.at_ n20m h20
  refine fL h20' (j:=4) rfl ?_
  have lps:=SlIs.len e4.1
  have bps:=SlIs.bd e4.1
  refine ⟨fun y' D'=>D' = D2∧∃ j:Nat,y' = ((tellF T1 (m.n,t.n,0) t.b).1 && decide (t.ps.take j).Nodup,(j:Int))∧j≤t.ps.length,fun y' _=>t.ps.length - y'.2.toNat,⟨rfl,0,by simp,Nat.zero_le _⟩,?_⟩
  rintro _ D3 ⟨hDe,j,rfl,hj⟩
  subst hDe
  rw [lps]
  have hA3:=hDD2.al hA2 hAm
  refine ift.of (fun h=>?_) (fun h=>?_)
  ·have hjl : j < t.ps.length := by have := of_decide_eq_true h; omega
   refine SlIs.at_ e4.1 hA3 (z:=1) (fun _=>rfl) (by omega) rfl hjl fun p y1 hy1 hr=>⟨y1,hr 0 _ rfl,?_⟩
   rw [hy1.1]
   refine ⟨fun b F=>F=D3∧b=((tellF T1 (m.n,t.n,0) t.b).1 && decide (t.ps.take (j+1)).Nodup),?_,?_⟩
   ·rw [QrE hjl]
    refine ift.of (fun h=>?_) (fun h=>?_)
    ·refine fL h20' (j:=4) rfl ?_
     refine SlIs.pre e4.1 (z:=1) (fun _=>rfl) e4.2 rfl (by omega) fun t50 ht50=>?_
     refine contS ht50 hA3 ⟨rfl,?_⟩
     have h:((tellF T1 (m.n,t.n,0) t.b).1 && decide (t.ps.take j).Nodup)=true:=h
     rw [← Bool.and_assoc,h,Bool.true_and]
    ·have h:((tellF T1 (m.n,t.n,0) t.b).1 && decide (t.ps.take j).Nodup)=false:=h
     exact ⟨rfl,by rw [← Bool.and_assoc,h]; rfl⟩
   ·rintro b _ ⟨rfl,rfl⟩
    rw [Qal (by dsimp only; omega) (by dsimp only; omega)]
    exact ⟨⟨rfl,j+1,rfl,by omega⟩,by first | omega | (dsimp only; omega)⟩
  ·have hje : j = t.ps.length := by have := of_decide_eq_false h; omega
   subst hje
   rw [List.take_length]
   refine fL h20' (j:=5) rfl ?_
   have lcs:=SlIs.len e5
   have bcs:=SlIs.bd e5
   have hn':tyNm m.n t T1=csNm m.n t.b ((tellF T1 (m.n,t.n,0) t.b).1 && decide t.ps.Nodup,(tellF T1 (m.n,t.n,0) t.b).2) t.cs:=rfl
   generalize ((tellF T1 (m.n,t.n,0) t.b).1 && decide t.ps.Nodup)=ok0 at *
   generalize ((tellF T1 (m.n,t.n,0) t.b).2)=T2 at *
   refine ⟨fun y' D'=>Kp bm D1 D'∧∃ (j:Nat) (ok:Bool) (T3:Tl),y' = (ok,(j:Int))∧j≤t.cs.length∧TlIs D' bm T3∧tyNm m.n t T1=csNm m.n t.b (ok,T3) (t.cs.drop j),fun y' _=>t.cs.length - y'.2.toNat,⟨hD2,0,ok0,T2,rfl,Nat.zero_le _,hT2',by rw [List.drop_zero]; exact hn'⟩,?_⟩
   clear hD2 hDD2 h20' hT2' hn' hA3
   rintro _ D3 ⟨hD3,j,ok,T3,rfl,hj,hT3,hn'⟩
   have hDD3:=hD1.trans hD3
   have hA3:=hDD3.al hA2 hAm
   have h20':=hD3.at_ n20m h20
   rw [lcs]
   refine ift.of (fun h=>?_) (fun h=>?_)
   ·have hjl : j < t.cs.length := by have := of_decide_eq_true h; omega
    refine e5.ld hA3 (fun _=>rfl) (by omega) rfl hjl fun y1 hy1=>?_
    rw [Qcu hjl] at hn'
    generalize t.cs[j]=c at *
    refine boxZ rfl fun b72 D4 n72 l72 h72=>?_
    have hD4:=hDD3.trans (Kp.of l72)
    refine bxT (c:=Qa.c) (hD4.at_ n1m h1) (fS h72 (j:=0) rfl (fB (l72 _ _ h20') (j:=2) rfl ?_))
    rw [hy1.1.1,e2]
    refine QpB (hD4.pr hbm hP2) hbm (hT3.le l72) fun D5 hD5 hT5=>?_
    rw [m1.1] at hT5 ⊢
    rw [Qal (by dsimp only; omega) (by dsimp only; omega)]
    exact ⟨⟨(hD3.trans (Kp.of l72)).trans hD5,j+1,_,_,rfl,by omega,hT5,hn'⟩,by first | omega | (dsimp only; omega)⟩
   ·have hje : j = t.cs.length := by have := of_decide_eq_false h; omega
    subst hje
    rw [List.drop_length] at hn'
    have hn':tyNm m.n t T1=(ok,T3):=hn'
    have hns:namesTy m.n (t::m.ty.drop (i+1)) T1=if ok=false then .error (m.n,t.p,6) else if t.cs.any (fun c=>openF t.ps c.f)=true then .error (m.n,t.p,63) else namesTy m.n (m.ty.drop (i+1)) T3:=by rw [namesTy,hn']
    rw [hns] at hn
    have err:∀ e,namesTy m.n m.ty T=.error e→namesF m T=.error e:=fun e h=>by unfold namesF; rw [h]
    refine ⟨fun _ F=>F=D3∧ok=true,?_,?_⟩
    ·refine ift.of (fun h => ?_) (fun h => ?_)
     ·have h : ok = false := by simpa using h
      rw [if_pos h] at hn
      refine bxT (c:=Qa.c) (hDD3.at_ n1m h1) (fPs (x:=y.Pos) h20' rfl rfl ?_)
      exact QdY m1.1 e1 fun F hF=>ke F _ (err _ hn) (hDD3.trans (Kp.of hF))
     ·exact ⟨rfl,by simpa using h⟩
    ·rintro _ _ ⟨rfl,hok⟩
     rw [if_neg (by rw [hok]; decide)] at hn
     refine fL h20' (j:=5) rfl ?_
     refine cfConsDef (R:=CnIs A) (ok:=fun c=>openF t.ps c.f) e5 hA3 ?_ fun D4 hD4=>?_
     ·intro c hc y1 D Φ hD hy hΦ
      refine ⟨64,[],[pv (some (b20,0))],rfl,Qhh,QgZ C y1 (b20,0) Φ D ?_⟩
      unfold QdR
      refine box1N fun b2 H3 _ _ l2 h2=>fL h2 rfl (fL (l2 _ _ (hD _ _ h20')) (j:=4) rfl ?_)
      exact QsD (hA3.trans (hD.trans l2)) hy.2 (Qvh (hcs c hc)) e4.1 fun D2 hD2=>hΦ D2 (l2.trans hD2)
     ·have hDD4:=hDD3.trans (Kp.of hD4)
      refine ift.of (fun h=>?_) (fun h=>?_)
      ·rw [if_pos h] at hn
       refine bxT (c:=Qa.c) (hDD4.at_ n1m h1) (fPs (x:=y.Pos) (hD4 _ _ h20') rfl rfl ?_)
       exact QdY m1.1 e1 fun F hF=>ke F _ (err _ hn) (hDD4.trans (Kp.of hF))
      ·rw [if_neg (by rw [h]; decide)] at hn
       rw [Qal (by omega) (by omega)]
       exact ⟨⟨hDD4,i+1,T3,rfl,by omega,hT3.le hD4,hn⟩,by first | omega | (dsimp only; omega)⟩
 ·have hie : i = m.ty.length := by have := of_decide_eq_false h; omega
  subst hie
  rw [List.drop_length] at hn
  have hn:namesTy m.n m.ty T=.ok T1:=hn
  refine fL (hD.at_ n1m h1) (j:=3) rfl ?_
  have hlr:=SlIs.len m4
  have hbr:=SlIs.bd m4
  refine ⟨fun y D=>Kp bm H2 D∧∃ (i:Nat) (T2:Tl),y=(i:Int)∧i≤m.re.length∧TlIs D bm T2∧namesRe m.n m.re T1=namesRe m.n (m.re.drop i) T2,fun y _=>m.re.length - y.toNat,⟨hD,0,T1,rfl,Nat.zero_le _,hT1,by rw [List.drop_zero]⟩,?_⟩
  clear hD hT1
  rintro _ D ⟨hD,i,T2,rfl,hi,hT1,hn2⟩
  rw [hlr]
  refine ift.of (fun h=>?_) (fun h=>?_)
  ·have hil : i < m.re.length := by have := of_decide_eq_true h; omega
   refine jn.inl ?_
   refine m4.ld (hD.al hA2 hAm) (fun _=>rfl) (by omega) rfl hil fun y hy=>?_
   have htd:=hg.re _ (List.getElem_mem hil)
   rw [Qcu hil] at hn2
   generalize m.re[i]=t at *
   obtain ⟨e1,e2,e3,e4,e5⟩:=hy
   unfold rdOk RdP.e at htd
   rw [Bool.and_eq_true] at htd
   have hfo:∀ f ∈ t.f,tyOk f.t=true:=(Qpj htd.2).2
   refine boxZ rfl fun b20 D1 n20 l20 h20=>?_
   obtain ⟨e',hbm1⟩:=hT1.has
   have n20m:b20≠bm:=fun e=>by rw [e,hbm1] at n20; cases n20
   have hD1:=hD.trans (Kp.of l20)
   refine bxT (c:=Qa.c) (hD1.at_ n1m h1) (fS h20 (j:=4) rfl (fB h20 (j:=2) rfl ?_))
   rw [e4.1,e2]
   refine QpB (hD1.pr hbm hP2) hbm (hT1.le l20) fun D2 hD2 hT2'=>?_
   rw [m1.1] at hT2' ⊢
   have hDD2:=hD1.trans hD2
   have h20':=hD2.at_ n20m h20
   have err:∀ e,namesRe m.n m.re T1=.error e→namesF m T=.error e:=fun e h=>by unfold namesF; rw [hn]; dsimp only; rw [h]
   rw [namesRe] at hn2
   refine ift.of (fun h=>?_) (fun h=>?_)
   ·rw [if_pos (by simpa using h)] at hn2
    refine bxT (c:=Qa.c) (hDD2.at_ n1m h1) (fPs (x:=y.Pos) h20' rfl rfl ?_)
    exact QdY m1.1 e1 fun F hF=>ke F _ (err _ hn2) (hDD2.trans (Kp.of hF))
   ·rw [if_neg (by simpa using h)] at hn2
    refine fL h20' (j:=5) rfl ?_
    refine QsD (ps:=[]) (hDD2.al hA2 hAm) e5 hfo SlIs.nil fun D3 hD3=>?_
    have hDD3:=hDD2.trans (Kp.of hD3)
    refine ift.of (fun h=>?_) (fun h=>?_)
    ·rw [if_pos h] at hn2
     refine bxT (c:=Qa.c) (hDD3.at_ n1m h1) (fPs (x:=y.Pos) (hD3 _ _ h20') rfl rfl ?_)
     exact QdY m1.1 e1 fun F hF=>ke F _ (err _ hn2) (hDD3.trans (Kp.of hF))
    ·rw [if_neg (by rw [h]; decide)] at hn2
     rw [Qal (by omega) (by omega)]
     exact ⟨⟨hDD3,i+1,_,rfl,by omega,hT2'.le hD3,hn2⟩,by first | omega | (dsimp only; omega)⟩
  ·have hie : i = m.re.length := by have := of_decide_eq_false h; omega
   subst hie
   rw [List.drop_length] at hn2
   have hn2:namesRe m.n m.re T1=.ok T2:=hn2
   refine fL (hD.at_ n1m h1) (j:=5) rfl ?_
   have hlr:=SlIs.len m6
   have hbr:=SlIs.bd m6
   refine ⟨fun y D=>Kp bm H2 D∧∃ (i:Nat) (T3:Tl),y=(i:Int)∧i≤m.ne.length∧TlIs D bm T3∧namesNe m.n m.ne T2=namesNe m.n (m.ne.drop i) T3,fun y _=>m.ne.length - y.toNat,⟨hD,0,T2,rfl,Nat.zero_le _,hT1,by rw [List.drop_zero]⟩,?_⟩
   clear hD hT1
   rintro _ D ⟨hD,i,T3,rfl,hi,hT1,hn3⟩
   have hF:namesF m T=namesNe m.n m.ne T2:=by unfold namesF; rw [hn]; dsimp only; rw [hn2]
   rw [hlr]
   refine ift.of (fun h=>?_) (fun h=>?_)
   ·have hil : i < m.ne.length := by have := of_decide_eq_true h; omega
    refine jn.inl ?_
    refine m6.ld (hD.al hA2 hAm) (fun _=>rfl) (by omega) rfl hil fun y hy=>?_
    rw [Qcu hil] at hn3
    generalize m.ne[i]=t at *
    obtain ⟨e1,e4,e5⟩:=hy
    refine boxZ rfl fun b20 D1 n20 l20 h20=>?_
    obtain ⟨e',hbm1⟩:=hT1.has
    have n20m:b20≠bm:=fun e=>by rw [e,hbm1] at n20; cases n20
    have hD1:=hD.trans (Kp.of l20)
    refine bxT (c:=Qa.c) (hD1.at_ n1m h1) (fS h20 (j:=2) rfl ?_)
    rw [e4.1]
    refine QpB (hD1.pr hbm hP2) hbm (hT1.le l20) fun D2 hD2 hT2'=>?_
    rw [m1.1] at hT2' ⊢
    have hDD2:=hD1.trans hD2
    have h20':=hD2.at_ n20m h20
    rw [namesNe] at hn3
    refine ift.of (fun h=>?_) (fun h=>?_)
    ·rw [if_pos (by simpa using h)] at hn3
     refine bxT (c:=Qa.c) (hDD2.at_ n1m h1) (fPs (x:=y.Pos) h20' rfl rfl ?_)
     exact QdY m1.1 e1 fun F hF'=>ke F _ (hF.trans hn3) (hDD2.trans (Kp.of hF'))
    ·rw [if_neg (by simpa using h)] at hn3
     rw [Qal (by omega) (by omega)]
     exact ⟨⟨hDD2,i+1,_,rfl,by omega,hT2',hn3⟩,by first | omega | (dsimp only; omega)⟩
   ·have hie : i = m.ne.length := by have := of_decide_eq_false h; omega
    subst hie
    rw [List.drop_length] at hn3
    exact k D T3 (hF.trans hn3) hD hT1
end
end
section
open Go Go.Proofs
theorem Qnl {α:Type} {p q:α→Bool}:∀ {l:List α} {a:α},(∀ x ∈ l,p x=true→q x=true)→a ∈ l→p a=false→q a=true→l.countP p < l.countP q
 | [],a,_,h,_,_=>by cases h
 | x::l,a,hpq,ha,hp,hq=>by
  rw [List.countP_cons,List.countP_cons]
  have hle:l.countP p≤l.countP q:=List.countP_mono_left fun y hy h=>hpq y (List.mem_cons_of_mem _ hy) h
  rcases List.mem_cons.1 ha with rfl | ha
  ·rw [hp,hq]
   simp only [Bool.false_eq_true,if_false,if_true]; omega
  ·have := Qnl (l := l) (fun y hy h => hpq y (List.mem_cons_of_mem _ hy) h) ha hp hq
   have h1:=hpq x (List.mem_cons_self ..)
   cases h2:p x with
   | false=>simp only [Bool.false_eq_true,if_false]; split <;> omega
   | true=>rw [h1 h2]; simp only [if_true]; omega
/-- one can come from a module to another one -/
inductive Rc (l:List MoP) (a:Nat):Nat→Prop
 | refl:Rc l a a
 | step {i j:Nat}:Rc l a i→j ∈ adj l i→Rc l a j
theorem Rc.head {l:List MoP} {a b c:Nat} (h:b ∈ adj l a) (h2:Rc l b c):Rc l a c:=by
 induction h2 with
 | refl=>exact .step .refl h
 | step _ hj ih=>exact .step ih hj
theorem Qo7 {l:List MoP} {a:Nat}:∀ {n j:Nat},comeF l a n j=true→Rc l a j
 | 0,j,h=>by
  simp only [comeF,decide_eq_true_eq] at h
  subst h; exact .refl
 | n+1,j,h=>by
  simp only [comeF,Bool.or_eq_true,List.any_eq_true,Bool.and_eq_true] at h
  rcases h with h | ⟨i,_,h1,h2⟩
  ·exact Qo7 h
  ·exact .step (Qo7 h1) (List.contains_iff_mem.1 h2)
theorem QqU {l:List MoP} {a n j:Nat} (h:comeF l a n j=true):comeF l a (n+1) j=true:=by simp only [comeF,h,Bool.true_or]
theorem Qqt {l:List MoP} {a:Nat}:∀ {n:Nat},comeF l a n a=true
 | 0=>by simp [comeF]
 | n+1=>QqU Qqt
/-- all imports are found -/
def Fnd (l:List MoP):Prop:=∀ i,∀ j ∈ adj l i,j < l.length
theorem QtR {l:List MoP} {i j:Nat} (h:j ∈ adj l i):i < l.length:=by
 unfold adj at h
 cases hi:l[i]? with
 | none=>rw [hi] at h; cases h
 | some m=>exact (List.getElem?_eq_some_iff.1 hi).1
theorem Qow {l:List MoP} {a:Nat} (hf:Fnd l) (ha:a < l.length):∀ n:Nat,(∀ j,comeF l a (n+1) j=true→comeF l a n j=true)∨n+1≤(List.range l.length).countP (comeF l a n)
 | 0=>.inr (List.countP_pos_iff.2 ⟨a,List.mem_range.2 ha,Qqt⟩)
 | n+1=>by
  by_cases hcl:∀ j,comeF l a (n+1) j=true→comeF l a n j=true
  ·refine .inl fun j h => ?_
   simp only [comeF,Bool.or_eq_true,List.any_eq_true,Bool.and_eq_true] at h
   rcases h with h | ⟨i,hi,h1,h2⟩
   ·simp only [comeF,Bool.or_eq_true,List.any_eq_true,Bool.and_eq_true]; exact h
   ·have h1 : comeF l a n i = true := hcl i (by simp only [comeF, Bool.or_eq_true, List.any_eq_true, Bool.and_eq_true]; exact h1)
    simp only [comeF,Bool.or_eq_true,List.any_eq_true,Bool.and_eq_true]
    exact .inr ⟨i,hi,h1,h2⟩
  ·refine .inr ?_
   have ⟨j,h1,h2⟩:∃ j,comeF l a (n+1) j=true∧comeF l a n j=false:=by
    refine Classical.byContradiction fun hh=>hcl fun j hj=>?_
    cases hc:comeF l a n j with
    | true=>rfl
    | false=>exact absurd ⟨j,hj,hc⟩ hh
   have hjl:j < l.length:=by
    have h1:=h1
    simp only [comeF,Bool.or_eq_true,List.any_eq_true,Bool.and_eq_true,h2,Bool.false_eq_true,false_or] at h1
    obtain ⟨i,_,_,h4⟩:=h1
    exact hf i j (List.contains_iff_mem.1 h4)
   have:=Qnl (l:=List.range l.length) (p:=comeF l a n) (q:=comeF l a (n+1)) (fun x _ h=>QqU h) (List.mem_range.2 hjl) h2 h1
   rcases Qow hf ha n with h | h
   ·exact absurd h hcl
   ·omega
theorem QoH {l:List MoP} {a b:Nat} (hf:Fnd l) (ha:a < l.length):reachF l a b=true↔Rc l a b:=by
 constructor
 ·exact Qo7
 ·intro h
  have hcl:∀ j,comeF l a (l.length+1) j=true→comeF l a l.length j=true:=by
   rcases Qow hf ha l.length with h | h
   ·exact h
   ·have:=List.countP_le_length (p:=comeF l a l.length) (l:=List.range l.length)
    rw [List.length_range] at this; omega
  unfold reachF
  induction h with
  | refl=>exact Qqt
  | step _ hj ih=>
   refine hcl _ ?_
   simp only [comeF,Bool.or_eq_true,List.any_eq_true,Bool.and_eq_true]
   exact .inr ⟨_,List.mem_range.2 (QtR hj),ih,List.contains_iff_mem.2 hj⟩
/-- nothing leads out of what was seen -/
theorem QsM {l:List MoP} {a b:Nat} {S:Nat→Bool} (ha:S a=true) (hS:∀ j,S j=true→j≠b∧∀ k ∈ adj l j,S k=true):¬ Rc l a b:=fun h=>by
 have key:∀ j,Rc l a j→S j=true:=fun j h=>by
  induction h with
  | refl=>exact ha
  | step _ hj ih=>exact (hS _ ih).2 _ hj
 exact (hS _ (key b h)).1 rfl
theorem Qmf:∀ {l:List MoP} {s:Str} {i:Nat},i≤l.length→((findN l s < i)↔((l.take i).map MoP.n).contains s=true)
 | [],s,i,h=>by
  have:i=0:=by simpa using h
  subst this; simp
 | m::l,s,0,h=>by simp
 | m::l,s,i+1,h=>by
  have ih:=Qmf (l:=l) (s:=s) (i:=i) (by simpa using h)
  rw [List.contains_iff_mem] at ih ⊢
  simp only [findN,List.take_succ_cons,List.map_cons,List.mem_cons]
  by_cases hm:m.n=s
  ·rw [if_pos hm]; exact ⟨fun _=>.inl hm.symm,fun _=>by omega⟩
  ·rw [if_neg hm]
   constructor
   ·intro h; exact .inr (ih.1 (by omega))
   ·rintro (h | h)
    ·exact absurd h.symm hm
    ·have:=ih.2 h; omega
theorem Qrw {l:List MoP} {i:Nat} (h:i < l.length):findN l l[i].n≤i:=by
 have:=(Qmf (l:=l) (s:=l[i].n) (i:=i+1) (by omega)).2 (by
  rw [List.contains_iff_mem,List.mem_map]
  exact ⟨l[i],List.mem_take_iff_getElem.2 ⟨i,by omega,rfl⟩,rfl⟩)
 omega
theorem Qkj:∀ {l:List MoP} {ns:List Str},singleF ns l=none→(∀ m ∈ l,moC m.e=0)∧(l.map MoP.n).Nodup∧∀ m ∈ l,m.n ∉ ns
 | [],ns,_=>⟨by simp,by simp,by simp⟩
 | m::l,ns,h=>by
  simp only [singleF] at h
  split at h
  ·cases h
  ·rename_i h1
   split at h
   ·cases h
   ·rename_i h2
    obtain ⟨a,b,c⟩:=Qkj h
    rw [List.contains_iff_mem] at h2
    refine ⟨fun x hx=>?_,?_,fun x hx=>?_⟩
    ·rcases List.mem_cons.1 hx with rfl | hx
     ·omega
     ·exact a x hx
    ·rw [List.map_cons,List.nodup_cons]
     refine ⟨fun hm=>?_,b⟩
     obtain ⟨x,hx,e⟩:=List.mem_map.1 hm
     exact c x hx (by simp [e])
    ·rcases List.mem_cons.1 hx with rfl | hx
     ·exact h2
     ·exact fun hm=>c x hx (List.mem_append_left _ hm)
theorem QoC {l:List MoP} {m:Str}:∀ {r:List ImP} {ps:List Str},impA1 l m ps r=none→∀ x ∈ r,findN l x.n < l.length
 | [],ps,_,x,hx=>by cases hx
 | y::r,ps,h,x,hx=>by
  simp only [impA1] at h
  split at h
  ·cases h
  ·rename_i h1
   split at h
   ·cases h
   ·rcases List.mem_cons.1 hx with rfl | hx
    ·omega
    ·exact QoC h x hx
theorem Qnx {l:List MoP}:∀ {r:List MoP},impA l r=none→∀ m ∈ r,∀ x ∈ m.im,findN l x.n < l.length
 | [],_,m,hm=>by cases hm
 | y::r,h,m,hm=>by
  simp only [impA] at h
  split at h
  ·cases h
  ·rename_i h1
   rcases List.mem_cons.1 hm with rfl | hm
   ·exact QoC h1
   ·exact Qnx h m hm
theorem Qtj {l:List MoP} (h:impA l l=none):Fnd l:=fun i j hj=>by
 have hi:=QtR hj
 unfold adj at hj
 rw [List.getElem?_eq_getElem hi] at hj
 obtain ⟨x,hx,rfl⟩:=List.mem_map.1 hj
 exact Qnx h _ (List.getElem_mem hi) x hx
end
section
open Go Go.Proofs
theorem Qig {α:Type} {f:MoP→List α}:∀ {l:List MoP} {i:Nat} (h:i < l.length),total f (l.take (i+1))=total f (l.take i)+(f l[i]).length
 | [],i,h=>by simp at h
 | m::l,0,h=>by simp [total]
 | m::l,i+1,h=>by
  have h':i < l.length:=by simpa using h
  have:=Qig (f:=f) h'
  simp only [List.take_succ_cons,total,List.getElem_cons_succ,this]; omega
theorem Qrj {α:Type} {f:MoP→List α} {B:Nat}:∀ {l:List MoP},(∀ m ∈ l,(f m).length≤B)→total f l≤l.length*B
 | [],_=>by simp [total]
 | m::l,h=>by
  have h1:=h m (List.mem_cons_self ..)
  have h2:=Qrj (l:=l) fun x hx=>h x (List.mem_cons_of_mem _ hx)
  simp only [total,List.length_cons,Nat.add_mul]; omega
theorem QrN {H:Heap} {b j:Nat} {cs cs2:List Value} {v:Value} {K:Heap→Prop} (h:H b=some (true,.row cs)) (hj:j < cs.length) (e:cs.set j v=cs2) (k:K (H.put b (.row cs2))):st ((b,0).1,(b,0).2+j) v K H:=by
 subst e
 refine ⟨cs,h,by simpa using hj,?_⟩
 simpa using k
section
variable {C:Ctx} {A H:Heap} {E:Value→Heap→Prop}
theorem QsV (hT:MaxC C) {l:List MoP} {bp bm:Nat} {sl:Sl} {K:Heap→Prop} (hP:Pr H bp bm sl) (hs:MpL A sl l) (hA:A.le H) (hd:∀ m ∈ l,moD m.e≤4611686018427387904)
 (k:∀ D,H.le D→singleF [] l=none→K D) (ke:∀ D e,H.le D→singleF [] l=some e→E (flt e.1 e.2.1 e.2.2) D):Qcd C E (some (bp,0)) K H:=by
 apply Qhw
 unfold Qea
 obtain ⟨_,hbp⟩:=hP.at_
 refine ⟨_,rfl,fL hbp (j:=0) rfl ?_⟩
 have hlen:=SlIs.len hs
 have hbd:=SlIs.bd hs
 refine ⟨fun y D=>H.le D∧∃ i:Nat,y=(i:Int)∧i≤l.length∧singleF [] l=singleF ((l.take i).map MoP.n) (l.drop i),fun y _=>l.length - y.toNat,⟨Heap.le.refl _,0,rfl,Nat.zero_le _,by simp⟩,?_⟩
 rintro _ D ⟨hD,i,rfl,hi,hn⟩
 rw [hlen]
 refine ift.of (fun h=>?_) (fun h=>?_)
 ·have hil : i < l.length := by have := of_decide_eq_true h; omega
  refine jn.inl ?_
  refine hs.ld (hA.trans hD) (fun _=>rfl) (by omega) rfl hil fun y hy=>?_
  have hdi:=hd _ (List.getElem_mem hil)
  have hft:=Qmf (l:=l) (s:=l[i].n) (i:=i) (by omega)
  have hfl:findN l l[i].n < l.length:=by have:=Qrw hil; omega
  have htk:(l.take i).map MoP.n++[l[i].n]=(l.take (i+1)).map MoP.n:=by rw [List.take_add_one,List.getElem?_eq_getElem hil,Option.toList_some,List.map_append]; rfl
  rw [Qcu hil,singleF,htk] at hn
  generalize l[i]=m at *
  refine boxZ rfl fun b20 D1 n20 l20 h20=>?_
  have hD1:=hD.trans l20
  refine ⟨fun _ F=>F=D1∧moC m.e=0,?_,?_⟩
  ·refine bxT (c:=Qa.c) h20 ?_
   refine QoR hT (MpIs.e hy) (hA.trans hD1) hdi ?_
   refine ift.of (fun h=>?_) (fun h=>?_)
   ·rw [if_pos (by simpa using h)] at hn
    exact bxT (c:=Qa.c) h20 (QdY hy.1.1 rfl fun F hF=>ke F _ (hD1.trans hF) hn)
   ·exact ⟨rfl,by simpa using h⟩
  ·rintro _ _ ⟨rfl,hok⟩
   rw [if_neg (by simpa using hok)] at hn
   refine fS h20 (j:=0) rfl ?_
   rw [hy.1.1]
   refine Qpl (hP.le hD1) hs (hA.trans hD1) fun D2 hD2=>?_
   unfold fIx
   rw [if_pos hfl]
   refine ift.of (fun h=>?_) (fun h=>?_)
   ·have : findN l m.n < i := by have := of_decide_eq_true h; omega
    rw [if_pos (hft.1 this)] at hn
    exact bxT (c:=Qa.c) (hD2 _ _ h20) (QdY hy.1.1 rfl fun F hF=>ke F _ (hD1.trans (hD2.trans hF)) hn)
   ·have : ¬ findN l m.n < i := by have := of_decide_eq_false h; omega
    rw [if_neg fun e=>this (hft.2 e)] at hn
    rw [Qal (by omega) (by omega)]
    exact ⟨⟨hD1.trans hD2,i+1,rfl,by omega,hn⟩,by first | omega | (dsimp only; omega)⟩
 ·have hie : i = l.length := by have := of_decide_eq_false h; omega
  subst hie
  rw [List.drop_length] at hn
  exact k D hD hn
theorem QsY {l:List MoP} {bp bm:Nat} {sl:Sl} {K:Heap→Prop} (hP:Pr H bp bm sl) (hs:MpL A sl l) (hA:A.le H) (hg:∀ m ∈ l,MoG m) (hl8:l.length≤8)
 (k:∀ D,H.le D→totB l=false→K D) (ke:∀ D,H.le D→totB l=true→E (flt [] (0,0) 3) D):Qce C E (some (bp,0)) K H:=by
 apply Qhx
 unfold Qeb
 refine box1N fun b1 H2 n1 _ l1 h1=>?_
 obtain ⟨_,hbp⟩:=(hP.le l1).at_
 refine ⟨_,rfl,fL hbp (j:=0) rfl ?_⟩
 have hlen:=SlIs.len hs
 have bt:∀ {α:Type} (f:MoP→List α) (i:Nat),(∀ m ∈ l,(f m).length≤256)→total f (l.take i)≤2048:=fun f i hf=>by
  have:=Qrj (f:=f) (B:=256) (l:=l.take i) fun m hm=>hf m (List.mem_of_mem_take hm)
  have h2:(l.take i).length≤8:=by rw [List.length_take]; omega
  have:(l.take i).length*256≤8*256:=Nat.mul_le_mul_right _ h2
  omega
 have g1:∀ m ∈ l,(MoP.ty m).length≤256:=fun m hm=>by have:=(hg m hm).lt; omega
 have g2:∀ m ∈ l,(MoP.re m).length≤256:=fun m hm=>by have:=(hg m hm).lr; omega
 have g3:∀ m ∈ l,(MoP.ru m).length≤256:=fun m hm=>(hg m hm).lu
 have g4:∀ m ∈ l,(MoP.ne m).length≤256:=fun m hm=>(hg m hm).ln
 refine ⟨fun y D=>H.le D∧∃ i:Nat,y=(i:Int)∧i≤l.length∧D b1=some (true,.row [.int .i64 (total MoP.ty (l.take i):Int),.int .i64 (total MoP.ru (l.take i):Int),.int .i64 (total MoP.re (l.take i):Int),.int .i64 (total MoP.ne (l.take i):Int)]),fun y _=>l.length - y.toNat,⟨l1,0,rfl,Nat.zero_le _,h1⟩,?_⟩
 clear h1 hbp
 rintro _ D ⟨hD,i,rfl,hi,h1⟩
 rw [hlen]
 have i1:=bt MoP.ty i g1
 have i2:=bt MoP.re i g2
 have i3:=bt MoP.ru i g3
 have i4:=bt MoP.ne i g4
 refine ift.of (fun h=>?_) (fun h=>?_)
 ·have hil : i < l.length := by have := of_decide_eq_true h; omega
  refine hs.ld (hA.trans hD) (fun _=>rfl) (by omega) rfl hil fun y hy=>?_
  have j1:=g1 _ (List.getElem_mem hil)
  have j2:=g2 _ (List.getElem_mem hil)
  have j3:=g3 _ (List.getElem_mem hil)
  have j4:=g4 _ (List.getElem_mem hil)
  have t1:=Qig (f:=MoP.ty) hil
  have t2:=Qig (f:=MoP.re) hil
  have t3:=Qig (f:=MoP.ru) hil
  have t4:=Qig (f:=MoP.ne) hil
  generalize l[i]=m at *
  obtain ⟨m1,m2,m3,m4,m5,m6⟩:=hy
  intro b18 n18
  refine nwT rfl ?_
  have l18:=Heap.le_put n18 (g:=.row (Qa.c y)) (m:=true)
  have h18:(D.put b18 (.row (Qa.c y))) b18=some (true,.row (Qa.c y)):=Heap.put_same ..
  have hD1:=hD.trans l18
  have h1':=l18 _ _ h1
  have hne:b18≠b1:=fun e=>by rw [e,h1] at n18; cases n18
  generalize D.put b18 (.row (Qa.c y))=D1 at *
  refine ⟨by omega,by omega,fI h1' (j:=(0:Int).toNat*1) rfl (fL h18 (j:=2) rfl ⟨by omega,by omega,QrN h1' (show (0:Int).toNat*1 < 4 by decide) rfl ?_⟩)⟩
  rw [SlIs.len m3,Qal (x:=(total MoP.ty (l.take i):Int)+(m.ty.length:Int)) (by omega) (by omega)]
  refine ⟨by omega,by omega,fI (Heap.put_same ..) (j:=(2:Int).toNat*1) rfl (fL (by rw [Heap.put_ne _ _ _ hne]; exact h18) (j:=3) rfl ⟨by omega,by omega,QrN (Heap.put_same ..) (show (2:Int).toNat*1 < 4 by decide) rfl ?_⟩)⟩
  rw [Heap.put_put,SlIs.len m4,Qal (x:=(total MoP.re (l.take i):Int)+(m.re.length:Int)) (by omega) (by omega)]
  refine ⟨by omega,by omega,fI (Heap.put_same ..) (j:=(1:Int).toNat*1) rfl (fL (by rw [Heap.put_ne _ _ _ hne]; exact h18) (j:=4) rfl ⟨by omega,by omega,QrN (Heap.put_same ..) (show (1:Int).toNat*1 < 4 by decide) rfl ?_⟩)⟩
  rw [Heap.put_put,SlIs.len m5,Qal (x:=(total MoP.ru (l.take i):Int)+(m.ru.length:Int)) (by omega) (by omega)]
  refine ⟨by omega,by omega,fI (Heap.put_same ..) (j:=(3:Int).toNat*1) rfl (fL (by rw [Heap.put_ne _ _ _ hne]; exact h18) (j:=5) rfl ⟨by omega,by omega,QrN (Heap.put_same ..) (show (3:Int).toNat*1 < 4 by decide) rfl ?_⟩)⟩
  rw [Heap.put_put,SlIs.len m6,Qal (x:=(total MoP.ne (l.take i):Int)+(m.ne.length:Int)) (by omega) (by omega),Qal (by omega) (by omega)]
  refine ⟨⟨Qbe hD1 n1,i+1,rfl,by omega,?_⟩,by first | omega | (dsimp only; omega)⟩
  rw [t1,t2,t3,t4]
  exact Heap.put_same ..
 ·have hie : i = l.length := by have := of_decide_eq_false h; omega
  subst hie
  rw [List.take_length] at h1 i1 i2 i3 i4
  refine ⟨by omega,by omega,fI h1 (j:=(0:Int).toNat*1) rfl ?_⟩
  refine ⟨fun b F=>D=F∧b=(decide (64 < total MoP.ty l) || decide (64 < total MoP.re l)),?_,?_⟩
  ·refine ift.of (fun h => ⟨rfl, ?_⟩) (fun h => ⟨by omega, by omega, fI h1 (j := (2 : Int).toNat * 1) rfl ⟨rfl, ?_⟩⟩)
   ·rw [decide_eq_true (show 64 < total MoP.ty l by have:=of_decide_eq_true h; omega)]; rfl
   ·rw [decide_eq_false (show ¬ 64 < total MoP.ty l by have := of_decide_eq_false h; omega), Bool.false_or]
    exact decide_eq_decide.2 (by omega)
  ·rintro b _ ⟨rfl,rfl⟩
   refine ⟨fun b F=>D=F∧b=(decide (64 < total MoP.ty l) || decide (64 < total MoP.re l) || decide (256 < total MoP.ru l)),?_,?_⟩
   ·refine ift.of (fun h => ⟨rfl, by rw [h]; rfl⟩) (fun h => ⟨by omega, by omega, fI h1 (j := (1 : Int).toNat * 1) rfl ⟨rfl, ?_⟩⟩)
    rw [h,Bool.false_or]
    exact decide_eq_decide.2 (by omega)
   ·rintro b _ ⟨rfl,rfl⟩
    refine ⟨fun b F=>D=F∧b=totB l,?_,?_⟩
    ·refine ift.of (fun h => ⟨rfl, by unfold totB; rw [h]; rfl⟩) (fun h => ⟨by omega, by omega, fI h1 (j := (3 : Int).toNat * 1) rfl ⟨rfl, ?_⟩⟩)
     unfold totB
     rw [h,Bool.false_or]
     exact decide_eq_decide.2 (by omega)
    ·rintro b _ ⟨rfl,rfl⟩
     exact ift.of (fun h=>ke _ hD h) (fun h=>k _ hD h)
end
end
section
open Go Go.Proofs
/-- what was seen, in a map -/
def SnIs (H:Heap) (bs:Nat) (S:Nat→Bool):Prop:=∃ l,MapS kI encB H bs l∧∀ j:Nat,lkL (j:Int) l=if S j=true then some true else none
theorem SnIs.le {A B:Heap} {bs:Nat} {S:Nat→Bool} (h:SnIs A bs S) (hle:A.le B):SnIs B bs S:=by
 obtain ⟨l,h1,h2⟩:=h
 exact ⟨l,h1.le hle,h2⟩
theorem SnIs.has {A:Heap} {bs:Nat} {S:Nat→Bool} (h:SnIs A bs S):∃ e,A bs=some e:=by
 obtain ⟨l,⟨es,ck,h1⟩,_⟩:=h
 exact ⟨_,h1.at_⟩
def uns (n:Nat) (S:Nat→Bool):Nat:=(List.range n).countP fun j=>!S j
theorem QvO {n a:Nat} {S S2:Nat→Bool} (h:∀ j,S j=true→S2 j=true) (ha:a < n) (h1:S a=false) (h2:S2 a=true):uns n S2 < uns n S:=
 Qnl (a:=a) (fun j _ hj=>by
  cases hs:S j with
  | false=>rfl
  | true=>simp [h j hs] at hj) (List.mem_range.2 ha) (by simp [h2]) (by simp [h1])
section
variable {C:Ctx} {A:Heap} {E:Value→Heap→Prop}
theorem QrJ {l:List MoP} {bp bm bs:Nat} {sl:Sl} (hs:MpL A sl l) (hf:Fnd l) (hAs:A bs=none) (hbs:bp≠bs) (hl8:l.length≤8) :
 ∀ (u:Nat) {S:Nat→Bool} {a b:Nat} {x y:Int} {H:Heap} {K:Bool→Heap→Prop},uns l.length S < u→a < l.length→S a=false→x=(a:Int)→y=(b:Int)→Pr H bp bm sl→A.le H→SnIs H bs S→
  (∀ D,Kp bs H D→Rc l a b→K true D)→
  (∀ D S',Kp bs H D→SnIs D bs S'→(∀ j,S j=true→S' j=true)→S' a=true→(∀ j,S' j=true→S j=false→j≠b∧∀ k ∈ adj l j,S' k=true)→K false D)→
  QaA C (some (bp,0)) x y (some bs) K H:=by
 intro u
 induction u with
 | zero=>intro S a b x y H K hu; omega
 | succ u ih=>
 intro S a b x y H K hu ha hSa hx hy hP hA hS kt kf
 subst hx; subst hy
 apply Qg0
 unfold QdS
 obtain ⟨e0,hbs0⟩:=hS.has
 refine box1N fun b1 H2 n1 _ l1 h1=>box1N fun b3 H4 n3 _ l3 h3=>box1N fun b5 H6 n5 _ l5 h5=>?_
 have n1s:b1≠bs:=fun e=>by rw [e,hbs0] at n1; cases n1
 have n3s:b3≠bs:=fun e=>by rw [e,l1 _ _ hbs0] at n3; cases n3
 have n5s:b5≠bs:=fun e=>by rw [e,l3 _ _ (l1 _ _ hbs0)] at n5; cases n5
 have h1:=l5 _ _ (l3 _ _ h1)
 have h3:=l5 _ _ h3
 have hH6:=l1.trans (l3.trans l5)
 refine ⟨(b:Int),by rw [QaF h3]; rfl,ift.of (fun h=>?_) (fun h=>?_)⟩
 ·have e : a = b := by have := eq_of_beq h; omega
  subst e
  exact kt _ (Kp.of hH6) .refl
 ·have hab : a ≠ b := fun e => by rw [e] at h; simp at h
  obtain ⟨lS,hm,hl⟩:=hS.le hH6
  refine ⟨some bs,by rw [QaF h5]; rfl,bs,lS,rfl,hm,fun g l2 hm2 hl2 _=>?_⟩
  have hS12:SnIs (H6.put bs g) bs (fun j=>S j || decide (j=a)):=⟨l2,hm2,fun j=>by
   rw [hl2]
   by_cases hj:j=a
   ·subst hj; simp
   ·rw [if_neg (by omega),hl]; simp [hj]⟩
  have hK12:Kp bs H6 (H6.put bs g):=Heap.del_put (Heap.del_le _ _)
  generalize H6.put bs g=H12 at *
  have h1:=hK12.at_ n1s h1
  have h3:=hK12.at_ n3s h3
  have h5:=hK12.at_ n5s h5
  have hK:=(Kp.of hH6:Kp bs H H6).trans hK12
  have hP12:=hK.pr hbs hP
  have hA12:=hK.al hA hAs
  obtain ⟨_,hbp⟩:=hP12.at_
  refine ⟨some (bp,0),by rw [QaF h1]; rfl,_,rfl,fL hbp (j:=0) rfl ?_⟩
  refine SlIs.at_ hs hA12 (z:=6) (fun _=>rfl) (by omega) rfl ha fun p y hy hr=>⟨y.Imports,hr 1 _ rfl,?_⟩
  have hi:=hy.2.1.1
  have hadj:adj l a=l[a].im.map fun x=>findN l x.n:=by unfold adj; rw [List.getElem?_eq_getElem ha]
  apply QY
  unfold QF
  apply Q9
  unfold QK
  have kt:∀ D,Kp bs H12 D→Rc l a b→K true D:=fun D h=>kt D (hK.trans h)
  have kf:∀ D S',Kp bs H12 D→SnIs D bs S'→(∀ j,S j=true→S' j=true)→S' a=true→(∀ j,S' j=true→S j=false→j≠b∧∀ k ∈ adj l j,S' k=true)→K false D:=fun D S' h=>kf D S' (hK.trans h)
  clear hr hy hS hP hA hK12 hm hl hm2 hl2
  generalize l[a]=m at *
  refine ixI (A:=A) (K:=fun r D=>K (decide (r ≥ 0)) D) (fun _=>rfl) (by omega) hi (fun i D=>Kp bs H12 D∧∃ S',SnIs D bs S'∧(∀ j,S j=true→S' j=true)∧S' a=true∧(∀ j,S' j=true→S j=false→j≠a→j≠b∧∀ k ∈ adj l j,S' k=true)∧∀ j,j < i→∀ (hj:j < m.im.length),S' (findN l m.im[j].n)=true) (fun i D h=>h.1.al hA12 hAs) ⟨Kp.refl,_,hS12,fun j hj=>by simp [hj],by simp,fun j hj hn hne=>by simp [hn,hne] at hj,fun j hj=>by omega⟩ ?_ ?_
  ·rintro i hil D y ⟨hD,S',hS',g1,g2,g3,g4⟩ hy
   refine ⟨149,[],[pv (some (b1,0)),pv (some (b5,0)),pv (some (b3,0))],rfl,Qgf,Qf1 C y (b1,0) (b5,0) (b3,0) _ D ?_⟩
   unfold Qdh
   refine box1N fun b2 D2 n2 _ l2 h2=>?_
   have hD2:=hD.trans (Kp.of l2)
   have k1:=hD2.at_ n1s h1
   have hkj:findN l m.im[i].n ∈ adj l a:=by rw [hadj]; exact List.mem_map.2 ⟨_,List.getElem_mem hil,rfl⟩
   have hkl:=hf _ _ hkj
   refine ⟨some (bp,0),by rw [QaF k1]; rfl,fS h2 (j:=2) rfl ?_⟩
   rw [hy.2.1]
   refine Qpl (hD2.pr hbs hP12) hs (hD2.al hA12 hAs) fun D3 hD3=>?_
   unfold fIx
   rw [if_pos hkl]
   have hKD3:=hD2.trans (Kp.of hD3)
   have hS3:=(hS'.le l2).le hD3
   obtain ⟨lS,hm,hl⟩:=hS3
   have next:∀ F S2,Kp bs H12 F→SnIs F bs S2→(∀ j,S' j=true→S2 j=true)→S2 (findN l m.im[i].n)=true→(∀ j,S2 j=true→S' j=false→j≠b∧∀ k ∈ adj l j,S2 k=true)→Kp bs H12 F∧∃ S',SnIs F bs S'∧(∀ j,S j=true→S' j=true)∧S' a=true∧(∀ j,S' j=true→S j=false→j≠a→j≠b∧∀ k ∈ adj l j,S' k=true)∧∀ j,j < i+1→∀ (hj:j < m.im.length),S' (findN l m.im[j].n)=true:=fun F S2 hF q1 q2 q3 q4=>by
    refine ⟨hF,S2,q1,fun j hj=>q2 j (g1 j hj),q2 _ g2,fun j hj hn hne=>?_,fun j hj hjl=>?_⟩
    ·cases hs':S' j with
     | false=>exact q4 j hj hs'
     | true=>
      obtain ⟨r1,r2⟩:=g3 j hs' hn hne
      exact ⟨r1,fun k hk=>q2 _ (r2 k hk)⟩
    ·by_cases hji:j=i
     ·subst hji; exact q3
     ·exact q2 _ (g4 j (by omega) hjl)
   refine ⟨some bs,by rw [QaF (hKD3.at_ n5s h5)]; rfl,?_⟩
   have rest:∀ (v is:Bool),v=S' (findN l m.im[i].n)→(fun (x11 is12:Bool)=>jn (α:=Bool) (fun b14 H26=>(fun (r12:Bool) H13=>ift r12 (K (decide (((i:Nat):Int) ≥ 0)) H13) ((Kp bs H12 H13∧∃ S',SnIs H13 bs S'∧(∀ j,S j=true→S' j=true)∧S' a=true∧(∀ j,S' j=true→S j=false→j≠a→j≠b∧∀ k ∈ adj l j,S' k=true)∧∀ j,j < i+1→∀ (hj:j < m.im.length),S' (findN l m.im[j].n)=true))) b14 H26) (fun J15=>ift (!x11) (ldP D3 (b1,0) fun x18=>ldI D3 .i64 (b3,0) fun x20=>ldM D3 (b5,0) fun x22=>QaA C x18 (findN l m.im[i].n:Int) x20 x22 (fun r24 H25=>J15 r24 H25) D3) (J15 false D3))) v is:=fun v is hv=>by
    refine jn.inl ?_
    refine ift.of (fun h=>?_) (fun h=>?_)
    ·have hSk : S' (findN l m.im[i].n) = false := by rw [← hv]; simpa using h
     refine ⟨some (bp,0),by rw [QaF (hKD3.at_ n1s h1)]; rfl,(b:Int),by rw [QaF (hKD3.at_ n3s h3)]; rfl,some bs,by rw [QaF (hKD3.at_ n5s h5)]; rfl,?_⟩
     refine ih (S:=S') (by have:=QvO (n:=l.length) (a:=a) g1 ha hSa g2; omega) hkl hSk rfl rfl (hKD3.pr hbs hP12) (hKD3.al hA12 hAs) ⟨lS,hm,hl⟩ (fun F hF hrc=>ift.of (fun _=>?_) (fun h=>by cases h)) (fun F S2 hF q1 q2 q3 q4=>ift.of (fun h=>by cases h) (fun _=>?_))
     ·rw [show decide ((i : Int) ≥ 0) = true from decide_eq_true (by omega)]
      exact kt F (hKD3.trans hF) (hrc.head hkj)
     ·exact next F S2 (hKD3.trans hF) q1 q2 q3 q4
    ·refine ift.of (fun h => by cases h) (fun _ => ?_)
     have hSk:S' (findN l m.im[i].n)=true:=by rw [← hv]; simpa using h
     exact next D3 S' hKD3 ⟨lS,hm,hl⟩ (fun _ h=>h) hSk fun j h1 h2=>by rw [h1] at h2; cases h2
   refine hm.is.lk (fun v hv=>?_) (fun hno=>?_)
   ·rw [hl] at hv
    have e:v=S' (findN l m.im[i].n):=by
     split at hv
     ·rename_i hh; injection hv with hv; rw [← hv,hh]
     ·cases hv
    exact rest v true e
   ·rw [hl] at hno
    have e:false=S' (findN l m.im[i].n):=by
     split at hno
     ·cases hno
     ·rename_i hh; simpa using hh
    exact rest false false e
  ·rintro D ⟨hD,S',hS',g1,g2,g3,g4⟩
   have:=kf D S' hD hS' g1 g2 fun j hj hn=>by
    by_cases hja:j=a
    ·subst hja
     refine ⟨hab,fun k hk=>?_⟩
     rw [hadj] at hk
     obtain ⟨x,hx,rfl⟩:=List.mem_map.1 hk
     obtain ⟨i,hi',rfl⟩:=List.getElem_of_mem hx
     exact g4 i hi' hi'
    ·exact g3 j hj hn hja
   exact this
end
end
section
open Go Go.Proofs
theorem SnIs.new {H:Heap} {b:Nat}:SnIs (H.put b (.obj (.map #[] 0))) b (fun _=>false):=⟨[],MapS.new,fun j=>by simp [lkL]⟩
theorem QrY {l:List ImP} {s:Str}:(l.any fun y=>decide (y.n=s))=(l.map ImP.n).contains s:=by
 rw [Bool.eq_iff_iff,List.any_eq_true,List.contains_iff_mem,List.mem_map]
 simp only [decide_eq_true_eq]
section
variable {C:Ctx} {A H:Heap} {E:Value→Heap→Prop}
theorem Qrz {l:List MoP} {bp bm:Nat} {sl:Sl} {K:Heap→Prop} (hP:Pr H bp bm sl) (hs:MpL A sl l) (hA:A.le H) (hl8:l.length≤8)
 (k:∀ D,H.le D→impA l l=none→impBf l 0 l=none→K D) (ke:∀ D e,H.le D→(impA l l=some e∨impA l l=none∧impBf l 0 l=some e)→E (flt e.1 e.2.1 e.2.2) D):QbY C E (some (bp,0)) K H:=by
 apply QgY
 unfold QdQ
 obtain ⟨_,hbp⟩:=hP.at_
 refine ⟨_,rfl,fL hbp (j:=0) rfl ?_⟩
 have hlen:=SlIs.len hs
 refine ⟨fun y D=>H.le D∧∃ i:Nat,y=(i:Int)∧i≤l.length∧impA l l=impA l (l.drop i),fun y _=>l.length - y.toNat,⟨Heap.le.refl _,0,rfl,Nat.zero_le _,by simp⟩,?_⟩
 rintro _ D ⟨hD,i,rfl,hi,hn⟩
 rw [hlen]
 refine ift.of (fun h=>?_) (fun h=>?_)
 ·have hil : i < l.length := by have := of_decide_eq_true h; omega
  refine hs.ld (hA.trans hD) (fun _=>rfl) (by omega) rfl hil fun y hy=>?_
  rw [Qcu hil,impA] at hn
  generalize l[i]=m at *
  obtain ⟨hy1,hy2,_⟩:=hy
  have lim:=SlIs.len hy2.1
  have bim:=SlIs.bd hy2.1
  refine boxZ rfl fun b16 D1 n16 l16 h16=>?_
  refine fL h16 (j:=1) rfl ?_
  refine ⟨fun y' D'=>D1.le D'∧∃ j:Nat,y' = (j:Int)∧j≤m.im.length∧impA1 l m.n [] m.im=impA1 l m.n ((m.im.take j).map ImP.n) (m.im.drop j),fun y' _=>m.im.length - y'.toNat,⟨Heap.le.refl _,0,rfl,Nat.zero_le _,by simp⟩,?_⟩
  rintro _ D2 ⟨hD2,j,rfl,hj,hn1⟩
  rw [lim]
  have hHD2:=hD.trans (l16.trans hD2)
  refine ift.of (fun h=>?_) (fun h=>?_)
  ·have hjl : j < m.im.length := by have := of_decide_eq_true h; omega
   refine jn.inl ?_
   refine SlIs.ld hy2.1 (hA.trans hHD2) (z:=3) (fun _=>rfl) (by omega) rfl hjl fun x hx=>?_
   have htk:(m.im.take j).map ImP.n++[m.im[j].n]=(m.im.take (j+1)).map ImP.n:=by rw [List.take_add_one,List.getElem?_eq_getElem hjl,Option.toList_some,List.map_append]; rfl
   rw [Qcu hjl,impA1,htk] at hn1
   generalize m.im[j]=v at *
   refine boxZ rfl fun b36 D3 n36 l36 h36=>?_
   have hHD3:=hHD2.trans l36
   have k16:=l36 _ _ (hD2 _ _ h16)
   have err:∀ e,impA1 l m.n [] m.im=some e→impA l l=some e:=fun e he=>by rw [hn,he]
   refine fS h36 (j:=2) rfl ?_
   rw [hx.2.1]
   refine Qpl (hP.le hHD3) hs (hA.trans hHD3) fun D4 hD4=>?_
   have hHD4:=hHD3.trans hD4
   unfold fIx
   refine ift.of (fun h=>?_) (fun h=>?_)
   ·have hno : l.length ≤ findN l v.n := by
     split at h
     ·have:=of_decide_eq_true h; omega
     ·omega
    rw [if_pos hno] at hn1
    refine bxT (c:=Qa.c) (hD4 _ _ k16) (fPs (x:=x.Pos) (hD4 _ _ h36) rfl rfl ?_)
    exact QdY hy1.1 hx.1 fun F hF=>ke F _ (hHD4.trans hF) (.inl (err _ hn1))
   ·have hno : ¬ l.length ≤ findN l v.n := by
     split at h
     ·omega
     ·exact absurd h (by decide)
    rw [if_neg hno] at hn1
    refine fL (hD4 _ _ k16) (j:=1) rfl ?_
    refine SlIs.pre hy2.1 (z:=3) (fun _=>rfl) hy2.2 rfl (by omega) fun t51 ht51=>?_
    refine cfImport (R:=IpIs) (ok:=fun w=>decide (w.n=v.n)) ht51 (hA.trans hHD4) ?_ fun D5 hD5=>?_
    ·intro w hw x2 F Φ hF hx2 hΦ
     refine ⟨59,[],[pv (some (b36,0))],rfl,Qge,Qf0 C x2 (b36,0) Φ F ?_⟩
     unfold Qdg
     refine box1N fun b2 G _ _ l2 h2=>fS h2 (j:=2) rfl (fS (l2 _ _ (hF _ _ (hD4 _ _ h36))) (j:=2) rfl ?_)
     rw [hx2.2.1,hx.2.1,QrZ]
     exact hΦ G l2
    ·rw [QrY]
     refine ift.of (fun h=>?_) (fun h=>?_)
     ·rw [if_pos h] at hn1
      refine bxT (c:=Qa.c) (hD5 _ _ (hD4 _ _ k16)) (fPs (x:=x.Pos) (hD5 _ _ (hD4 _ _ h36)) rfl rfl ?_)
      exact QdY hy1.1 hx.1 fun F hF=>ke F _ (hHD4.trans (hD5.trans hF)) (.inl (err _ hn1))
     ·rw [if_neg (by rw [h]; decide)] at hn1
      rw [Qal (by omega) (by omega)]
      exact ⟨⟨hD2.trans (l36.trans (hD4.trans hD5)),j+1,rfl,by omega,hn1⟩,by first | omega | (dsimp only; omega)⟩
  ·have hje : j = m.im.length := by have := of_decide_eq_false h; omega
   subst hje
   rw [List.drop_length] at hn1
   have hn1:impA1 l m.n [] m.im=none:=hn1
   rw [hn1] at hn
   rw [Qal (by omega) (by omega)]
   exact ⟨⟨hHD2,i+1,rfl,by omega,hn⟩,by first | omega | (dsimp only; omega)⟩
 ·have hie : i = l.length := by have := of_decide_eq_false h; omega
  subst hie
  rw [List.drop_length] at hn
  have hn:impA l l=none:=hn
  have hf:=Qtj hn
  refine ⟨_,rfl,fL (hD _ _ hbp) (j:=0) rfl ?_⟩
  refine ⟨fun y D=>H.le D∧∃ i:Nat,y=(i:Int)∧i≤l.length∧impBf l 0 l=impBf l i (l.drop i),fun y _=>l.length - y.toNat,⟨hD,0,rfl,Nat.zero_le _,by simp⟩,?_⟩
  clear hD
  rintro _ D ⟨hD,i,rfl,hi,hnB⟩
  rw [hlen]
  refine ift.of (fun h=>?_) (fun h=>?_)
  ·have hil : i < l.length := by have := of_decide_eq_true h; omega
   refine hs.ld (hA.trans hD) (fun _=>rfl) (by omega) rfl hil fun y hy=>?_
   have him:=Qnx hn _ (List.getElem_mem hil)
   rw [Qcu hil,impBf] at hnB
   generalize l[i]=m at *
   obtain ⟨hy1,hy2,_⟩:=hy
   have lim:=SlIs.len hy2.1
   have bim:=SlIs.bd hy2.1
   refine boxZ rfl fun b16 D1 n16 l16 h16=>?_
   refine fL h16 (j:=1) rfl ?_
   refine ⟨fun y' D'=>D1.le D'∧∃ j:Nat,y' = (j:Int)∧j≤m.im.length∧impB1 l m.n i m.im=impB1 l m.n i (m.im.drop j),fun y' _=>m.im.length - y'.toNat,⟨Heap.le.refl _,0,rfl,Nat.zero_le _,by simp⟩,?_⟩
   rintro _ D2 ⟨hD2,j,rfl,hj,hn1⟩
   rw [lim]
   have hHD2:=hD.trans (l16.trans hD2)
   refine ift.of (fun h=>?_) (fun h=>?_)
   ·have hjl : j < m.im.length := by have := of_decide_eq_true h; omega
    refine jn.inl ?_
    refine SlIs.ld hy2.1 (hA.trans hHD2) (z:=3) (fun _=>rfl) (by omega) rfl hjl fun x hx=>?_
    have hfv:=him _ (List.getElem_mem hjl)
    rw [Qcu hjl,impB1] at hn1
    generalize m.im[j]=v at *
    refine boxZ rfl fun b36 D3 n36 l36 h36=>?_
    have hHD3:=hHD2.trans l36
    have k16:=l36 _ _ (hD2 _ _ h16)
    have err:∀ e,impB1 l m.n i m.im=some e→impBf l 0 l=some e:=fun e he=>by rw [hnB,he]
    refine fS h36 (j:=2) rfl ?_
    rw [hx.2.1]
    refine Qpl (hP.le hHD3) hs (hA.trans hHD3) fun D4 hD4=>?_
    have hHD4:=hHD3.trans hD4
    unfold fIx
    rw [if_pos hfv]
    intro bs ns
    have ls:=Heap.le_put ns (g:=.obj (.map #[] 0)) (m:=true)
    have hS:=SnIs.new (H:=D4) (b:=bs)
    generalize D4.put bs (.obj (.map #[] 0))=D5 at *
    have hHD5:=hHD4.trans ls
    have nA:A bs=none:=(hA.trans hHD4).none ns
    have nbp:bp≠bs:=fun e=>by rw [← e,hHD4 _ _ hbp] at ns; cases ns
    have dk:∀ {F},Kp bs D5 F→D4.le F:=fun {F} hF b e hb=>hF.at_ (fun e'=>by rw [e',ns] at hb; cases hb) (ls _ _ hb)
    refine QrJ hs hf nA nbp hl8 (uns l.length (fun _=>false)+1) (S:=fun _=>false) (by omega) hfv rfl rfl rfl (hP.le hHD5) (hA.trans hHD5) hS (fun F hF hrc=>ift.of (fun _=>?_) (fun h=>by cases h)) (fun F S' hF hS' q1 q2 q3=>ift.of (fun h=>by cases h) (fun _=>?_))
    ·rw [if_pos ((QoH hf hfv).2 hrc)] at hn1
     have hF:=dk hF
     refine bxT (c:=Qa.c) (hF _ _ (hD4 _ _ k16)) (fPs (x:=x.Pos) (hF _ _ (hD4 _ _ h36)) rfl rfl ?_)
     exact QdY hy1.1 hx.1 fun G hG=>ke G _ (hHD4.trans (hF.trans hG)) (.inr ⟨hn,err _ hn1⟩)
    ·rw [if_neg fun e => QsM q2 (fun j hj => q3 j hj rfl) ((QoH hf hfv).1 e)] at hn1
     rw [Qal (by omega) (by omega)]
     exact ⟨⟨hD2.trans (l36.trans (hD4.trans (dk hF))),j+1,rfl,by omega,hn1⟩,by first | omega | (dsimp only; omega)⟩
   ·have hje : j = m.im.length := by have := of_decide_eq_false h; omega
    subst hje
    rw [List.drop_length] at hn1
    have hn1:impB1 l m.n i m.im=none:=hn1
    rw [hn1] at hnB
    rw [Qal (by omega) (by omega)]
    exact ⟨⟨hHD2,i+1,rfl,by omega,hnB⟩,by first | omega | (dsimp only; omega)⟩
  ·have hie : i = l.length := by have := of_decide_eq_false h; omega
   subst hie
   rw [List.drop_length] at hnB
   exact k D hD hn hnB
end
end
section
set_option maxRecDepth 100000
open Go Go.Proofs
section
variable {C:Ctx} {H:Heap}
theorem QuU {b1 b3 b5:Nat} {m:Str} {p:Pl} {e:Int} {R:Heap→Prop}
 (k:nw (Qs.c Qs.zero) (fun b4 H4=>stT (b4,0) (Qs.c (⟨⟨m,psP p⟩,e⟩:Qs)) (fun H5=>dr H5 fun Hs=>ldT Hs Qc.c ((b4,0).1,(b4,0).2+0) fun x14=>ldI Hs .i64 ((b4,0).1,(b4,0).2+3) fun x16=>stT (b1,0) (Qa.c Qa.zero) (fun H6=>Heap.le Hs H6∧stT (b3,0) (Qc.c x14) (fun H7=>Heap.le Hs H7∧st (b5,0) (.int .i64 x16) (fun H8=>Heap.le Hs H8∧R H8) H7) H6) H5) H4) H) :
 SpecD Tryz.prog C 21 [pv (some (b1,0)),pv (some (b3,0)),pv (some (b5,0))] (.panicking [⟨flt m p e,false,false⟩]) H (fun u H2=>settle u=.returning∧R H2):=by
 refine SpecD.rec_ (u':=.panicking [{ v:=flt m p e,recovered:=true }]) (v:=flt m p e) (fun c₀ fs h=>.inl (Qp8 h)) Tryz.func21 rfl Tryz.ntmps21 rfl rfl ?_
 refine GC.block ?_
 refine Zo (Zv (v:=.bool false) (OV.eqlIf (u:=flt m p e) rfl (.inr ⟨_,_,rfl⟩) rfl rfl) (GL.nil (Zd (b:=false) (fun h=>by cases h) fun _=>?_)))
 refine Zo (Zv (OV.typeIs rfl rfl) (Zv (v:=.bool true) (OV.extract (vs:=#[.agg (Qs.c (⟨⟨m,psP p⟩,e⟩:Qs)).toArray,.bool true]) rfl rfl) (Zv (v:=.agg (Qs.c (⟨⟨m,psP p⟩,e⟩:Qs)).toArray) (OV.extract (vs:=#[.agg (Qs.c (⟨⟨m,psP p⟩,e⟩:Qs)).toArray,.bool true]) rfl rfl) (GL.nil (Zd (b:=true) (fun _=>?_) fun h=>by cases h)))))
 refine Zo (GL.alloc (cs:=Qs.c Qs.zero) k trivial rfl rfl rfl ?_)
 intro b4 H4 k
 refine GL.storeT (p:=(b4,0)) (vs:=Qs.c (⟨⟨m,psP p⟩,e⟩:Qs)) k trivial rfl rfl rfl rfl ?_
 intro H5 k
 obtain ⟨Hs,hle,x14,hr14,x16,hr16,k⟩:=k
 refine GL.nil (GC.any (Hs:=Hs) (by kernel_rfl) hle (Zp 0 rfl (OV.build (vs:=[]) (v:=.agg (Qa.c Qa.zero).toArray) rfl (fun _=>by kernel_rfl)) ?_))
 refine Zp 1 rfl (OV.fieldAddr rfl rfl) (Zp 2 rfl (OV.loadT rfl rfl rfl hr14) (Zp 3 rfl (OV.fieldAddr rfl rfl) (Zp 4 rfl (OV.load rfl rfl hr16) (GA.eff 5 rfl (by kernel_rfl) (GL.storeT (p:=(b1,0)) (vs:=Qa.c Qa.zero) k trivial rfl rfl rfl rfl ?_)))))
 rintro H6 ⟨hle6,k⟩
 refine GA.back hle6 (GA.eff 6 rfl (by kernel_rfl) (GL.storeT (p:=(b3,0)) (vs:=Qc.c x14) k trivial rfl rfl rfl rfl ?_))
 rintro H7 ⟨hle7,k⟩
 refine GA.back hle7 (GA.eff 7 rfl (by kernel_rfl) (GL.store (p:=(b5,0)) (v:=.int .i64 x16) k trivial rfl rfl rfl rfl ?_))
 rintro H8 ⟨hle8,k⟩
 refine GA.back hle8 (GA.done (by kernel_rfl) ?_)
 exact fun a w hf hs=>postRn rfl hf hs ⟨rfl,k⟩
theorem QuV {b1 b3 b5:Nat} {R:Heap→Prop} (k:R H) :
 SpecD Tryz.prog C 21 [pv (some (b1,0)),pv (some (b3,0)),pv (some (b5,0))] .returning H (fun u H2=>u=.returning∧R H2):=by
 refine SpecD.rec_ (u':=.returning) (v:=.nilIface) (fun c₀ fs h=>.inr ⟨Qp9 h,rfl,by rw [← h]⟩) Tryz.func21 rfl Tryz.ntmps21 rfl rfl ?_
 refine GC.block ?_
 refine Zo (Zv (v:=.bool true) (OV.eqlIf (u:=.nilIface) rfl (.inl rfl) rfl rfl) (GL.nil (Zd (b:=true) (fun _=>?_) fun h=>by cases h)))
 refine GC.region (Za ?_)
 exact fun a w hf hs=>postRn rfl hf hs ⟨rfl,k⟩
end
end
section
open Go Go.Proofs
theorem Qqg {T:Tl} {o m o':MoP} (h:usedF T o m=.ok o'):o'.ty.length=o.ty.length+m.ty.length∧o'.re.length=o.re.length+m.re.length∧o'.ru.length=o.ru.length+m.ru.length∧o'.ne.length=o.ne.length+m.ne.length∧o'.n=o.n:=by
 unfold usedF at h
 split at h
 ·cases h
 split at h
 ·cases h
 split at h
 ·cases h
 split at h
 ·cases h
 rename_i _ a ha _ b hb _ c hc _ d hd
 injection h with h
 subst h
 simp only [List.length_append,Qcn ha,Qcn hb,Qcn hc,Qcn hd,and_self]
section
variable {C:Ctx} {A B W D H:Heap} {E:Value→Heap→Prop}
/-- a block that is none of the program's is written -/
theorem Out.put {bo:Nat} {q:Qa} {o:MoP} (h:Out A B W D bo q o) {b:Nat} {g:GO} (hb:∃ e,B b=some e) (hbo:b≠bo) (hW:W b=none):Out A B W (D.put b g) bo q o:=by
 have hq:∀ {x:Nat} {e:Bool×GO},x ∈ blks q→D x=some e→(D.put b g) x=some e:=fun {x e} hx he=>by
  have:x≠b:=fun e'=>by
   obtain ⟨e2,h2⟩:=hb
   rw [← e',(h.fr x hx).1] at h2; cases h2
  rw [Heap.put_ne _ _ _ this]; exact he
 have hnw:Heap.nw A B (D.put b g)=Heap.nw A B D:=QjO hb
 refine ⟨Heap.dom_put h.dom,h.ab,h.aw,Qbe h.wle hW,?_,h.bB,h.wo,h.nd,h.fr,h.nm,?_,?_,?_,?_⟩
 ·rw [Heap.put_ne _ _ _ (Ne.symm hbo)]; exact h.at_
 all_goals rw [hnw]
 ·exact h.gt.mono (fun x hx e he=>hq (List.mem_append_left _ hx) he) (Heap.le.refl _) TpO.le
 ·exact h.gr.mono (fun x hx e he=>hq (List.mem_append_right _ (List.mem_append_left _ hx)) he) (Heap.le.refl _) RpO.le
 ·exact h.gu.mono (fun x hx e he=>hq (List.mem_append_right _ (List.mem_append_right _ (List.mem_append_left _ hx))) he) (Heap.le.refl _) UpO.le
 ·exact h.gn.mono (fun x hx e he=>hq (List.mem_append_right _ (List.mem_append_right _ (List.mem_append_right _ hx))) he) (Heap.le.refl _) (fun h h'=>NpIs.le h h')
theorem QbD {c vs:List Value} (h:c.length=vs.length):splice c 0 vs=vs:=by
 unfold splice
 rw [List.take_zero,List.nil_append,Nat.zero_add,← h,List.drop_length,List.append_nil]
theorem put_id {D:Heap} {b:Nat} {g:GO} (h:D b=some (true,g)):D.put b g=D:=by
 funext x
 by_cases hx:x=b
 ·subst hx; rw [Heap.put_same,h]
 ·exact Heap.put_ne _ _ _ hx
/-- what is taken: the three results written over -/
theorem QvA {b1 b3 b5:Nat} {c1 c3 c5:List Value} {m:Str} {p:Pl} {e:Int} {K:Qa→Qc→Int→Heap→Prop} (h13:b1≠b3) (h15:b1≠b5) (h35:b3≠b5) (h1:H b1=some (true,.row c1)) (l1:c1.length=6) (h3:H b3=some (true,.row c3)) (l3:c3.length=3) (h5:H b5=some (true,.row c5)) (l5:c5.length=1)
 (k:∀ D,(((H.del b1).del b3).del b5).le D→K Qa.zero ⟨m,psP p⟩ e D) :
 SpecD Tryz.prog C 21 [pv (some (b1,0)),pv (some (b3,0)),pv (some (b5,0))] (.panicking [⟨flt m p e,false,false⟩]) H (fun u H31=>settle u=.returning∧ldT H31 Qa.c (b1,0) fun x32=>ldT H31 Qc.c (b3,0) fun x33=>ldI H31 .i64 (b5,0) fun x34=>K x32 x33 x34 H31):=by
 refine QuU ?_
 refine boxZ rfl fun b4 H5 n4 l4 h4=>?_
 have ne:∀ b,(∃ e,H b=some e)→b4≠b:=fun b ⟨e,he⟩ e'=>by rw [e',he] at n4; cases n4
 have d4:(((H5.del b1).del b3).del b5) b4=some (true,.row (Qs.c (⟨⟨m,psP p⟩,e⟩:Qs))):=by
  rw [Heap.del_ne _ (ne _ ⟨_,h5⟩),Heap.del_ne _ (ne _ ⟨_,h3⟩),Heap.del_ne _ (ne _ ⟨_,h1⟩)]; exact h4
 have k1:=l4 _ _ h1
 have k3:=l4 _ _ h3
 have k5:=l4 _ _ h5
 have hk:∀ D,(((H5.del b1).del b3).del b5).le D→(((H.del b1).del b3).del b5).le D:=fun D hD b e he=>by
  have n5:b≠b5:=fun e'=>by rw [e',Heap.del_same] at he; cases he
  rw [Heap.del_ne _ n5] at he
  have n3:b≠b3:=fun e'=>by rw [e',Heap.del_same] at he; cases he
  rw [Heap.del_ne _ n3] at he
  have n1:b≠b1:=fun e'=>by rw [e',Heap.del_same] at he; cases he
  rw [Heap.del_ne _ n1] at he
  exact hD b e (by rw [Heap.del_ne _ n5,Heap.del_ne _ n3,Heap.del_ne _ n1]; exact l4 _ _ he)
 have hl0:(((H5.del b1).del b3).del b5).le H5:=fun b e he=>by
  have n5:b≠b5:=fun e'=>by rw [e',Heap.del_same] at he; cases he
  rw [Heap.del_ne _ n5] at he
  have n3:b≠b3:=fun e'=>by rw [e',Heap.del_same] at he; cases he
  rw [Heap.del_ne _ n3] at he
  exact Heap.del_le _ _ _ _ he
 have hp:∀ {D:Heap} {b:Nat} {g:GO},(b=b1∨b=b3∨b=b5)→(((H5.del b1).del b3).del b5).le D→(((H5.del b1).del b3).del b5).le (D.put b g):=fun {D b g} hb hD x e he=>by
  have n5:x≠b5:=fun e'=>by rw [e',Heap.del_same] at he; cases he
  have he':=he
  rw [Heap.del_ne _ n5] at he
  have n3:x≠b3:=fun e'=>by rw [e',Heap.del_same] at he; cases he
  rw [Heap.del_ne _ n3] at he
  have n1:x≠b1:=fun e'=>by rw [e',Heap.del_same] at he; cases he
  rw [Heap.put_ne _ _ _ (by rcases hb with rfl | rfl | rfl <;> assumption)]
  exact hD x e he'
 refine ⟨(((H5.del b1).del b3).del b5),hl0,fT (c:=Qc.c) (x:=⟨m,psP p⟩) d4 (fun i v hv=>by match i,hv with | 0,hv=>exact hv | 1,hv=>exact hv | 2,hv=>exact hv) (fI d4 (j:=3) rfl ?_)⟩
 refine ⟨c1,k1,by rw [l1]; show 0+6≤6; omega,hp (.inl rfl) hl0,c3,by rw [Heap.put_ne _ _ _ (Ne.symm h13)]; exact k3,by rw [l3]; show 0+3≤3; omega,hp (.inr (.inl rfl)) (hp (.inl rfl) hl0),c5,by rw [Heap.put_ne _ _ _ (Ne.symm h35),Heap.put_ne _ _ _ (Ne.symm h15)]; exact k5,by rw [l5]; show 0 < 1; omega,hp (.inr (.inr rfl)) (hp (.inr (.inl rfl)) (hp (.inl rfl) hl0)),?_⟩
 have s1:splice c1 0 (Qa.c Qa.zero)=Qa.c Qa.zero:=QbD (by rw [l1]; rfl)
 have s3:splice c3 0 (Qc.c ⟨m,psP p⟩)=Qc.c ⟨m,psP p⟩:=QbD (by rw [l3]; rfl)
 have s5:c5.set 0 (.int .i64 e)=[.int .i64 e]:=by
  match c5,l5 with
  | [x],_=>rfl
 rw [s1,s3,s5]
 refine bxT (c:=Qa.c) (by rw [Heap.put_ne _ _ _ h15,Heap.put_ne _ _ _ h13]; exact Heap.put_same ..) (bxT (c:=Qc.c) (by rw [Heap.put_ne _ _ _ h35]; exact Heap.put_same ..) ⟨e,by rw [QaF (Heap.put_same ..)]; rfl,?_⟩)
 exact k _ (hk _ (hp (.inr (.inr rfl)) (hp (.inr (.inl rfl)) (hp (.inl rfl) hl0))))
theorem TlIs.same {A B:Heap} {bm:Nat} {T:Tl} (h:TlIs A bm T) (hb:B bm=A bm):TlIs B bm T:=by
 obtain ⟨l,h1,h2⟩:=h
 exact ⟨l,h1.same hb,h2⟩
/-- modules as one program -/
theorem Ql5 (hT:MaxC C) {l:List MoP} {sl:Sl} {K:Qa→Qc→Int→Heap→Prop} (hs:MpL A sl l) (hA:A.le H) (hd:∀ m ∈ l,moD m.e≤4611686018427387904)
 (k:∀ D B W bo q o,flatF l=.ok o→H.le B→H.le W→Out A B W D bo q o→K q ⟨[],psP (0,0)⟩ 0 D)
 (ke:∀ D e,flatF l=.error e→H.le D→K Qa.zero ⟨e.1,psP e.2.1⟩ e.2.2 D):QbB C sl K H:=by
 have hlen:=SlIs.len hs
 apply Ql6
 unfold Qh7
 refine box1N fun b1 H2 n1 _ l1 h1=>box1N fun b3 H4 n3 _ l3 h3=>box1N fun b5 H6 n5 _ l5 h5=>?_
 have h1:=l5 _ _ (l3 _ _ h1)
 have n13:b1≠b3:=fun e=>by
  have:H2 b1=none:=by rw [e]; exact n3
  rw [‹H2 b1=some _›] at this; cases this
 have h3':=l5 _ _ h3
 have n15:b1≠b5:=fun e=>by
  have:H4 b1=none:=by rw [e]; exact n5
  rw [l3 _ _ ‹H2 b1=some _›] at this; cases this
 have n35:b3≠b5:=fun e=>by
  have:H4 b3=none:=by rw [e]; exact n5
  rw [h3] at this; cases this
 have h3:=h3'
 have hH6:=l1.trans (l3.trans l5)
 have m1:H b1=none:=n1
 have m3:H b3=none:=l1.none n3
 have m5:H b5=none:=(l1.trans l3).none n5
 have lit:∀ (z:Int),(∀ D,H.le D→K Qa.zero ⟨[],psP (0,0)⟩ z D)→stT (b1,0) (Qa.c (⟨[],Sl.nil,Sl.nil,Sl.nil,Sl.nil,Sl.nil⟩:Qa)) (fun H8=>stT (b3,0) (Qc.c (⟨[],Qf.zero⟩:Qc)) (fun H9=>st (b5,0) (.int .i64 z) (fun H10=>ldT H10 Qa.c (b1,0) fun x11=>ldT H10 Qc.c (b3,0) fun x13=>ldI H10 .i64 (b5,0) fun x15=>K x11 x13 x15 H10) H9) H8) H6:=fun z hk=>by
  refine ⟨_,h1,by show 0+6≤6; omega,_,by rw [Heap.put_ne _ _ _ (Ne.symm n13)]; exact h3,by show 0+3≤3; omega,_,by rw [Heap.put_ne _ _ _ (Ne.symm n35),Heap.put_ne _ _ _ (Ne.symm n15)]; exact h5,by show 0 < 1; omega,?_⟩
  rw [QbD (by rfl),QbD (by rfl)]
  refine bxT (c:=Qa.c) (by rw [Heap.put_ne _ _ _ n15,Heap.put_ne _ _ _ n13]; exact Heap.put_same ..) (bxT (c:=Qc.c) (by rw [Heap.put_ne _ _ _ n35]; exact Heap.put_same ..) ⟨z,by rw [QaF (Heap.put_same ..)]; rfl,hk _ ?_⟩)
  exact Qbe (Qbe (Qbe hH6 m1) m3) m5
 rw [hlen]
 refine ift.of (fun h=>?_) (fun h=>?_)
 ·have hl0 : l.length = 0 := by have := eq_of_beq h; omega
  exact lit 1 fun D hD=>ke D ([],(0,0),1) (by unfold flatF; rw [if_pos hl0]) hD
 have hl0:l.length≠0:=fun e=>by rw [e] at h; exact absurd h (by decide)
 refine ift.of (fun h=>?_) (fun h=>?_)
 ·have hl8 : 8 < l.length := by have := of_decide_eq_true h; omega
  exact lit 3 fun D hD=>ke D ([],(0,0),3) (by unfold flatF; rw [if_neg hl0,if_pos hl8]) hD
 have hl8:¬ 8 < l.length:=by have:=of_decide_eq_false h; omega
 clear lit
 refine ⟨fun v F=>∃ e c1 c3 c5,flatF l=.error e∧v=flt e.1 e.2.1 e.2.2∧H.le F∧F b1=some (true,.row c1)∧c1.length=6∧F b3=some (true,.row c3)∧c3.length=3∧F b5=some (true,.row c5)∧c5.length=1,?_,?_⟩
 ·rintro v F ⟨e,c1,c3,c5,he,rfl,hF,f1,g1,f3,g3,f5,g5⟩
  refine QvA n13 n15 n35 f1 g1 f3 g3 f5 g5 fun D hD=>ke D e he fun b x hb=>hD b x ?_
  rw [Heap.del_ne _ (fun e=>by rw [e,m5] at hb; cases hb),Heap.del_ne _ (fun e=>by rw [e,m3] at hb; cases hb),Heap.del_ne _ (fun e=>by rw [e,m1] at hb; cases hb)]
  exact hF b x hb
 intro bm nm
 have lm:=Heap.le_put nm (g:=.obj (.map #[] 0)) (m:=true)
 have hTl:TlIs (H6.put bm (.obj (.map #[] 0))) bm []:=⟨[],MapS.new,fun _=>rfl⟩
 generalize H6.put bm (.obj (.map #[] 0))=H36 at *
 refine box1N fun bp H38 np _ lp_ hp=>?_
 have hHm:H bm=none:=hH6.none nm
 have hAm:A bm=none:=hA.none hHm
 have n1m:b1≠bm:=fun e=>by rw [← e,h1] at nm; cases nm
 have n3m:b3≠bm:=fun e=>by rw [← e,h3] at nm; cases nm
 have n5m:b5≠bm:=fun e=>by rw [← e,h5] at nm; cases nm
 obtain ⟨em,hem⟩:=hTl.has
 have npm:bp≠bm:=fun e=>by rw [e,hem] at np; cases np
 have k1:=lp_ _ _ (lm _ _ h1)
 have k3:=lp_ _ _ (lm _ _ h3)
 have k5:=lp_ _ _ (lm _ _ h5)
 have np1:bp≠b1:=fun e=>by rw [e,lm _ _ h1] at np; cases np
 have np3:bp≠b3:=fun e=>by rw [e,lm _ _ h3] at np; cases np
 have np5:bp≠b5:=fun e=>by rw [e,lm _ _ h5] at np; cases np
 have hPr:Pr H38 bp bm sl:=⟨_,hp⟩
 have hTl:=hTl.le lp_
 have hH38:=hH6.trans (lm.trans lp_)
 clear l1 l3 l5 lm lp_ hp h1 h3 h5 hH6 np nm hem em
 have fin:∀ {F e},H.le F→flatF l=.error e→(∃ c,F b1=some (true,.row c)∧c.length=6)→F b3=some (true,.row (Qc.c Qc.zero))→F b5=some (true,.row [.int .i64 0])→∃ e' c1 c3 c5,flatF l=.error e'∧flt e.1 e.2.1 e.2.2=flt e'.1 e'.2.1 e'.2.2∧H.le F∧F b1=some (true,.row c1)∧c1.length=6∧F b3=some (true,.row c3)∧c3.length=3∧F b5=some (true,.row c5)∧c5.length=1:=
  fun {F e} hF he ⟨c,hc,hcl⟩ f3 f5=>⟨e,c,_,_,he,rfl,hF,hc,hcl,f3,rfl,f5,rfl⟩
 have hkp:∀ {F},Kp bm H38 F→H.le F:=fun {F} hF b e hb=>hF.at_ (fun e'=>by rw [e',hHm] at hb; cases hb) (hH38 _ _ hb)
 have flat0:flatF l=match singleF [] l with
  | some e=>.error e
  | none => match impA l l with
   | some e=>.error e
   | none => match impBf l 0 l with
    | some e=>.error e
    | none => match namesAll l [] with
     | .error e=>.error e
     | .ok T=>if totB l=true then .error ([],(0,0),3) else usedAll T ⟨(l.head?.map MoP.n).getD [],[],[],[],[],[]⟩ l:=by unfold flatF; rw [if_neg hl0,if_neg hl8] <;> rfl
 refine QsV hT hPr hs (hA.trans hH38) hd (fun D1 hD1 hsi=>?_) (fun F e hF he=>fin (hH38.trans hF) (by rw [flat0,he]) ⟨_,hF _ _ k1,rfl⟩ (hF _ _ k3) (hF _ _ k5))
 obtain ⟨q1,q2,_⟩:=Qkj hsi
 have hg:∀ m ∈ l,MoG m:=fun m hm=>moG (q1 m hm)
 rw [hsi] at flat0
 dsimp only at flat0
 refine Qrz (hPr.le hD1) hs (hA.trans (hH38.trans hD1)) (by omega) (fun D2 hD2 hia hib=>?_) (fun F e hF he=>fin (hH38.trans (hD1.trans hF)) (by
  rw [flat0]
  rcases he with he | ⟨he,he2⟩
  ·rw [he]
  ·rw [he]; dsimp only; rw [he2]) ⟨_,hF _ _ (hD1 _ _ k1),rfl⟩ (hF _ _ (hD1 _ _ k3)) (hF _ _ (hD1 _ _ k5)))
 rw [hia] at flat0
 dsimp only at flat0
 rw [hib] at flat0
 dsimp only at flat0
 have hD2:=hD1.trans hD2
 clear hD1
 refine ⟨fun y D=>Kp bm H38 D∧∃ (i:Nat) (T:Tl),y=(i:Int)∧i≤l.length∧namesAll l []=namesAll (l.drop i) T∧TlIs D bm T,fun y _=>l.length - y.toNat,⟨Kp.of hD2,0,[],rfl,Nat.zero_le _,by rw [List.drop_zero],hTl.le hD2⟩,?_⟩
 clear hD2
 rintro _ D ⟨hD,i,T,rfl,hi,hn,hTD⟩
 have hAD:=hA.trans (hkp hD)
 refine ift.of (fun h=>?_) (fun h=>?_)
 ·have hil : i < l.length := by have := of_decide_eq_true h; omega
  refine hs.ld hAD (fun _=>rfl) (by omega) rfl hil fun y hy=>?_
  have hgi:=hg _ (List.getElem_mem hil)
  rw [Qcu hil,namesAll] at hn
  generalize l[i]=m at *
  refine boxZ rfl fun b52 D3 n52 l52 h52=>?_
  have hD3:=hD.trans (Kp.of l52)
  refine bxT (c:=Qa.c) h52 ?_
  refine Qtq (hAD.trans l52) hAm (hD3.pr npm hPr) npm (hTD.le l52) hy hgi (fun F T' hT' hF hTF=>?_) (fun F e he hF=>?_)
  ·rw [hT'] at hn
   rw [Qal (by omega) (by omega)]
   exact ⟨⟨hD3.trans hF,i+1,T',rfl,by omega,hn,hTF⟩,by first | omega | (dsimp only; omega)⟩
  ·rw [he] at hn
   have hF:=hD3.trans hF
   exact fin (hkp hF) (by rw [flat0,hn]) ⟨_,hF.at_ n1m k1,rfl⟩ (hF.at_ n3m k3) (hF.at_ n5m k5)
 have hie:i=l.length:=by have:=of_decide_eq_false h; omega
 subst hie
 rw [List.drop_length] at hn
 have hn:namesAll l []=.ok T:=hn
 rw [hn] at flat0
 dsimp only at flat0
 refine QsY (hD.pr npm hPr) hs hAD hg (by omega) (fun D5 hD5 htot=>?_) (fun F hF htot=>?_)
 rotate_left
 ·have hF:=hD.trans (Kp.of hF)
  exact fin (e:=([],(0,0),3)) (hkp hF) (by rw [flat0,if_pos htot]) ⟨_,hF.at_ n1m k1,rfl⟩ (hF.at_ n3m k3) (hF.at_ n5m k5)
 rw [if_neg (by rw [htot]; decide)] at flat0
 have hD5:=hD.trans (Kp.of hD5)
 have hAD5:=hA.trans (hkp hD5)
 have hl1:0 < l.length:=by omega
 refine SlIs.at_ hs hAD5 (z:=6) (fun _=>rfl) (by omega) (i:=0) rfl hl1 fun p y hy hr=>⟨y.Name,hr 0 _ rfl,?_⟩
 have hhd:(l.head?.map MoP.n).getD []=l[0].n:=by
  match l,hl1 with
  | m::l,_=>rfl
 rw [hhd] at flat0
 have hy0:y.Name=l[0].n:=hy.1.1
 clear hr hy hhd
 generalize l[0].n=n0 at *
 have d1:=hD5.at_ n1m k1
 have d3:=hD5.at_ n3m k3
 have d5:=hD5.at_ n5m k5
 obtain ⟨mp,dp⟩:=(hD5.pr npm hPr).at_
 have dT:=hTD.le ‹D.le D5›
 refine QrN (cs2:=Qa.c ⟨n0,Sl.nil,Sl.nil,Sl.nil,Sl.nil,Sl.nil⟩) d1 (show 0 < 6 by omega) (by rw [hy0]; rfl) ?_
 have hHD5:=hkp hD5
 have hO:Out A (D5.put b1 (.row (Qa.c ⟨n0,Sl.nil,Sl.nil,Sl.nil,Sl.nil,Sl.nil⟩))) (D5.del b1) (D5.put b1 (.row (Qa.c ⟨n0,Sl.nil,Sl.nil,Sl.nil,Sl.nil,Sl.nil⟩))) b1 ⟨n0,Sl.nil,Sl.nil,Sl.nil,Sl.nil,Sl.nil⟩ ⟨n0,[],[],[],[],[]⟩:=by
  have nA1:A b1=none:=hA.none m1
  exact ⟨fun _ h=>h,Qbe hAD5 nA1,Heap.le_del hAD5 nA1,Heap.del_put (Heap.del_le _ _),Heap.put_same ..,⟨_,Heap.put_same ..⟩,Heap.del_same ..,by simp [blks,bk,Sl.nil],fun b hb=>by simp [blks,bk,Sl.nil] at hb,⟨rfl,rfl,rfl⟩,Gq.nil,Gq.nil,Gq.nil,Gq.nil⟩
 have hHB:H.le (D5.put b1 (.row (Qa.c ⟨n0,Sl.nil,Sl.nil,Sl.nil,Sl.nil,Sl.nil⟩))):=Qbe hHD5 m1
 have b3B:∃ e,(D5.put b1 (.row (Qa.c ⟨n0,Sl.nil,Sl.nil,Sl.nil,Sl.nil,Sl.nil⟩))) b3=some e:=⟨_,by rw [Heap.put_ne _ _ _ (Ne.symm n13)]; exact d3⟩
 have b5B:∃ e,(D5.put b1 (.row (Qa.c ⟨n0,Sl.nil,Sl.nil,Sl.nil,Sl.nil,Sl.nil⟩))) b5=some e:=⟨_,by rw [Heap.put_ne _ _ _ (Ne.symm n15)]; exact d5⟩
 generalize D5.put b1 (.row (Qa.c ⟨n0,Sl.nil,Sl.nil,Sl.nil,Sl.nil,Sl.nil⟩))=B at *
 have w3:(D5.del b1) b3=some (true,.row (Qc.c Qc.zero)):=by rw [Heap.del_ne _ (Ne.symm n13)]; exact d3
 have w5:(D5.del b1) b5=some (true,.row [.int .i64 0]):=by rw [Heap.del_ne _ (Ne.symm n15)]; exact d5
 have wP:Pr (D5.del b1) bp bm sl:=⟨mp,by rw [Heap.del_ne _ np1]; exact dp⟩
 have wT:TlIs (D5.del b1) bm T:=dT.same (Heap.del_ne _ (Ne.symm n1m))
 have hHW:H.le (((D5.del b1).del b3).del b5):=fun b x hb=>by
  rw [Heap.del_ne _ (fun e=>by rw [e,m5] at hb; cases hb),Heap.del_ne _ (fun e=>by rw [e,m3] at hb; cases hb),Heap.del_ne _ (fun e=>by rw [e,m1] at hb; cases hb)]
  exact hHD5 b x hb
 have hWW:(((D5.del b1).del b3).del b5).le (D5.del b1):=(Heap.del_le _ _).trans (Heap.del_le _ _)
 have hHW1:=hHW.trans hWW
 generalize D5.del b1=W1 at *
 refine ⟨fun y D=>∃ (i:Nat) (q:Qa) (o:MoP),y=(i:Int)∧i≤l.length∧usedAll T ⟨n0,[],[],[],[],[]⟩ l=usedAll T o (l.drop i)∧Out A B W1 D b1 q o∧o.ty.length≤i*256∧o.re.length≤i*256∧o.ru.length≤i*256∧o.ne.length≤i*256,fun y _=>l.length - y.toNat,⟨0,_,_,rfl,Nat.zero_le _,by rw [List.drop_zero],hO,Nat.zero_le _,Nat.zero_le _,Nat.zero_le _,Nat.zero_le _⟩,?_⟩
 clear hO d1 d3 d5 dp dT hD5 hAD5
 rintro _ D ⟨i,q,o,rfl,hi,hu,hO,u1,u2,u3,u4⟩
 have hi8 : i * 256 ≤ 2048 := by have : i ≤ 8 := by omega
                                 omega
 refine ift.of (fun h=>?_) (fun h=>?_)
 ·have hil : i < l.length := by have := of_decide_eq_true h; omega
  refine hs.ld hO.al (fun _=>rfl) (by omega) rfl hil fun y hy=>?_
  have hgi:=hg _ (List.getElem_mem hil)
  rw [Qcu hil,usedAll] at hu
  generalize l[i]=m at *
  refine boxZ rfl fun b52 D3 n52 l52 h52=>?_
  have hO3:=hO.up l52
  refine bxT (c:=Qa.c) h52 ?_
  refine Qu7 hO3 wP wT hy hgi (by omega) (fun F q' o' ho' hO'=>?_) (fun F q' o' p hO' hp=>?_)
  ·rw [ho'] at hu
   obtain ⟨v1,v2,v3,v4,_⟩:=Qqg ho'
   have g1:=hgi.lt
   have g2:=hgi.lr
   have g3:=hgi.lu
   have g4:=hgi.ln
   rw [Qal (by omega) (by omega)]
   exact ⟨⟨i+1,q',o',rfl,by omega,hu,hO',by omega,by omega,by omega,by omega⟩,by first | omega | (dsimp only; omega)⟩
  ·rw [hp] at hu
   exact fin (e:=(m.n,p,63)) (hHW1.trans hO'.wle) (by rw [flat0,hu]) ⟨_,hO'.at_,rfl⟩ (hO'.wle _ _ w3) (hO'.wle _ _ w5)
 ·have hie : i = l.length := by have := of_decide_eq_false h; omega
  subst hie
  rw [List.drop_length] at hu
  have hu:usedAll T ⟨n0,[],[],[],[],[]⟩ l=.ok o:=hu
  rw [hu] at flat0
  refine bxT (c:=Qa.c) hO.at_ ⟨_,hO.at_,by show 0+6≤6; omega,?_⟩
  rw [QbD (by rfl),put_id hO.at_]
  have f3:=hO.wle _ _ w3
  have f5:=hO.wle _ _ w5
  have hO2:=hO.keep (W2:=((W1.del b3).del b5)) (hA.trans hHW) (((Heap.del_le _ _).trans (Heap.del_le _ _)).trans hO.wle) (by rw [Heap.del_ne _ n15,Heap.del_ne _ n13]; exact hO.wo) fun b hb=>((Heap.del_le _ _).trans (Heap.del_le _ _)).none (hO.fr b hb).2
  have hO3:=hO2.put (b:=b3) (g:=.row (Qc.c ⟨[],Qf.zero⟩)) b3B (Ne.symm n13) (by rw [Heap.del_ne _ n35]; exact Heap.del_same ..)
  have hO4:=hO3.put (b:=b5) (g:=.row [.int .i64 0]) b5B (Ne.symm n15) (Heap.del_same ..)
  refine ⟨_,f3,by show 0+3≤3; omega,_,by rw [Heap.put_ne _ _ _ (Ne.symm n35)]; exact f5,by show 0 < 1; omega,?_⟩
  rw [QbD (by rfl)]
  refine QuV ?_
  refine bxT (c:=Qa.c) hO4.at_ (bxT (c:=Qc.c) (x:=⟨[],Qf.zero⟩) (by rw [Heap.put_ne _ _ _ n35]; exact Heap.put_same ..) ⟨0,by rw [QaF (Heap.put_same ..)]; rfl,?_⟩)
  exact k _ B _ b1 q o flat0 hHB hHW hO4
end
end
section
open Go Go.Proofs
/-- all that is known where modules come to a program -/
structure FlatO (l:List MoP) (T:Tl) (o:MoP):Prop where
 l1:0 < l.length
 l8:l.length≤8
 si:singleF [] l=none
 ia:impA l l=none
 ib:impBf l 0 l=none
 na:namesAll l []=.ok T
 tot:totB l=false
 us:usedAll T ⟨(l.head?.map MoP.n).getD [],[],[],[],[],[]⟩ l=.ok o
theorem Qqz {l:List MoP} {o:MoP} (h:flatF l=.ok o):∃ T,FlatO l T o:=by
 unfold flatF at h
 split at h
 ·cases h
 split at h
 ·cases h
 rename_i h0 h8
 cases h1:singleF [] l with
 | some e=>rw [h1] at h; cases h
 | none=>
  rw [h1] at h
  cases h2:impA l l with
  | some e=>rw [h2] at h; cases h
  | none=>
   rw [h2] at h
   cases h3:impBf l 0 l with
   | some e=>rw [h3] at h; cases h
   | none=>
    rw [h3] at h
    cases h4:namesAll l [] with
    | error e=>rw [h4] at h; cases h
    | ok T=>
     rw [h4] at h
     dsimp only at h
     cases h5:totB l with
     | true=>rw [h5] at h; cases h
     | false=>
      rw [h5] at h
      exact ⟨T,by omega,by omega,h1,h2,h3,h4,h5,h⟩
theorem FlatO.mo {l:List MoP} {T:Tl} {o:MoP} (h:FlatO l T o):∀ m ∈ l,MoG m:=fun m hm=>moG ((Qkj h.si).1 m hm)
theorem QnY {T:Tl}:∀ {l:List MoP} {o o':MoP},usedAll T o l=.ok o'→o'.ty.length=o.ty.length+total MoP.ty l∧o'.re.length=o.re.length+total MoP.re l∧o'.ru.length=o.ru.length+total MoP.ru l∧o'.ne.length=o.ne.length+total MoP.ne l∧o'.n=o.n
 | [],o,o',h=>by simp only [usedAll] at h; injection h with h; subst h; simp [total]
 | m::l,o,o',h=>by
  simp only [usedAll] at h
  split at h
  ·cases h
  ·rename_i o1 h1
   obtain ⟨a1,a2,a3,a4,a5⟩:=Qqg h1
   obtain ⟨b1,b2,b3,b4,b5⟩:=QnY h
   simp only [total]
   refine ⟨by omega,by omega,by omega,by omega,by rw [b5,a5]⟩
theorem FlatO.len {l:List MoP} {T:Tl} {o:MoP} (h:FlatO l T o):o.ty.length≤64∧o.re.length≤64∧o.ru.length≤256∧o.ne.length≤256∧o.n.length≤32:=by
 obtain ⟨a1,a2,a3,a4,a5⟩:=QnY h.us
 have ht:=h.tot
 unfold totB at ht
 simp only [Bool.or_eq_false_iff,decide_eq_false_iff_not] at ht
 simp only [List.length_nil] at a1 a2 a3 a4
 refine ⟨by omega,by omega,by omega,by omega,?_⟩
 rw [a5]
 have:=h.l1
 cases hl:l with
 | nil=>rw [hl] at this; simp at this
 | cons m l'=>exact (h.mo m (by rw [hl]; exact List.mem_cons_self ..)).n
section
variable {α β:Type} {R:Heap→α→β→Prop} {c:β→List Value} {z:Nat} {A B D Z W:Heap} {s:Sl} {l:List α}
/-- a list that grew, read -/
theorem Gq.is (h:Gq R c z Z D s l) (hb:∀ b ∈ bk s,B b=none) (hZ:Z.le (Heap.nw A B D)) (hz:∀ x,(c x).length=z) (hz0:0 < z) (hR:∀ {X Y:Heap} {v x},X.le Y→R X v x→R Y v x) (hl:l.length≤140737488355328):SlIs (R (Heap.nw A B D)) c (Heap.nw A B D) s l:=by
 have hlen:=h.len hz hz0
 obtain ⟨xs,h1,h2,h3⟩:=h
 refine ⟨xs,?_,by omega,h2,hl,fun i v x hv hx=>hR hZ (h3 i v x hv hx)⟩
 obtain ⟨g1,g2,g3,⟨hp,h0⟩ | ⟨b,sp,hp,hbk,_⟩⟩:=h1
 ·refine .inl ?_
  have:s.len=0:=by omega
  rw [this] at g1
  exact List.length_eq_zero_iff.1 (by omega)
 ·refine .inr ⟨g2, _, hp, Qe9 (QnE (hb b (QgD.2 ⟨_, hp, rfl⟩)) hbk) fun j v hj => ?_⟩
  rw [Nat.zero_add,List.getElem?_append_left (List.getElem?_eq_some_iff.1 hj).1]; exact hj
theorem Out.is {bo:Nat} {q:Qa} {o:MoP} {T:Tl} {l:List MoP} (h:Out A B W D bo q o) (hf:FlatO l T o):MpIs (Heap.nw A B D) o q:=by
 obtain ⟨f1,f2,f3,f4,f5⟩:=hf.len
 have hZ:(offB (blks q) (Heap.nw A B D)).le (Heap.nw A B D):=Qpu _ _
 have hfr:∀ b ∈ blks q,B b=none:=fun b hb=>(h.fr b hb).1
 refine ⟨⟨h.nm.1,by omega⟩,⟨?_,?_⟩,?_,?_,?_,?_⟩
 ·rw [h.nm.2.1,h.nm.2.2]; exact SlIs.nil
 ·rw [h.nm.2.1]; exact Nat.le_refl _
 ·obtain ⟨xs, g⟩ := h.gt.is (fun b hb => hfr b (List.mem_append_left _ hb)) hZ (fun _ => rfl) (by omega) TpO.le (by omega)
  exact ⟨xs,g.1,g.2.1,g.2.2.1,g.2.2.2.1,fun i v x hv hx=>(g.2.2.2.2 i v x hv hx).1⟩
 ·obtain ⟨xs, g⟩ := h.gr.is (fun b hb => hfr b (List.mem_append_right _ (List.mem_append_left _ hb))) hZ (fun _ => rfl) (by omega) RpO.le (by omega)
  exact ⟨xs,g.1,g.2.1,g.2.2.1,g.2.2.2.1,fun i v x hv hx=>(g.2.2.2.2 i v x hv hx).1⟩
 ·obtain ⟨xs, g⟩ := h.gu.is (fun b hb => hfr b (List.mem_append_right _ (List.mem_append_right _ (List.mem_append_left _ hb)))) hZ (fun _ => rfl) (by omega) UpO.le (by omega)
  exact ⟨xs,g.1,g.2.1,g.2.2.1,g.2.2.2.1,fun i v x hv hx=>(g.2.2.2.2 i v x hv hx).1⟩
 ·exact h.gn.is (fun b hb=>hfr b (List.mem_append_right _ (List.mem_append_right _ (List.mem_append_right _ hb)))) hZ (fun _=>rfl) (by omega) (fun h h'=>NpIs.le h h') (by omega)
theorem Qua {R:α→β→Prop} {b:Nat} {m:Bool} {xs:List β} {cs:List Value} {n:Nat} (hb:A b=some (m,.row cs)) (hc:cs=xs.flatMap c) (hn:n=xs.length) (hl:l.length=xs.length) (h1:l.length≤140737488355328) (hR:∀ (i:Nat) (v:α) (x:β),l[i]? = some v→xs[i]? = some x→R v x):SlIs R c A (Sl.of (some (b,0)) n n) l:=by
 subst hc; subst hn
 exact ⟨xs,.inr ⟨rfl,_,rfl,Qe9 hb fun j v hj=>by rw [Nat.zero_add]; exact hj⟩,rfl,hl,h1,hR⟩
/-- a list of one -/
theorem Qkk {R:α→β→Prop} {b:Nat} {m:Bool} {v:α} {x:β} (hb:A b=some (m,.row (c x++[]))) (h:R v x):SlIs R c A (Sl.of (some (b,0)) 1 1) [v]:=by
 refine Qua (xs:=[x]) hb (by simp) rfl rfl (by simp) fun i v' x' hv hx=>?_
 cases i with
 | zero=>simp at hv hx; subst hv; subst hx; exact h
 | succ i=>simp at hv
theorem QvF {R:α→β→Prop} {b:Nat} {m:Bool} {v w:α} {x y:β} (hb:A b=some (m,.row (c x++c y++[]))) (h:R v x) (h2:R w y):SlIs R c A (Sl.of (some (b,0)) 2 2) [v,w]:=by
 refine Qua (xs:=[x,y]) hb (by simp) rfl rfl (by simp) fun i v' x' hv hx=>?_
 match i with
 | 0=>simp at hv hx; subst hv; subst hx; exact h
 | 1=>simp at hv hx; subst hv; subst hx; exact h2
 | i+2=>simp at hv
end
end
section
open Go Go.Proofs
def fdA:FdV:=⟨[120],.mk [105,110,116] []⟩
def exA:ExP:=.mk (0,0) 2 [88] V0 []
def gA:MoP:=⟨[103,114,97,112,104],[⟨(0,0),[98,97,115,101]⟩],[],[⟨(0,0),false,false,[112],[fdA]⟩],[⟨(0,0),[112],[exA],[[]],[⟨(0,0),1,[98,97,115,101,46,101],[exA]⟩]⟩],[]⟩
def bA:MoP:=⟨[98,97,115,101],[],[],[⟨(0,0),true,true,[101],[fdA]⟩],[],[]⟩
def oA:MoP:=⟨[103,114,97,112,104],[],[],[⟨(0,0),false,false,[103,114,97,112,104,46,112],[fdA]⟩,⟨(0,0),true,true,[98,97,115,101,46,101],[fdA]⟩],[⟨(0,0),[103,114,97,112,104,46,112],[exA],[[]],[⟨(0,0),1,[98,97,115,101,46,101],[exA]⟩]⟩],[]⟩
theorem flatA:flatF [gA,bA]=.ok oA:=by rfl
theorem Qmg {b:Bool} {X Y:Prop} (h:b=true) (k:X):ift b X Y:=ift.of (fun _=>k) (fun h'=>by rw [h] at h'; cases h')
theorem Qvc {A:Heap}:FdIs A fdA ⟨[120],⟨[105,110,116],Sl.nil⟩⟩:=⟨⟨rfl,by decide⟩,Qeq.2 ⟨⟨rfl,by decide⟩,SlIs.nil⟩⟩
theorem Qvk {A:Heap}:EpIs A exA ⟨2,Qf.zero,[88],Qh.zero,Sl.nil⟩:=QgC.2 ⟨rfl,rfl,⟨rfl,by decide⟩,QvQ,V0_B,SlIs.nil⟩
theorem QqR {C:Ctx} {H:Heap} (hT:MaxC C) {K:Bool→Heap→Prop} (k:∀ D,H.le D→K true D):QfW C K H:=by
 apply Qn4
 unfold QkT
 refine box1N fun b1 H2 n1 _ l1 h1=>box1N fun b3 H4 n3 _ l3 h3=>box1N fun b5 H6 n5 _ l5 h5=>box1N fun b7 H8 n7 _ l7 h7=>box1N fun b9 H10 n9 _ l9 h9=>box1N fun b11 H12 n11 _ l11 h11=>box1N fun b13 H14 n13 _ l13 h13=>box1N fun b15 H16 n15 _ l15 h15=>box1N fun b17 H18 n17 _ l17 h17=>?_
 have hF:H.le H18:=l1.trans (l3.trans (l5.trans (l7.trans (l9.trans (l11.trans (l13.trans (l15.trans l17)))))))
 have h15:=l17 _ _ h15
 have h13:=l17 _ _ (l15 _ _ h13)
 have h11:=l17 _ _ (l15 _ _ (l13 _ _ h11))
 have h9:=l17 _ _ (l15 _ _ (l13 _ _ (l11 _ _ h9)))
 have h7:=l17 _ _ (l15 _ _ (l13 _ _ (l11 _ _ (l9 _ _ h7))))
 have h5:=l17 _ _ (l15 _ _ (l13 _ _ (l11 _ _ (l9 _ _ (l7 _ _ h5)))))
 have h3:=l17 _ _ (l15 _ _ (l13 _ _ (l11 _ _ (l9 _ _ (l7 _ _ (l5 _ _ h3))))))
 have h1:=l17 _ _ (l15 _ _ (l13 _ _ (l11 _ _ (l9 _ _ (l7 _ _ (l5 _ _ (l3 _ _ h1)))))))
 have f1:FdL H18 (Sl.of (some (b1,0)) 1 1) [fdA]:=Qkk h1 Qvc
 have e3:EpL H18 (Sl.of (some (b3,0)) 1 1) [exA]:=Qkk h3 Qvk
 have i5:IpL H18 (Sl.of (some (b5,0)) 1 1) [⟨(0,0),[98,97,115,101]⟩]:=Qkk (R:=IpIs) h5 ⟨rfl,rfl,by decide⟩
 have r7:RpL H18 (Sl.of (some (b7,0)) 1 1) [⟨(0,0),false,false,[112],[fdA]⟩]:=Qkk h7 ⟨rfl,rfl,rfl,⟨rfl,by decide⟩,f1⟩
 have s9:StL H18 (Sl.of (some (b9,0)) 1 1) [[]]:=Qkk (c:=fun x:Str=>[sv x]) (x:=[]) h9 ⟨rfl,by decide⟩
 have b11':LpL H18 (Sl.of (some (b11,0)) 1 1) [⟨(0,0),1,[98,97,115,101,46,101],[exA]⟩]:=Qkk h11 ⟨rfl,rfl,⟨rfl,by decide⟩,e3⟩
 have u13:UpL H18 (Sl.of (some (b13,0)) 1 1) gA.ru:=Qkk h13 ⟨rfl,⟨rfl,by decide⟩,e3,s9,b11'⟩
 have r15:RpL H18 (Sl.of (some (b15,0)) 1 1) bA.re:=Qkk h15 ⟨rfl,rfl,rfl,⟨rfl,by decide⟩,f1⟩
 have hs:MpL H18 (Sl.of (some (b17,0)) 2 2) [gA,bA]:=QvF h17 ⟨⟨rfl,by decide⟩,⟨i5,Nat.le_refl _⟩,SlIs.nil,r7,u13,SlIs.nil⟩ ⟨⟨rfl,by decide⟩,⟨SlIs.nil,Nat.le_refl _⟩,SlIs.nil,r15,SlIs.nil,SlIs.nil⟩
 clear h1 h3 h5 h7 h9 h11 h13 h15 h17 f1 e3 i5 r7 s9 b11' u13 r15 n1 n3 n5 n7 n9 n11 n13 n15 n17 l1 l3 l5 l7 l9 l11 l13 l15 l17
 refine Ql5 hT hs (Heap.le.refl _) (fun m hm=>by
  simp only [List.mem_cons,List.mem_nil_iff,or_false] at hm
  rcases hm with rfl | rfl <;> decide) (fun D B W bo q o ho hB hW hO=>?_) (fun D e he=>by rw [flatA] at he; cases he)
 have e:o=oA:=by rw [flatA] at ho; injection ho with ho; exact ho.symm
 subst e
 obtain ⟨T,hT'⟩:=Qqz ho
 obtain ⟨⟨m1,_⟩,⟨m2,_⟩,m3,m4,m5,m6⟩:=hO.is hT'
 have hHD:=hF.trans (hW.trans hO.wle)
 have hN:(Heap.nw H18 B D).le D:=QpY hO.al
 refine box1N fun b23 H24 n23 _ l23 h23=>box1N fun b25 H26 n25 _ l25 h25=>?_
 have n2:b23≠b25:=fun e=>by rw [e] at h23; rw [h23] at n25; cases n25
 have nb:D b25=none:=l23.none n25
 refine ⟨_,l25 _ _ h23,by show 0+6≤6; omega,_,by rw [Heap.put_ne _ _ _ (Ne.symm n2)]; exact h25,by show 0+3≤3; omega,?_⟩
 rw [QbD (by rfl),QbD (by rfl)]
 have g23:((H26.put b23 (.row (Qa.c q))).put b25 (.row (Qc.c ⟨[],psP (0,0)⟩))) b23=some (true,.row (Qa.c q)):=by rw [Heap.put_ne _ _ _ n2]; exact Heap.put_same ..
 have g25:((H26.put b23 (.row (Qa.c q))).put b25 (.row (Qc.c ⟨[],psP (0,0)⟩))) b25=some (true,.row (Qc.c ⟨[],psP (0,0)⟩)):=Heap.put_same ..
 have hDG:D.le ((H26.put b23 (.row (Qa.c q))).put b25 (.row (Qc.c ⟨[],psP (0,0)⟩))):=Qbe (Qbe (l23.trans l25) n23) nb
 show jn _ _
 rw [show (H26.put (b23,0).1 (GO.row (Qa.c q))).put (b25,0).1 (GO.row (Qc.c ⟨[],psP (0,0)⟩))=(H26.put b23 (.row (Qa.c q))).put b25 (.row (Qc.c ⟨[],psP (0,0)⟩)) from rfl]
 generalize (H26.put b23 (.row (Qa.c q))).put b25 (.row (Qc.c ⟨[],psP (0,0)⟩))=G at *
 have hNG:=hN.trans hDG
 refine jn.inl (Qmg rfl (bxT (c:=Qc.c) g25 ?_))
 refine jn.inl (Qmg (QiS.2 rfl) (fS g23 (j:=0) rfl ?_))
 rw [m1]
 refine jn.inl (Qmg rfl (fL g23 (j:=1) rfl ?_))
 refine jn.inl (Qmg (by rw [SlIs.len m2]; rfl) (fL g23 (j:=3) rfl ?_))
 refine jn.inl (Qmg (by rw [SlIs.len m4]; rfl) (fL g23 (j:=3) rfl ?_))
 refine SlIs.at_ m4 hNG (z:=6) (fun _=>rfl) (by omega) (i:=0) rfl (by decide) fun p y hy hr=>⟨y.Name,hr 4 _ rfl,?_⟩
 refine jn.inl (Qmg (by rw [hy.2.2.2.1.1]; rfl) (fL g23 (j:=3) rfl ?_))
 refine SlIs.at_ m4 hNG (z:=6) (fun _=>rfl) (by omega) (i:=1) rfl (by decide) fun p y hy hr=>⟨y.Name,hr 4 _ rfl,?_⟩
 refine jn.inl (Qmg (by rw [hy.2.2.2.1.1]; rfl) (fL g23 (j:=3) rfl ?_))
 refine SlIs.at_ m4 hNG (z:=6) (fun _=>rfl) (by omega) (i:=1) rfl (by decide) fun p y hy hr=>⟨y.Input,hr 3 _ rfl,?_⟩
 refine jn.inl (Qmg (by rw [hy.2.2.1]; rfl) (fL g23 (j:=4) rfl ?_))
 refine jn.inl (Qmg (by rw [SlIs.len m5]; rfl) (fL g23 (j:=4) rfl ?_))
 refine SlIs.at_ m5 hNG (z:=6) (fun _=>rfl) (by omega) (i:=0) rfl (by decide) fun p y hy hr=>⟨y.Rel,hr 2 _ rfl,?_⟩
 refine jn.inl (Qmg (by rw [hy.2.1.1]; rfl) (fL g23 (j:=4) rfl ?_))
 refine SlIs.at_ m5 hNG (z:=6) (fun _=>rfl) (by omega) (i:=0) rfl (by decide) fun p y hy hr=>⟨y.Body,hr 5 _ rfl,?_⟩
 refine SlIs.at_ hy.2.2.2.2 hNG (z:=5) (fun _=>rfl) (by omega) (i:=0) rfl (by decide) fun p y hy hr=>⟨y.Rel,hr 3 _ rfl,?_⟩
 refine jn.inl (Qmg (by rw [hy.2.2.1.1]; rfl) (fL g23 (j:=4) rfl ?_))
 refine SlIs.at_ m5 hNG (z:=6) (fun _=>rfl) (by omega) (i:=0) rfl (by decide) fun p y hy hr=>⟨y.Args,hr 3 _ rfl,?_⟩
 have hk:=k G (hHD.trans hDG)
 dsimp only
 rw [SlIs.len hy.2.2.1]
 exact hk
end
section
open Go Go.Proofs
def szM (m:MoP):Nat:=20+10*(m.im.length+m.ty.length+m.re.length+m.ru.length+m.ne.length)
theorem QnV {α:Type} {f:α→Nat} (hf:∀ v,1≤f v):∀ l:List α,l.length≤sL f l
 | []=>Nat.zero_le _
 | v::l=>by have:=QnV hf l; have:=hf v; simp only [sL,List.length_cons]; omega
theorem Qsw (m:MoP):m.im.length≤moSz m.e∧m.ty.length≤moSz m.e∧m.re.length≤moSz m.e∧m.ru.length≤moSz m.e∧m.ne.length≤moSz m.e:=by
 have h1:=QnV (f:=tdSz) (fun v=>by unfold tdSz; omega) (m.ty.map TdP.e)
 have h2:=QnV (f:=rdSz) (fun v=>by unfold rdSz; omega) (m.re.map RdP.e)
 have h3:=QnV (f:=ruSz) (fun v=>by unfold ruSz; omega) (m.ru.map RuP.e)
 have h4:=QnV (f:=neSz) (fun v=>by unfold neSz; omega) (m.ne.map NeP.e)
 simp only [List.length_map] at h1 h2 h3 h4
 unfold moSz MoP.e
 simp only [List.length_map]
 refine ⟨by omega,by omega,by omega,by omega,by omega⟩
section
variable {C:Ctx} {A H:Heap}
theorem Qtl (hT:MaxC C) (hFm:FmtC C) {l:List MoP} {s:Sl} {K:Bool→Heap→Prop} (hs:MpL A s l) (hA:A.le H) (hz:∀ m ∈ l,moSz m.e≤16777216) (hl:l.length≤16777216)
 (k:∀ b D,H.le D→(b=false→sL szM l < 5000∧∀ m ∈ l,moD m.e≤64)→K b D):Qiu C s K H:=by
 have hlen:=SlIs.len hs
 apply Qn6
 unfold QkV
 refine ⟨fun y D=>H.le D∧∃ (i:Nat) (n:Int),y=(n,(i:Int))∧i≤l.length∧(sL szM (l.take i):Int)≤n∧n≤10000000000000∧∀ m ∈ l.take i,moD m.e≤64,fun y _=>l.length - y.2.toNat,⟨Heap.le.refl _,0,0,rfl,Nat.zero_le _,by simp [sL],by omega,fun m hm=>by simp at hm⟩,?_⟩
 rintro _ D ⟨hD,i,n,rfl,hi,hn,hn2,hd⟩
 rw [hlen]
 refine ift.of (fun h=>?_) (fun h=>?_)
 ·rw [Bool.and_eq_true] at h
  have hil:i < l.length:=by have:=of_decide_eq_true h.1; omega
  have hn5:n < 5000:=of_decide_eq_true h.2
  have hzi:=hz _ (List.getElem_mem hil)
  have hlens:=Qsw l[i]
  have hDz:=Qvv l[i].e
  have htk:=Qu0 (f:=szM) hil
  have hmt:∀ m ∈ l.take (i+1),m ∈ l.take i∨m=l[i]:=fun m hm=>by
   rw [List.take_add_one,List.getElem?_eq_getElem hil,Option.toList_some] at hm
   rcases List.mem_append.1 hm with h | h
   ·exact .inl h
   ·exact .inr (by simpa using h)
  refine SlIs.ld hs (hA.trans hD) (z:=6) (fun _=>rfl) (by omega) rfl hil fun y hy=>?_
  have hmt2:=fun (x:Qa) (hx:MpIs A l[i] x)=>QuL (MpIs.e hx)
  refine Qs5 hT hFm (MpIs.e hy) (hA.trans hD) (by omega) (fun h0=>?_) fun D2 hD2=>?_
  ·have:=hmt2 y hy (moC0 h0).2.1
   omega
  have htl:(if moC l[i].e=0 then moT l[i].e else []).length≤400000000000:=by
   split
   ·rename_i h0
    have:=hmt2 y hy (moC0 h0).2.1
    omega
   ·simp
  have hAD:=hA.trans (hD.trans hD2)
  have hHD:=hD.trans hD2
  generalize (if moC l[i].e=0 then moT l[i].e else [])=tx at *
  refine ift.of (fun h=>k true D2 hHD (fun h=>by cases h)) (fun h=>?_)
  have hdp:moD l[i].e≤64:=by
   have h:moC l[i].e≠65:=by simpa using h
   unfold moC at h
   split at h
   ·exact absurd rfl h
   ·omega
  refine SlIs.at_ hs hAD (z:=6) (fun _=>rfl) (by omega) rfl hil fun p y1 hy1 hr=>⟨y1.Rules,hr 4 _ rfl,?_⟩
  dsimp only
  rw [SlIs.len hy1.2.2.2.2.1]
  refine SlIs.at_ hs hAD (z:=6) (fun _=>rfl) (by omega) rfl hil fun p y1 hy1 hr=>⟨y1.Types,hr 2 _ rfl,?_⟩
  dsimp only
  rw [SlIs.len hy1.2.2.1]
  refine SlIs.at_ hs hAD (z:=6) (fun _=>rfl) (by omega) rfl hil fun p y1 hy1 hr=>⟨y1.Rels,hr 3 _ rfl,?_⟩
  dsimp only
  rw [SlIs.len hy1.2.2.2.1]
  refine SlIs.at_ hs hAD (z:=6) (fun _=>rfl) (by omega) rfl hil fun p y1 hy1 hr=>⟨y1.Nevers,hr 5 _ rfl,?_⟩
  dsimp only
  rw [SlIs.len hy1.2.2.2.2.2]
  refine SlIs.at_ hs hAD (z:=6) (fun _=>rfl) (by omega) rfl hil fun p y1 hy1 hr=>⟨y1.Imports,hr 1 _ rfl,?_⟩
  dsimp only
  rw [SlIs.len hy1.2.1.1]
  unfold szM at htk
  generalize hm:l[i]=m at *
  rw [Qal (x := (m.ru.length : Int) + (m.ty.length : Int)) (by omega) (by omega), Qal (x := (m.ru.length : Int) + (m.ty.length : Int) + (m.re.length : Int)) (by omega) (by omega), Qal (x := (m.ru.length : Int) + (m.ty.length : Int) + (m.re.length : Int) + (m.ne.length : Int)) (by omega) (by omega), Qal (x := (m.ru.length : Int) + (m.ty.length : Int) + (m.re.length : Int) + (m.ne.length : Int) + (m.im.length : Int)) (by omega) (by omega),
   Qal (x:=10*((m.ru.length:Int)+(m.ty.length:Int)+(m.re.length:Int)+(m.ne.length:Int)+(m.im.length:Int))) (by omega) (by omega),Qal (x:=n+20) (by omega) (by omega),Qal (x:=n+20+(tx.length:Int)) (by omega) (by omega),Qal (x:=n+20+(tx.length:Int)+10*((m.ru.length:Int)+(m.ty.length:Int)+(m.re.length:Int)+(m.ne.length:Int)+(m.im.length:Int))) (by omega) (by omega),Qal (by omega) (by omega)]
  refine ⟨⟨hHD,i+1,_,rfl,by omega,?_,by omega,fun m' hm'=>?_⟩,by first | omega | (dsimp only; omega)⟩
  ·change ((sL (fun m : MoP => 20 + 10 * (m.im.length + m.ty.length + m.re.length + m.ru.length + m.ne.length)) (l.take (i + 1)) : Nat) : Int) ≤ _
   have hn:((sL (fun m:MoP=>20+10*(m.im.length+m.ty.length+m.re.length+m.ru.length+m.ne.length)) (l.take i):Nat):Int)≤n:=hn
   have htk:sL (fun m:MoP=>20+10*(m.im.length+m.ty.length+m.re.length+m.ru.length+m.ne.length)) (l.take (i+1))=sL (fun m:MoP=>20+10*(m.im.length+m.ty.length+m.re.length+m.ru.length+m.ne.length)) (l.take i)+(20+10*(m.im.length+m.ty.length+m.re.length+m.ru.length+m.ne.length)):=htk
   omega
  ·rcases hmt m' hm' with h' | h'
   ·exact hd m' h'
   ·rw [h']; exact hdp
 ·refine k _ D hD fun hb => ?_
  have hn5:n < 5000:=by have:=of_decide_eq_false hb; dsimp only at this; omega
  have hie:i=l.length:=by
   rcases Bool.and_eq_false_iff.1 h with h | h
   ·have:=of_decide_eq_false h; dsimp only at this; omega
   ·have:=of_decide_eq_false h; dsimp only at this; omega
  subst hie
  rw [List.take_length] at hn hd
  exact ⟨by omega,hd⟩
end
end
section
open Go Go.Proofs
def plC (l:List Pl):List Value:=l.flatMap fun p=>Qf.c (psP p)
theorem QqE (a b:List Pl):plC (a++b)=plC a++plC b:=by unfold plC; rw [List.flatMap_append]
theorem Qlm:∀ l:List Pl,(plC l).length=l.length*2
 | []=>rfl
 | p::l=>by have:=Qlm l; unfold plC at this ⊢; rw [List.flatMap_cons,List.length_append,this,List.length_cons,Nat.add_mul]; show 2+_=_; omega
theorem QuR (l:List Pl):∀ u ∈ plC l,u.oneCell' = true:=fun u hu=>by
 obtain ⟨p,_,hp⟩:=List.mem_flatMap.1 hu
 simp only [Qf.c,List.mem_cons,List.mem_nil_iff,or_false] at hp
 rcases hp with rfl | rfl <;> rfl
theorem Qoz:∀ l:List ExP,exsPl l=l.flatMap exPl
 | []=>rfl
 | v::l=>by rw [exsPl,Qoz l,List.flatMap_cons]
theorem Qsc (v:ExP):exPl v=v.p::exsPl v.a:=by obtain ⟨p,k,n,u,a⟩:=v; rfl
theorem QtY {α β:Type} {f:α→List β} {l:List α} {i:Nat} (h:i < l.length):(l.take (i+1)).flatMap f=(l.take i).flatMap f++f l[i]:=by
 rw [List.take_add_one,List.getElem?_eq_getElem h,Option.toList_some,List.flatMap_append]; simp
theorem Qq2 {α β:Type} {f:α→List β} {l:List α} {i:Nat} (h:i < l.length):((l.take i).flatMap f).length+(f l[i]).length≤(l.flatMap f).length:=by
 have e:l=l.take (i+1)++l.drop (i+1):=(List.take_append_drop _ _).symm
 have:=congrArg (fun m=>(m.flatMap f).length) e
 rw [List.flatMap_append,List.length_append,QtY h,List.length_append] at this
 omega
section
variable {C:Ctx} {A H:Heap}
theorem OwnF.lenP {H0 D:Heap} {s:Sl} {l:List Pl} (h:OwnF H0 D 2 s (plC l)):s.len=l.length:=by have:=h.own.1; rw [Qlm] at this; omega
/-- a loop that adds places -/
theorem lpPl {α:Type} {f:α→List Pl} {l:List α} {pre:List Pl} {s0:Sl} {H D0:Heap} {body:Sl×Int→(Sl×Int→Heap→Prop)→Heap→Prop} (h0:OwnF H D0 2 s0 (plC pre)) (hl:l.length≤140737488355328)
 (step:∀ (s:Sl) (i:Nat) (D:Heap) (J:Sl×Int→Heap→Prop),OwnF H D 2 s (plC (pre++(l.take i).flatMap f))→i≤l.length→(∀ (h:i < l.length) (r:Sl) (D':Heap),OwnF H D' 2 r (plC (pre++(l.take i).flatMap f++f l[i]))→J (r,w .i64 ((i:Int)+1)) D')→body (s,(i:Int)) J D):lp (α:=Sl×Int) (s0,0) D0 body:=by
 refine ⟨fun y D=>∃ i:Nat,y.2=(i:Int)∧i≤l.length∧OwnF H D 2 y.1 (plC (pre++(l.take i).flatMap f)),fun y _=>l.length - y.2.toNat,⟨0,rfl,Nat.zero_le _,by simpa using h0⟩,?_⟩
 rintro ⟨s,_⟩ D ⟨i,rfl,hi,hO⟩
 refine step s i D _ hO hi fun h r D' hr=>?_
 rw [Qal (by omega) (by omega)]
 refine ⟨⟨i+1,rfl,by omega,?_⟩,by first | omega | (dsimp only; omega)⟩
 rw [QtY h,← List.append_assoc]; exact hr
/-- a place more -/
theorem apP {H0 D:Heap} {s:Sl} {l:List Pl} {p:Pl} {q:Qf} {K:Sl→Heap→Prop} (h:OwnF H0 D 2 s (plC l)) (hq:q=psP p) (hb:l.length≤4294967296) (k:∀ r D2,OwnF H0 D2 2 r (plC (l++[p]))→K r D2):apd (Qf.c Qf.zero) 16 s (Qf.c q++[]) 1 K D:=by
 subst hq
 have:=h.lenP
 refine QmV (zc:=Qf.c Qf.zero) h (by rw [List.append_nil]; rfl) (by omega) (by omega) fun r D2 hr _=>k r D2 ?_
 rw [QqE]
 have e:plC [p]=Qf.c (psP p)++[]:=by simp [plC]
 rw [e]; exact hr
/-- places more -/
theorem apPs {H0 D1 D:Heap} {s t:Sl} {l m:List Pl} {K:Sl→Heap→Prop} (h:OwnF H0 D 2 s (plC l)) (ht:OwnF D1 D 2 t (plC m)) (hb:l.length+m.length≤4294967296) (k:∀ r D2,OwnF H0 D2 2 r (plC (l++m))→K r D2):apS (Qf.c Qf.zero) 16 s t K D:=by
 have e1:=h.lenP
 have e2:=ht.lenP
 refine QmU (zc:=Qf.c Qf.zero) h ht.own.rdsl (by rw [Qlm,e2]; rfl) (QuR _) (by omega) (by omega) fun r D2 hr _=>k r D2 ?_
 rw [QqE]; exact hr
theorem Qox:∀ (u:Nat) {l:List ExP} {s:Sl} {H:Heap} {K:Sl→Heap→Prop},(exsPl l).length < u→(exsPl l).length≤4294967296→EpL A s l→A.le H→(∀ r D,OwnF H D 2 r (plC (exsPl l))→K r D)→Qeu C s K H:=by
 intro u
 induction u with
 | zero=>intro l s H K h; omega
 | succ u ih=>
 intro l s H K hu hb hs hA k
 have hlen:=SlIs.len hs
 have hbd:=SlIs.bd hs
 rw [Qoz] at hu hb k
 apply Qn5
 unfold QkU
 refine lpPl (f:=exPl) (pre:=[]) (l:=l) (OwnF.nil H 2) hbd fun s1 i D J hO hi hJ=>?_
 rw [hlen]
 refine ift.of (fun h=>?_) (fun h=>?_)
 ·have hil : i < l.length := by have := of_decide_eq_true h; omega
  have hJ:=hJ hil
  have hle:=Qq2 (f:=exPl) hil
  have hAD:=hA.trans hO.le
  rw [List.nil_append] at hO hJ
  rw [Qsc] at hJ hle
  simp only [List.length_cons] at hle
  refine SlIs.at_ hs hAD (z:=9) (fun _=>rfl) (by omega) rfl hil fun p y hy hr=>⟨y.Pos,QeT fun j v hj=>?_,?_⟩
  ·have := hr (1 + j) v (by match j, hj with | 0, hj => exact hj | 1, hj => exact hj)
   rw [← Nat.add_assoc] at this; exact this
  refine apP hO (QgC.1 hy).1 (by omega) fun r12 D2 hO2=>?_
  have hAD2:=hA.trans hO2.le
  refine SlIs.at_ hs hAD2 (z:=9) (fun _=>rfl) (by omega) rfl hil fun p y hy hr=>⟨y.Args,hr 8 _ rfl,?_⟩
  refine ih (l:=l[i].a) (by omega) (by omega) (QgC.1 hy).2.2.2.2.2 hAD2 fun r21 D3 hO3=>?_
  refine apPs (hO2.up hO3.le) hO3 (by simp only [List.length_append,List.length_cons,List.length_nil]; omega) fun r23 D4 hO4=>hJ _ _ ?_
  rw [List.append_assoc] at hO4; exact hO4
 ·have hie : i = l.length := by have := of_decide_eq_false h; omega
  subst hie
  rw [List.take_length,List.nil_append] at hO
  exact k _ _ hO
theorem QpP {l:List LiP} {s:Sl} {K:Sl→Heap→Prop} (hb:(boPl l).length≤4294967296) (hs:LpL A s l) (hA:A.le H) (k:∀ r D,OwnF H D 2 r (plC (boPl l))→K r D):QgE C s K H:=by
 have hlen:=SlIs.len hs
 have hbd:=SlIs.bd hs
 unfold boPl at hb k
 apply QoT
 unfold QlP
 refine lpPl (f:=fun x=>x.p::exsPl x.a) (pre:=[]) (l:=l) (OwnF.nil H 2) hbd fun s1 i D J hO hi hJ=>?_
 rw [hlen]
 refine ift.of (fun h=>?_) (fun h=>?_)
 ·have hil : i < l.length := by have := of_decide_eq_true h; omega
  have hJ:=hJ hil
  have hle:=Qq2 (f:=fun x:LiP=>x.p::exsPl x.a) hil
  have hAD:=hA.trans hO.le
  rw [List.nil_append] at hO hJ
  simp only [List.length_cons] at hle
  refine SlIs.at_ hs hAD (z:=5) (fun _=>rfl) (by omega) rfl hil fun p y hy hr=>⟨y.Pos,QeT fun j v hj=>?_,?_⟩
  ·have := hr (1 + j) v (by match j, hj with | 0, hj => exact hj | 1, hj => exact hj)
   rw [← Nat.add_assoc] at this; exact this
  refine apP hO hy.1 (by omega) fun r12 D2 hO2=>?_
  have hAD2:=hA.trans hO2.le
  refine SlIs.at_ hs hAD2 (z:=5) (fun _=>rfl) (by omega) rfl hil fun p y hy hr=>⟨y.Args,hr 4 _ rfl,?_⟩
  refine Qox _ (l:=l[i].a) (Nat.lt_succ_self _) (by omega) hy.2.2.2 hAD2 fun r21 D3 hO3=>?_
  refine apPs (hO2.up hO3.le) hO3 (by simp only [List.length_append,List.length_cons,List.length_nil]; omega) fun r23 D4 hO4=>hJ _ _ ?_
  rw [List.append_assoc] at hO4; exact hO4
 ·have hie : i = l.length := by have := of_decide_eq_false h; omega
  subst hie
  rw [List.take_length,List.nil_append] at hO
  exact k _ _ hO
end
end
section
open Go Go.Proofs
theorem Qnu {α β : Type} {f : α → β} : ∀ l : List α, l.flatMap (fun v => [f v]) = l.map f
 | []=>rfl
 | v::l=>by rw [List.flatMap_cons,Qnu l]; rfl
theorem QuQ:∀ {l m:List Pl},(∀ (i:Nat) (h:i < l.length) (h':i < m.length),Qf.c (psP l[i])=Qf.c (psP m[i]))→l.length=m.length→l=m:=fun {l m} h hl=>by
 refine List.ext_getElem hl fun i h1 h2=>?_
 have:=h i h1 h2
 simp only [Qf.c,psP,List.cons.injEq,Value.int.injEq,true_and,and_true] at this
 exact Prod.ext this.1 this.2
theorem Qt5 {l:List Pl} {i j:Nat} {v:Value} (h:i < l.length) (hj:(Qf.c (psP l[i]))[j]? = some v):(plC l)[i*2+j]? = some v:=by
 have hj2:j < 2:=(List.getElem?_eq_some_iff.1 hj).1
 have e:l=l.take i++l[i]::l.drop (i+1):=by rw [← Qcu h,List.take_append_drop]
 have e2:plC l=plC (l.take i)++(Qf.c (psP l[i])++plC (l.drop (i+1))):=by
  have:plC (l[i]::l.drop (i+1))=Qf.c (psP l[i])++plC (l.drop (i+1)):=by unfold plC; rw [List.flatMap_cons]
  rw [← this,← QqE,← e]
 rw [e2,List.getElem?_append_right (by rw [Qlm,List.length_take]; omega),Qlm,List.length_take,Nat.min_eq_left (by omega),Nat.add_sub_cancel_left,List.getElem?_append_left (by show j < 2; exact hj2)]
 exact hj
section
variable {C:Ctx} {A H:Heap}
theorem Qp5 {m:MoP} {x:Qa} {K:Sl→Heap→Prop} (hm:MpIs A m x) (hA:A.le H) (hb:(moPl m).length≤4294967296) (k:∀ r D,OwnF H D 2 r (plC (moPl m))→K r D):Qfa C x K H:=by
 obtain ⟨_,_,m3,m4,m5,m6⟩:=hm
 unfold moPl at hb k
 simp only [List.length_append,List.length_map] at hb
 apply Qm2
 unfold Qj3
 refine box1N fun b1 H2 n1 _ l1 h1=>?_
 have k:∀ r D,OwnF H2 D 2 r (plC (m.ty.map TdP.p++m.re.map RdP.p++m.ru.flatMap (fun r=>r.p::(exsPl r.a++boPl r.b))++m.ne.flatMap (fun n=>n.p::boPl n.b)))→K r D:=fun r D h=>k r D (by
  have:=h.down l1
  rwa [List.append_assoc,List.append_assoc] at this)
 have hA2:=hA.trans l1
 have e3:=SlIs.len m3
 have e4:=SlIs.len m4
 have e5:=SlIs.len m5
 have e6:=SlIs.len m6
 refine lpPl (f:=fun t:TdP=>[t.p]) (pre:=[]) (l:=m.ty) (OwnF.nil H2 2) (SlIs.bd m3) fun s1 i D J hO hi hJ=>?_
 have g1:=hO.le _ _ h1
 rw [List.nil_append] at hO hJ
 refine fL g1 (j:=2) rfl ?_
 dsimp only
 rw [e3]
 refine ift.of (fun h=>?_) (fun h=>?_)
 ·have hil : i < m.ty.length := by have := of_decide_eq_true h; omega
  refine fL g1 (j:=2) rfl (SlIs.at_ m3 (hA2.trans hO.le) (z:=6) (fun _=>rfl) (by omega) rfl hil fun p y hy hr=>⟨y.Pos,QeT fun j v hj=>?_,?_⟩)
  ·have := hr (0 + j) v (by match j, hj with | 0, hj => exact hj | 1, hj => exact hj)
   rw [← Nat.add_assoc] at this; exact this
  refine apP hO hy.1 ?_ fun r D2 hO2=>hJ hil _ _ hO2
  rw [Qnu,List.length_map,List.length_take]; omega
 have hie:i=m.ty.length:=by have:=of_decide_eq_false h; omega
 subst hie
 rw [List.take_length,Qnu] at hO
 clear hJ g1 h hi
 refine lpPl (f:=fun t:RdP=>[t.p]) (l:=m.re) hO (SlIs.bd m4) fun s1 i D J hO hi hJ=>?_
 have g1:=hO.le _ _ h1
 refine fL g1 (j:=3) rfl ?_
 dsimp only
 rw [e4]
 refine ift.of (fun h=>?_) (fun h=>?_)
 ·have hil : i < m.re.length := by have := of_decide_eq_true h; omega
  refine fL g1 (j:=3) rfl (SlIs.at_ m4 (hA2.trans hO.le) (z:=6) (fun _=>rfl) (by omega) rfl hil fun p y hy hr=>⟨y.Pos,QeT fun j v hj=>?_,?_⟩)
  ·have := hr (0 + j) v (by match j, hj with | 0, hj => exact hj | 1, hj => exact hj)
   rw [← Nat.add_assoc] at this; exact this
  refine apP hO hy.1 ?_ fun r D2 hO2=>hJ hil _ _ hO2
  rw [Qnu,List.length_append,List.length_map,List.length_map,List.length_take]; omega
 have hie:i=m.re.length:=by have:=of_decide_eq_false h; omega
 subst hie
 rw [List.take_length,Qnu] at hO
 clear hJ g1 h hi
 refine lpPl (f:=fun r:RuP=>r.p::(exsPl r.a++boPl r.b)) (l:=m.ru) hO (SlIs.bd m5) fun s1 i D J hO hi hJ=>?_
 have g1:=hO.le _ _ h1
 refine fL g1 (j:=4) rfl ?_
 dsimp only
 rw [e5]
 refine ift.of (fun h=>?_) (fun h=>?_)
 ·have hil : i < m.ru.length := by have := of_decide_eq_true h; omega
  have hle:=Qq2 (f:=fun r:RuP=>r.p::(exsPl r.a++boPl r.b)) hil
  have hJ:=hJ hil
  simp only [List.length_cons,List.length_append] at hle
  refine fL g1 (j:=4) rfl (SlIs.at_ m5 (hA2.trans hO.le) (z:=6) (fun _=>rfl) (by omega) rfl hil fun p y hy hr=>⟨y.Pos,QeT fun j v hj=>?_,?_⟩)
  ·have := hr (0 + j) v (by match j, hj with | 0, hj => exact hj | 1, hj => exact hj)
   rw [← Nat.add_assoc] at this; exact this
  refine apP hO hy.1 (by simp only [List.length_append,List.length_map]; omega) fun r D2 hO2=>?_
  refine fL (hO2.le _ _ h1) (j:=4) rfl (SlIs.at_ m5 (hA2.trans hO2.le) (z:=6) (fun _=>rfl) (by omega) rfl hil fun p y hy hr=>⟨y.Args,hr 3 _ rfl,?_⟩)
  refine Qox _ (l:=m.ru[i].a) (Nat.lt_succ_self _) (by omega) hy.2.2.1 (hA2.trans hO2.le) fun r2 D3 hO3=>?_
  refine apPs (hO2.up hO3.le) hO3 (by simp only [List.length_append,List.length_map,List.length_cons,List.length_nil]; omega) fun r3 D4 hO4=>?_
  refine fL (hO4.le _ _ h1) (j:=4) rfl (SlIs.at_ m5 (hA2.trans hO4.le) (z:=6) (fun _=>rfl) (by omega) rfl hil fun p y hy hr=>⟨y.Body,hr 5 _ rfl,?_⟩)
  refine QpP (l:=m.ru[i].b) (by omega) hy.2.2.2.2 (hA2.trans hO4.le) fun r4 D5 hO5=>?_
  refine apPs (hO4.up hO5.le) hO5 (by simp only [List.length_append,List.length_map,List.length_cons,List.length_nil]; omega) fun r5 D6 hO6=>hJ _ _ ?_
  simp only [List.append_assoc,List.singleton_append] at hO6 ⊢
  exact hO6
 have hie:i=m.ru.length:=by have:=of_decide_eq_false h; omega
 subst hie
 rw [List.take_length] at hO
 clear hJ g1 h hi
 refine lpPl (f:=fun n:NeP=>n.p::boPl n.b) (l:=m.ne) hO (SlIs.bd m6) fun s1 i D J hO hi hJ=>?_
 have g1:=hO.le _ _ h1
 refine fL g1 (j:=5) rfl ?_
 dsimp only
 rw [e6]
 refine ift.of (fun h=>?_) (fun h=>?_)
 ·have hil : i < m.ne.length := by have := of_decide_eq_true h; omega
  have hle:=Qq2 (f:=fun n:NeP=>n.p::boPl n.b) hil
  have hJ:=hJ hil
  simp only [List.length_cons] at hle
  refine fL g1 (j:=5) rfl (SlIs.at_ m6 (hA2.trans hO.le) (z:=4) (fun _=>rfl) (by omega) rfl hil fun p y hy hr=>⟨y.Pos,QeT fun j v hj=>?_,?_⟩)
  ·have := hr (0 + j) v (by match j, hj with | 0, hj => exact hj | 1, hj => exact hj)
   rw [← Nat.add_assoc] at this; exact this
  refine apP hO hy.1 (by simp only [List.length_append,List.length_map]; omega) fun r D2 hO2=>?_
  refine fL (hO2.le _ _ h1) (j:=5) rfl (SlIs.at_ m6 (hA2.trans hO2.le) (z:=4) (fun _=>rfl) (by omega) rfl hil fun p y hy hr=>⟨y.Body,hr 3 _ rfl,?_⟩)
  refine QpP (l:=m.ne[i].b) (by omega) hy.2.2 (hA2.trans hO2.le) fun r2 D3 hO3=>?_
  refine apPs (hO2.up hO3.le) hO3 (by simp only [List.length_append,List.length_map,List.length_cons,List.length_nil]; omega) fun r3 D4 hO4=>hJ _ _ ?_
  simp only [List.append_assoc,List.singleton_append] at hO4 ⊢
  exact hO4
 have hie:i=m.ne.length:=by have:=of_decide_eq_false h; omega
 subst hie
 rw [List.take_length] at hO
 exact k _ _ hO
/-- the same, places too -/
theorem QtE {m n:MoP} {x y:Qa} {K:Bool→Heap→Prop} (hm:MpIs A m x) (hn:MpIs A n y) (hA:A.le H) (hb:(moPl m).length≤4294967296) (hb2:(moPl n).length≤4294967296) (k:∀ b D,H.le D→(m.e=n.e→moPl m=moPl n→b=true)→(b=true→m.e=n.e∧moPl m=moPl n)→K b D):Qff C x y K H:=by
 apply QoU
 unfold QlQ
 refine box1N fun b1 H2 n1 _ l1 h1=>box1N fun b3 H4 n3 _ l3 h3=>?_
 have h1:=l3 _ _ h1
 have l13:=l1.trans l3
 refine bxT (c:=Qa.c) h1 (bxT (c:=Qa.c) h3 ?_)
 refine Qs9 (MpIs.e hm) (MpIs.e hn) (hA.trans l13) ?_
 refine ift.of (fun h=>?_) (fun h=>?_)
 ·have hne:m.e≠n.e:=nsm.1 h
  exact k false _ l13 (fun e=>absurd e hne) (fun h=>by cases h)
 have he:m.e=n.e:=by
  refine Classical.byContradiction fun hne=>?_
  rw [(nsm (v:=m.e) (w:=n.e)).2 hne] at h; cases h
 refine ⟨H4,Heap.le.refl _,bxT (c:=Qa.c) h1 (bxT (c:=Qa.c) h3 ?_)⟩
 refine Qp5 hm (hA.trans l13) hb fun r19 D1 hO1=>⟨hO1.le,?_⟩
 refine Qp5 hn ((hA.trans l13).trans hO1.le) hb2 fun r22 D2 hO2=>⟨hO1.le.trans hO2.le,?_⟩
 have e1:=hO1.lenP
 have e2:=hO2.lenP
 have hHD2:=l13.trans (hO1.le.trans hO2.le)
 rw [e1,e2]
 refine ift.of (fun h=>?_) (fun h=>?_)
 ·have hne : moPl m ≠ moPl n := fun e => by rw [e] at h; simp at h
  exact k false _ hHD2 (fun _ e=>absurd e hne) (fun h=>by cases h)
 have hll:(moPl m).length=(moPl n).length:=by
  have:((moPl m).length:Int)=((moPl n).length:Int):=by simpa using h
  omega
 refine ⟨fun x D=>D=D2∧∃ i:Nat,x=(i:Int)∧i≤(moPl m).length∧∀ j (h:j < (moPl m).length) (h':j < (moPl n).length),j < i→Qf.c (psP (moPl m)[j])=Qf.c (psP (moPl n)[j]),fun x _=>(moPl m).length - x.toNat,⟨rfl,0,rfl,Nat.zero_le _,fun j _ _ h=>by omega⟩,?_⟩
 rintro _ D ⟨hDe,i,rfl,hi,hE⟩
 subst hDe
 have r1:=hO1.own.rdsl
 have r2:=hO2.own.rdsl
 refine ift.of (fun h=>?_) (fun h=>?_)
 ·have hil : i < (moPl m).length := by have := of_decide_eq_true h; omega
  have hil2:i < (moPl n).length:=by omega
  have ne1:plC (moPl m)≠[]:=fun e=>by have:=Qlm (moPl m); rw [e] at this; simp at this; omega
  have ne2:plC (moPl n)≠[]:=fun e=>by have:=Qlm (moPl n); rw [e] at this; simp at this; omega
  refine Qq7 (Qgk hO2.le r1) (by omega) (by omega) ne1 fun p hp hr=>⟨psP (moPl m)[i],QeT fun j v hj=>?_,?_⟩
  ·have:=QjZ hr _ _ (Qt5 hil hj)
   rw [← Nat.add_assoc] at this; exact this
  refine Qq7 r2 (by omega) (by omega) ne2 fun p hp hr=>⟨psP (moPl n)[i],QeT fun j v hj=>?_,?_⟩
  ·have:=QjZ hr _ _ (Qt5 hil2 hj)
   rw [← Nat.add_assoc] at this; exact this
  refine ift.of (fun h=>?_) (fun h=>?_)
  ·refine k false _ hHD2 (fun _ e => ?_) (fun h => by cases h)
   have:csEq (Qf.c (psP (moPl m)[i])) (Qf.c (psP (moPl n)[i]))=true:=QiS.2 (by
    have:(moPl m)[i]=(moPl n)[i]:=by simp only [e]
    rw [this])
   rw [this] at h; cases h
  ·have hq : Qf.c (psP (moPl m)[i]) = Qf.c (psP (moPl n)[i]) := QiS.1 (by simpa using h)
   rw [Qal (by omega) (by omega)]
   refine ⟨⟨rfl,i+1,rfl,by omega,fun j h1 h2 hj=>?_⟩,by first | omega | (dsimp only; omega)⟩
   by_cases hji:j=i
   ·subst hji; exact hq
   ·exact hE j h1 h2 (by omega)
 ·have hie : i = (moPl m).length := by have := of_decide_eq_false h; omega
  subst hie
  exact k true _ hHD2 (fun _ _=>rfl) (fun _=>⟨he,QuQ (fun j h1 h2=>hE j h1 h2 h1) hll⟩)
end
end
section
open Go Go.Proofs
def ahS (n s:Str):Str:=if s.contains 46=true then s else dotS n s
def ahL (n:Str) (x:LiP):LiP:=if x.k=1∨x.k=2 then { x with r:=ahS n x.r } else x
def ahR (n:Str) (r:RuP):RuP:={ r with b:=r.b.map (ahL n) }
def ahM (m:MoP):MoP:={ m with ru:=m.ru.map (ahR m.n) }
theorem Qno:∀ {s:Str},s.contains 46=false→cutD s=none
 | [],_=>rfl
 | c::t,h=>by
  rw [List.contains_cons,Bool.or_eq_false_iff] at h
  have hc:c≠46:=fun e=>by rw [e] at h; simp at h
  simp only [cutD,if_neg hc,Qno h.2]
  rfl
theorem Qo8:∀ {n s:Str},n.contains 46=false→cutD (dotS n s)=some (n,s)
 | [],s,_=>by simp [dotS,cutD]
 | c::t,s,h=>by
  rw [List.contains_cons,Bool.or_eq_false_iff] at h
  have hc:c≠46:=fun e=>by rw [e] at h; simp at h
  have ih:=Qo8 (n:=t) (s:=s) h.2
  simp only [dotS] at ih
  simp only [dotS,List.cons_append,cutD,if_neg hc,ih]
  rfl
theorem Qsy {s:Str} (h:namS s=true):s.contains 46=false:=by
 unfold namS nameS at h
 simp only [Bool.and_eq_true,List.all_eq_true] at h
 cases hc:s.contains 46 with
 | false=>rfl
 | true=>exact absurd (h.1.2 46 (List.contains_iff_mem.1 hc)) (by decide)
theorem Quq {n s:Str} (h:n.contains 46=false):cutN n (ahS n s)=cutN n s:=by
 unfold ahS
 split
 ·rfl
 ·rename_i hs
  unfold cutN
  rw [Qo8 h,Qno (by simpa using hs)]
section
variable {T:Tl} {m:MoP}
theorem QuI {s:Str} {k:Int} (h:m.n.contains 46=false):meanF T (ahM m) (ahS m.n s) k=meanF T m s k:=by
 unfold meanF
 have e:cutN (ahM m).n (ahS m.n s)=cutN m.n s:=Quq h
 rw [e] <;> rfl
theorem QuJ {s:Str} {k:Int}:meanF T (ahM m) s k=meanF T m s k:=rfl
theorem Qv1 {n:Str}:tnF T (ahM m) n=tnF T m n:=rfl
mutual
theorem QvL:∀ v,tyF T (ahM m) v=tyF T m v
 | .mk n a=>by rw [tyF,tyF,Qv1,Que a]
theorem Que:∀ l,tysF T (ahM m) l=tysF T m l
 | []=>rfl
 | v::l=>by rw [tysF,tysF,QvL v,Que l]
end
theorem Qvn:fdF T (ahM m)=fdF T m:=by funext f; unfold fdF; rw [QvL]
theorem QvS:cnF T (ahM m)=cnF T m:=by funext f; unfold cnF; rw [Qvn]; rfl
theorem Qv0:tdF T (ahM m)=tdF T m:=by funext f; unfold tdF; rw [QvS]; rfl
theorem QvY:rdF T (ahM m)=rdF T m:=by funext f; unfold rdF; rw [Qvn]; rfl
theorem QvT {k:Int} {n:Str}:enF T (ahM m) k n=enF T m k n:=rfl
mutual
theorem Qvm:∀ v,exF T (ahM m) v=exF T m v
 | .mk p k n v a=>by rw [exF,exF,QvT,QtX a]
theorem QtX:∀ l,exsF T (ahM m) l=exsF T m l
 | []=>rfl
 | v::l=>by rw [exsF,exsF,Qvm v,QtX l]
end
theorem Qse:exF T (ahM m)=exF T m:=funext Qvm
theorem Qt1:liF T (ahM m)=liF T m:=by funext x; unfold liF lnF; rw [Qse]; rfl
theorem QvV {x:LiP} (h:m.n.contains 46=false):liF T (ahM m) (ahL m.n x)=liF T m x:=by
 unfold ahL
 split
 ·rename_i hk
  unfold liF lnF
  dsimp only
  rw [if_pos hk,if_pos hk,QuI h,Qse]
 ·rw [Qt1]
theorem QqC {ε α β γ:Type} {f:β→Except ε γ} {g:α→Except ε γ} {h:α→β} (e:∀ v,f (h v)=g v):∀ l:List α,mpE f (l.map h)=mpE g l
 | []=>rfl
 | v::l=>by
  rw [List.map_cons,mpE,mpE,e v,QqC e l]
theorem QvZ {x:RuP} (h:m.n.contains 46=false):ruF T (ahM m) (ahR m.n x)=ruF T m x:=by
 unfold ruF ahR
 dsimp only
 rw [QuJ,Qse,QqC (fun v=>QvV h) x.b]
 rfl
theorem QvW:neF T (ahM m)=neF T m:=by funext x; unfold neF; rw [Qt1]; rfl
theorem Qu6 {o:MoP} (h:m.n.contains 46=false):usedF T o (ahM m)=usedF T o m:=by
 unfold usedF
 have e:mpE (ruF T (ahM m)) (ahM m).ru=mpE (ruF T m) m.ru:=QqC (fun v=>QvZ h) m.ru
 rw [Qv0,QvY,QvW,e] <;> rfl
end
theorem QnD {α β:Type} {f:β→Nat} {g:α→Nat} {h:α→β} (e:∀ v,f (h v)=g v):∀ l:List α,mxL f (l.map h)=mxL g l
 | []=>rfl
 | v::l=>by rw [List.map_cons,mxL,mxL,e v,QnD e l]
theorem QuD {n s:Str} (hn:namS n=true) (hs:longS s=true):longS (ahS n s)=true:=by
 unfold ahS
 split
 ·exact hs
 ·rename_i hd
  have hd:s.contains 46=false:=by simpa using hd
  unfold longS at hs ⊢
  rw [Qno hd] at hs
  rw [Qo8 (Qsy hn)]
  dsimp only
  have hs:namS s=true:=hs
  rw [hn,hs]; rfl
theorem ah_k {n:Str} {x:LiP}:(ahL n x).k=x.k∧(ahL n x).a=x.a∧(ahL n x).p=x.p:=by
 unfold ahL
 split <;> exact ⟨rfl,rfl,rfl⟩
theorem QvU {n:Str} {x:LiP} (hn:namS n=true) (h:liOk x.e=true):liOk (ahL n x).e=true:=by
 unfold ahL
 split
 ·rename_i hk
  unfold LiP.e liOk at h ⊢
  dsimp only at h ⊢
  rw [if_pos hk] at h ⊢
  simp only [Bool.and_eq_true] at h ⊢
  exact ⟨⟨QuD hn h.1.1,h.1.2⟩,h.2⟩
 ·exact h
theorem QvD {n:Str} {r:RuP}:ruD (ahR n r).e=ruD r.e:=by
 unfold ruD ahR RuP.e lisD
 dsimp only
 rw [List.map_map,QnD (g:=fun x:LiP=>liD x.e) (fun v=>?_),QnD (g:=fun x:LiP=>liD x.e) (fun v=>rfl)]
 unfold liD LiP.e
 simp only [Function.comp_def,LiP.e,ah_k]
theorem Qt2 {m:MoP} (h:moC m.e=0):moC (ahM m).e=0:=by
 obtain ⟨h1,h2,h3⟩:=moC0 h
 have hg:=moG h
 have hd:moD (ahM m).e=moD m.e:=by
  unfold moD MoP.e ahM
  dsimp only
  rw [List.map_map,QnD (g:=fun r:RuP=>ruD r.e) (f:=ruD) (h:=RuP.e ∘ ahR m.n) (fun v=>QvD),QnD (g:=fun r:RuP=>ruD r.e) (f:=ruD) (h:=RuP.e) (fun v=>rfl)]
 have ho:moOk (ahM m).e=true:=by
  unfold moOk MoP.e ahM at *
  simp only [Bool.and_eq_true,List.all_map,List.all_eq_true,Function.comp_def] at h2 ⊢
  obtain ⟨⟨⟨⟨⟨a1,a2⟩,a3⟩,a4⟩,a5⟩,a6⟩:=h2
  refine ⟨⟨⟨⟨⟨a1,a2⟩,a3⟩,a4⟩,fun r hr=>?_⟩,a6⟩
  have:=a5 r hr
  unfold ruOk RuP.e ahR at *
  simp only [Bool.and_eq_true,List.all_map,List.all_eq_true,Function.comp_def] at this ⊢
  exact ⟨⟨this.1.1,fun x hx=>QvU a1 (this.1.2 x hx)⟩,this.2⟩
 have hf:moFew (ahM m).e=true:=by
  unfold moFew MoP.e ahM at *
  simp only [List.length_map,List.all_map,Function.comp_def,RuP.e,ahR] at h3 ⊢
  exact h3
 unfold moC
 rw [hd,if_neg (by omega),ho,if_neg (by decide),hf,if_neg (by decide)]
/-- to the same program -/
theorem Qux {m:MoP} (h:moC m.e=0):flatF [ahM m]=flatF [m]:=by
 have hnd:m.n.contains 46=false:=by
  have h2:=(moC0 h).2.1
  unfold moOk MoP.e at h2
  simp only [Bool.and_eq_true] at h2
  exact Qsy h2.1.1.1.1.1
 have e1:singleF [] [ahM m]=singleF [] [m]:=by
  simp only [singleF,h,Qt2 h]
  rfl
 have e2:impA [ahM m] [ahM m]=impA [m] [m]:=by
  have:∀ (ps:List Str) (r:List ImP),impA1 [ahM m] m.n ps r=impA1 [m] m.n ps r:=by
   intro ps r
   induction r generalizing ps with
   | nil=>rfl
   | cons x r ih=>
    simp only [impA1,ih]
    rfl
  simp only [impA]
  show (match impA1 [ahM m] m.n [] m.im with | some e=>some e | none=>none)=_
  rw [this] <;> rfl
 have e3:impBf [ahM m] 0 [ahM m]=impBf [m] 0 [m]:=by
  have ha:∀ i,adj [ahM m] i=adj [m] i:=fun i=>by
   match i with
   | 0=>rfl
   | i+1=>rfl
  have hc:∀ (a n j:Nat),comeF [ahM m] a n j=comeF [m] a n j:=by
   intro a n
   induction n with
   | zero=>intro j; rfl
   | succ n ih=>intro j; simp only [comeF,ih,ha,List.length_cons,List.length_nil]
  have hr:∀ a b,reachF [ahM m] a b=reachF [m] a b:=fun a b=>hc a 1 b
  have:∀ (r:List ImP),impB1 [ahM m] m.n 0 r=impB1 [m] m.n 0 r:=by
   intro r
   induction r with
   | nil=>rfl
   | cons x r ih=>
    simp only [impB1,ih,hr]
    rfl
  simp only [impBf]
  show (match impB1 [ahM m] m.n 0 m.im with | some e=>some e | none=>none)=_
  rw [this] <;> rfl
 have e4:namesAll [ahM m] []=namesAll [m] []:=rfl
 have e5:totB [ahM m]=totB [m]:=by
  simp only [totB,total,ahM,List.length_map] <;> rfl
 have e6:∀ T,usedAll T ⟨m.n,[],[],[],[],[]⟩ [ahM m]=usedAll T ⟨m.n,[],[],[],[],[]⟩ [m]:=fun T=>by
  simp only [usedAll,Qu6 hnd]
  rfl
 unfold flatF
 rw [e1,e2,e3,e4,e5]
 rw [if_neg (show ¬ [ahM m].length=0 by simp),if_neg (show ¬ 8 < [ahM m].length by simp),if_neg (show ¬ [m].length=0 by simp),if_neg (show ¬ 8 < [m].length by simp)]
 cases singleF [] [m] with
 | some e=>rfl
 | none=>
  cases impA [m] [m] with
  | some e=>rfl
  | none=>
   cases impBf [m] 0 [m] with
   | some e=>rfl
   | none=>
    cases namesAll [m] [] with
    | error e=>rfl
    | ok T=>
     dsimp only
     split
     ·rfl
     ·exact e6 T
end
section
open Go Go.Proofs
theorem Quu:∀ v:ExP,(exPl v).length=exSz v.e:=by
 refine ExP.rec_ fun v ih=>?_
 rw [Qsc,ExP.e_eq,Qpb,List.length_cons]
 have:∀ l:List ExP,(∀ w ∈ l,(exPl w).length=exSz w.e)→(exsPl l).length=sL exSz (l.map ExP.e):=by
  intro l
  induction l with
  | nil=>intro _; rfl
  | cons v l ih2=>
   intro h
   simp only [exsPl,List.length_append,List.map_cons,sL]
   rw [h v (List.mem_cons_self ..),ih2 fun w hw=>h w (List.mem_cons_of_mem _ hw)]
 have h:=this v.a ih
 show (exsPl v.a).length+1=sL exSz (v.a.map ExP.e)+1
 omega
theorem Qpg:∀ l:List ExP,(exsPl l).length=sL exSz (l.map ExP.e)
 | []=>rfl
 | v::l=>by simp only [exsPl,List.length_append,List.map_cons,sL,Quu v,Qpg l]
theorem Qqq:∀ l:List LiP,(boPl l).length=sL liSz (l.map LiP.e)
 | []=>rfl
 | v::l=>by
  have:=Qqq l
  unfold boPl at this ⊢
  simp only [List.flatMap_cons,List.length_append,List.length_cons,List.map_cons,sL,this,liSz,LiP.e,Qpg]
theorem QuK (m:MoP):(moPl m).length≤moSz m.e:=by
 have h1:=QnV (f:=tdSz) (fun v=>by unfold tdSz; omega) (m.ty.map TdP.e)
 have h2:=QnV (f:=rdSz) (fun v=>by unfold rdSz; omega) (m.re.map RdP.e)
 have h3:∀ l:List RuP,(l.flatMap (fun r=>r.p::(exsPl r.a++boPl r.b))).length=sL ruSz (l.map RuP.e):=by
  intro l
  induction l with
  | nil=>rfl
  | cons r l ih=>
   simp only [List.flatMap_cons,List.length_append,List.length_cons,List.map_cons,sL,ih,ruSz,RuP.e,Qpg,Qqq]
 have h4:∀ l:List NeP,(l.flatMap (fun n=>n.p::boPl n.b)).length=sL neSz (l.map NeP.e):=by
  intro l
  induction l with
  | nil=>rfl
  | cons r l ih=>
   simp only [List.flatMap_cons,List.length_append,List.length_cons,List.map_cons,sL,ih,neSz,NeP.e,Qqq]
 simp only [List.length_map] at h1 h2
 unfold moPl moSz MoP.e
 simp only [List.length_append,List.length_map,h3,h4]
 omega
section
variable {T:Tl} {m:MoP}
mutual
theorem Qvl:∀ {v w:ExP},exF T m v=.ok w→exPl w=exPl v
 | .mk p k n u a,w,h=>by
  rw [exF] at h
  split at h
  ·cases h
  ·split at h
   ·cases h
   ·rename_i a' ha
    injection h with h
    subst h
    rw [exPl,exPl,Qpe ha]
theorem Qpe:∀ {l r:List ExP},exsF T m l=.ok r→exsPl r=exsPl l
 | [],r,h=>by rw [exsF] at h; injection h with h; subst h; rfl
 | v::l,r,h=>by
  rw [exsF] at h
  split at h
  ·cases h
  ·rename_i w hw
   split at h
   ·cases h
   ·rename_i r' hr
    injection h with h
    subst h
    rw [exsPl,exsPl,Qvl hw,Qpe hr]
end
theorem Qpq {ε α β γ:Type} {f:α→Except ε β} {g:α→List γ} {h:β→List γ} (e:∀ v w,f v=.ok w→h w=g v):∀ {l:List α} {r:List β},mpE f l=.ok r→r.flatMap h=l.flatMap g
 | [],r,hh=>by simp only [mpE] at hh; injection hh with hh; subst hh; rfl
 | v::l,r,hh=>by
  simp only [mpE] at hh
  split at hh
  ·cases hh
  ·rename_i w hw
   split at hh
   ·cases hh
   ·rename_i r' hr
    injection hh with hh
    subst hh
    rw [List.flatMap_cons,List.flatMap_cons,e v w hw,Qpq e hr]
theorem Qvs {v w:LiP} (h:liF T m v=.ok w):w.p::exsPl w.a=v.p::exsPl v.a:=by
 unfold liF at h
 split at h
 ·cases h
 ·split at h
  ·cases h
  ·rename_i a ha
   injection h with h
   subst h
   rw [← Qpd] at ha
   dsimp only
   rw [Qpe ha]
theorem QtT {l r:List LiP} (h:mpE (liF T m) l=.ok r):boPl r=boPl l:=Qpq (fun v w h=>Qvs h) h
theorem QvE {v w:RuP} (h:ruF T m v=.ok w):w.p::(exsPl w.a++boPl w.b)=v.p::(exsPl v.a++boPl v.b):=by
 unfold ruF at h
 split at h
 ·cases h
 ·split at h
  ·cases h
  ·split at h
   ·cases h
   ·rename_i a ha
    split at h
    ·cases h
    ·rename_i b hb
     injection h with h
     subst h
     rw [← Qpd] at ha
     dsimp only
     rw [Qpe ha,QtT hb]
theorem Qvw {v w:NeP} (h:neF T m v=.ok w):w.p::boPl w.b=v.p::boPl v.b:=by
 unfold neF at h
 split at h
 ·cases h
 ·rename_i b hb
  injection h with h
  subst h
  dsimp only
  rw [QtT hb]
theorem QtQ {o o':MoP} (h:usedF T o m=.ok o'):(moPl o').length=(moPl o).length+(moPl m).length:=by
 unfold usedF at h
 split at h
 ·cases h
 split at h
 ·cases h
 split at h
 ·cases h
 split at h
 ·cases h
 rename_i _ a ha _ b hb _ c hc _ d hd
 injection h with h
 subst h
 have e3:=Qpq (h:=fun r:RuP=>r.p::(exsPl r.a++boPl r.b)) (g:=fun r:RuP=>r.p::(exsPl r.a++boPl r.b)) (fun v w h=>QvE h) hc
 have e4:=Qpq (h:=fun n:NeP=>n.p::boPl n.b) (g:=fun n:NeP=>n.p::boPl n.b) (fun v w h=>Qvw h) hd
 have l1:=Qcn ha
 have l2:=Qcn hb
 unfold moPl
 simp only [List.map_append,List.flatMap_append,List.length_append,List.length_map,e3,e4,l1,l2]
 omega
end
theorem QoP {T : Tl} : ∀ {l : List MoP} {o o' : MoP}, usedAll T o l = .ok o' → (moPl o').length = (moPl o).length + sL (fun m => (moPl m).length) l
 | [],o,o',h=>by simp only [usedAll] at h; injection h with h; subst h; simp [sL]
 | m::l,o,o',h=>by
  simp only [usedAll] at h
  split at h
  ·cases h
  ·rename_i o1 h1
   have e1:=QtQ h1
   have e2:=QoP h
   simp only [sL]; omega
theorem FlatO.pl {l:List MoP} {T:Tl} {o:MoP} (h:FlatO l T o) (hz:∀ m ∈ l,moSz m.e≤268435456):(moPl o).length≤4294967296:=by
 have e:=QoP h.us
 have h8:=h.l8
 have:∀ l:List MoP,(∀ m ∈ l,moSz m.e≤268435456)→sL (fun m=>(moPl m).length) l≤l.length*268435456:=by
  intro l
  induction l with
  | nil=>intro _; simp [sL]
  | cons m l ih=>
   intro hh
   have h1:=QuK m
   have h2:=hh m (List.mem_cons_self ..)
   have h3:=ih fun x hx=>hh x (List.mem_cons_of_mem _ hx)
   simp only [sL,List.length_cons,Nat.add_mul]; omega
 have h3:=this l hz
 have h4:l.length*268435456≤8*268435456:=Nat.mul_le_mul_right _ h8
 have h5:(moPl ⟨(l.head?.map MoP.n).getD [],[],[],[],[],[]⟩).length=0:=rfl
 omega
end
section
open Go Go.Proofs
section
variable {α β:Type} {c:β→List Value} {z:Nat} {D D2:Heap} {s:Sl} {xs:List β}
theorem Qsk (hz:∀ x,(c x).length=z):∀ {xs:List β} {i j:Nat} {v:Value} {x':β} (hi:i < xs.length),j < z→(c xs[i]).set j v=c x'→(xs.flatMap c).set (i*z+j) v=(xs.set i x').flatMap c
 | [],i,j,v,x',hi,_,_=>by simp at hi
 | a::xs,0,j,v,x',_,hj,e=>by
  have e:(c a).set j v=c x':=e
  rw [List.set_cons_zero,List.flatMap_cons,List.flatMap_cons,Nat.zero_mul,Nat.zero_add,List.set_append_left _ _ (by rw [hz]; exact hj),e]
 | a::xs,i+1,j,v,x',hi,hj,e=>by
  have hi':i < xs.length:=by simpa using hi
  have e:(c xs[i]).set j v=c x':=e
  rw [List.set_cons_succ,List.flatMap_cons,List.flatMap_cons,List.set_append_right _ _ (by rw [hz,Nat.succ_mul]; omega),hz,show (i+1)*z+j - z=i*z+j by rw [Nat.succ_mul]; omega,Qsk hz hi' hj e]
theorem QiO (h:Own D z s (xs.flatMap c)) (hz:∀ x,(c x).length=z) (hz0:0 < z):s.len=xs.length:=by
 have:=h.1
 rw [Qcl hz] at this
 have:=Nat.eq_of_mul_eq_mul_right hz0 this
 omega
/-- a list of one's own, read -/
theorem Qt4 (h:Own D z s (xs.flatMap c)) (hz:∀ x,(c x).length=z) (hz0:0 < z) (hb:xs.length≤140737488355328):SlIs (fun (v x:β)=>x=v) c D s xs:=
 ⟨xs,h.rdsl,QiO h hz hz0,rfl,hb,fun i v x hv hx=>by rw [hv] at hx; injection hx with hx; exact hx.symm⟩
theorem QlN {cs:List Value} (h:Own D z s cs) (hb:∀ b,s.p=some (b,0)→D2 b=D b):Own D2 z s cs:=by
 obtain ⟨hl,hx,hc,h0 | ⟨b,sp,hp,hbk,h1⟩⟩:=h
 ·exact ⟨hl,hx,hc,.inl h0⟩
 ·exact ⟨hl,hx,hc,.inr ⟨b,sp,hp,by rw [hb b hp]; exact hbk,h1⟩⟩
theorem Qts {cs:List Value} (h:Own D z s cs) (hl:0 < s.len):∃ b g,s.p=some (b,0)∧s.x=none∧D b=some (true,g):=by
 obtain ⟨_,hx,hc,⟨_,h0⟩ | ⟨b,sp,hp,hbk,h1⟩⟩:=h
 ·omega
 ·exact ⟨b,_,hp,hx,hbk⟩
/-- a cell of an element of one's own list is written -/
theorem Qub {b i j:Nat} {v:Value} {x':β} {K:Heap→Prop} (h:Own D z s (xs.flatMap c)) (hp:s.p=some (b,0)) (hz:∀ x,(c x).length=z) (hi:i < xs.length) (hj:j < z) (e:(c xs[i]).set j v=c x') (k:∀ g,Own (D.put b g) z s ((xs.set i x').flatMap c)→K (D.put b g)):st (b,0+i*z+j) v K D:=by
 obtain ⟨hl,hx,hc,⟨hp',_⟩ | ⟨b',sp,hp',hbk,h1⟩⟩:=h
 ·rw [hp'] at hp; cases hp
 ·rw [hp] at hp'
  injection hp' with hp'
  injection hp' with hb _
  subst hb
  have hle:i*z+j < (xs.flatMap c).length:=by
   rw [Qcl hz]
   have:(i+1)*z≤xs.length*z:=Nat.mul_le_mul_right _ hi
   rw [Nat.succ_mul] at this; omega
  refine ⟨_,hbk,by rw [List.length_append]; omega,?_⟩
  rw [Nat.zero_add,List.set_append_left _ _ hle,Qsk hz hi hj e]
  refine k _ ⟨?_,hx,hc,.inr ⟨b,sp,hp,Heap.put_same ..,?_⟩⟩
  ·rw [Qcl hz,List.length_set,← Qcl hz,hl]
  ·rw [List.length_append,Qcl hz,List.length_set,← Qcl hz,← List.length_append]; exact h1
end
section
variable {C:Ctx} {A H:Heap}
/-- has a text a dot? -/
theorem dotLp {D:Heap} {X:Nat×Nat} {s:Str} {EX:Bool×Int→Heap→Prop} (h:rd D X=some (sv s)) (hl:s.length≤140737488355328) (k:EX (s.contains 46,(s.length:Int)) D) :
 lp (α:=Bool×Int) (false,0) D (fun x98 J99 H100=>ldS H100 X fun x101=>ift (decide ((x98.2:Int) < (List.length x101:Int))) (jn (α:=Bool) (fun b104 H113=>J99 (b104,(w .i64 (x98.2+1))) H113) (fun J105=>ift x98.1 (J105 true H100) (ldS H100 X fun x108=>ixs x108 x98.2 fun c110=>J105 (((c110.toNat:Int):Int) == 46) H100))) (EX x98 H100)):=by
 refine ⟨fun y D'=>D' = D∧∃ i:Nat,y=((s.take i).contains 46,(i:Int))∧i≤s.length,fun y _=>s.length - y.2.toNat,⟨rfl,0,by simp,Nat.zero_le _⟩,?_⟩
 rintro _ D' ⟨hDe,i,rfl,hi⟩
 subst hDe
 refine ⟨s,h,ift.of (fun hh=>?_) (fun hh=>?_)⟩
 ·have hil : i < s.length := by have := of_decide_eq_true hh; omega
  have e:(s.take (i+1)).contains 46=((s.take i).contains 46 || (s[i] == 46)):=by
   rw [List.take_add_one,List.getElem?_eq_getElem hil,Option.toList_some,Bool.eq_iff_iff]
   simp only [List.contains_iff_mem,List.mem_append,List.mem_singleton,Bool.or_eq_true,beq_iff_eq]
   constructor
   ·rintro (h | h)
    ·exact .inl h
    ·exact .inr h.symm
   ·rintro (h | h)
    ·exact .inl h
    ·exact .inr h.symm
  have fin:∀ b,b=(s.take (i+1)).contains 46→((D' = D'∧∃ i':Nat,(b,w .i64 ((i:Int)+1))=((s.take i').contains 46,(i':Int))∧i'≤s.length)∧s.length - (b,w .i64 ((i:Int)+1)).2.toNat < s.length - ((i:Nat):Int).toNat):=by
   rintro b rfl
   rw [Qal (by omega) (by omega)]
   exact ⟨⟨rfl,i+1,rfl,by omega⟩,by first | omega | (dsimp only; omega)⟩
  refine jn.inl (ift.of (fun h1=>?_) (fun h1=>?_))
  ·have h1:(s.take i).contains 46=true:=h1
   exact fin true (by rw [e,h1]; rfl)
  ·have h1:(s.take i).contains 46=false:=h1
   refine ⟨s,h,s[i],by dsimp only; omega,by rw [List.getElem?_eq_getElem (show ((i:Nat):Int).toNat < s.length by omega)]; rfl,fin _ ?_⟩
   rw [e,h1,Bool.false_or]
   rw [Bool.eq_iff_iff]
   simp only [beq_iff_eq]
   constructor
   ·intro h'
    have:s[i].toNat=46:=by omega
    exact UInt8.toNat_inj.1 (by rw [this]; rfl)
   ·intro h'
    rw [h']; rfl
 ·have hie : i = s.length := by have := of_decide_eq_false hh; dsimp only at this; omega
  subst hie
  rw [List.take_length]
  exact k
end
end
section
open Go Go.Proofs
theorem QuP {s:Sl} {D:Heap} {b:Nat} {e:Bool×GO} (h:(Heap.off s D) b=some e):∀ p,s.p=some p→p.1≠b:=fun p hp e'=>by
 unfold Heap.off at h
 rw [if_pos (by rw [hp,← e']; rfl)] at h
 cases h
theorem Qq3 {β:Type} {c:β→List Value} (h:∀ x,∀ u ∈ c x,u.oneCell' = true) (xs:List β):∀ u ∈ xs.flatMap c,u.oneCell' = true:=fun u hu=>by
 obtain ⟨x,_,hx⟩:=List.mem_flatMap.1 hu
 exact h x u hx
section
variable {C:Ctx} {H:Heap}
/-- one body: copied, and names ahead; the text of the loop over it -/
theorem ahBody {n:Str} {A D0:Heap} {b1 b26:Nat} {x:Qa} {r33 r59:Sl} {ys:List Qk} {i:Nat} {l:List LiP} {ws:List Qi} {REST:Heap→Prop} (hx:x.Name=n) (hn:n.length≤1000) (hl:l.length≤1000) (hr:∀ v ∈ l,v.r.length≤1000)
 (h1:D0 b1=some (true,.row (Qa.c x))) (h26:D0 b26=some (true,.row (Qa.c { x with Rules:=r33 }))) (hi:i < ys.length) (hyb:ys[i].Body=r59) (hyl:ys.length≤1000)
 (hR:Own D0 6 r33 (ys.flatMap Qk.c)) (hO:Own D0 5 r59 (ws.flatMap Qi.c)) (hw:ws.length=l.length) (hws:∀ (j:Nat) (v:LiP) (y:Qi),l[j]? = some v→ws[j]? = some y→LpIs A v y)
 (n1:∀ p,r59.p=some p→p.1≠b1) (n26:∀ p,r59.p=some p→p.1≠b26) (nr:∀ p q,r59.p=some p→r33.p=some q→p.1≠q.1)
 (k:∀ (D:Heap) (zs:List Qi),(Heap.off r59 D0).le D→Own D 5 r59 (zs.flatMap Qi.c)→zs.length=l.length→(∀ (j:Nat) (v:LiP) (y:Qi),l[j]? = some v→zs[j]? = some y→LpIs A (ahL n v) y)→REST D) :
 lp (α:=Int) 0 D0 (fun x67 J68 H69=>
 ldL H69 ((b26,0).1,(b26,0).2+4) fun x70=>
 ixa x70 (i:Int) fun p72=>
 ldL H69 ((p72.1,p72.2+(i:Int).toNat*6).1,(p72.1,p72.2+(i:Int).toNat*6).2+5) fun x77=>
 ift (decide ((x67:Int) < (Sl.len x77:Int)))
 (jn (α:=Unit) (fun x81 H82=>
 J68 (w .i64 (x67+1)) H82)
 (fun J80=>ldL H69 ((b26,0).1,(b26,0).2+4) fun x84=>
 ixa x84 (i:Int) fun p86=>
 ldL H69 ((p86.1,p86.2+(i:Int).toNat*6).1,(p86.1,p86.2+(i:Int).toNat*6).2+5) fun x91=>
 ixa x91 x67 fun p93=>
 lp (α:=Bool×Int) (false,0) H69 (fun x98 J99 H100=>
 ldS H100 ((p93.1,p93.2+(x67:Int).toNat*5).1,(p93.1,p93.2+(x67:Int).toNat*5).2+3) fun x101=>
 ift (decide ((x98.2:Int) < (List.length x101:Int)))
 (jn (α:=Bool) (fun b104 H113=>
 J99 (b104,(w .i64 (x98.2+1))) H113)
 (fun J105=>ift x98.1
 (J105 true H100)
 (ldS H100 ((p93.1,p93.2+(x67:Int).toNat*5).1,(p93.1,p93.2+(x67:Int).toNat*5).2+3) fun x108=>
 ixs x108 x98.2 fun c110=>
 J105 (((c110.toNat:Int):Int) == 46) H100)))
 (ldI H100 .u8 ((p93.1,p93.2+(x67:Int).toNat*5).1,(p93.1,p93.2+(x67:Int).toNat*5).2+0) fun x114=>
 jn (α:=Bool) (fun b116 H122=>
 ift (b116 && (!x98.1))
 (dr H122 fun Hs125=>
 ldS Hs125 ((b1,0).1,(b1,0).2+0) fun x127=>
 catOk x127 ([46]:Str)∧
 ldS Hs125 ((p93.1,p93.2+(x67:Int).toNat*5).1,(p93.1,p93.2+(x67:Int).toNat*5).2+3) fun x130=>
 catOk (x127++([46]:Str)) x130∧
 st ((p93.1,p93.2+(x67:Int).toNat*5).1,(p93.1,p93.2+(x67:Int).toNat*5).2+3) (sv ((x127++([46]:Str))++x130)) (fun H133=>
 J80 () H133) H122)
 (J80 () H122))
 (fun J117=>ift ((x114:Int) == 1)
 (J117 true H100)
 (ldI H100 .u8 ((p93.1,p93.2+(x67:Int).toNat*5).1,(p93.1,p93.2+(x67:Int).toNat*5).2+0) fun x120=>
 J117 ((x120:Int) == 2) H100))))))
 (REST H69)):=by
 have hzl:∀ y:Qi,(Qi.c y).length=5:=fun _=>rfl
 have hzr:∀ y:Qk,(Qk.c y).length=6:=fun _=>rfl
 have e59:r59.len=l.length:=by rw [QiO hO hzl (by omega),hw]
 refine ⟨fun y D=>∃ (k:Nat) (zs:List Qi),y=(k:Int)∧k≤l.length∧(Heap.off r59 D0).le D∧Own D 5 r59 (zs.flatMap Qi.c)∧zs.length=l.length∧∀ (j:Nat) (v:LiP) (y:Qi),l[j]? = some v→zs[j]? = some y→(j < k→LpIs A (ahL n v) y)∧(k≤j→LpIs A v y),fun y _=>l.length - y.toNat,⟨0,ws,rfl,Nat.zero_le _,Heap.off_le _ _,hO,hw,fun j v y hv hy=>⟨fun h=>by omega,fun _=>hws j v y hv hy⟩⟩,?_⟩
 clear hO hw hws
 rintro _ D ⟨κ,zs,rfl,hκ,hD,hO,hzs,hE⟩
 have g1:D b1=some (true,.row (Qa.c x)):=hD _ _ (Heap.off_some h1 n1)
 have g26:D b26=some (true,.row (Qa.c { x with Rules:=r33 })):=hD _ _ (Heap.off_some h26 n26)
 have gR:Own D 6 r33 (ys.flatMap Qk.c):=QlN hR fun b hb=>by
  obtain ⟨b',g',hp',_,hg'⟩:=Qts hR (by rw [QiO hR hzr (by omega)]; omega)
  rw [hb] at hp'
  injection hp' with hp'
  injection hp' with hp' _
  subst hp'
  rw [hg']
  exact hD _ _ (Heap.off_some hg' fun p hp e=>nr p _ hp hb e)
 have sR:=Qt4 gR hzr (by omega) (by omega)
 refine fL g26 (j:=4) rfl ?_
 refine SlIs.at_ sR (Heap.le.refl _) hzr (by omega) rfl hi fun p y hy hrd=>⟨r59,by rw [← hyb,← hy]; exact hrd 5 _ rfl,?_⟩
 show ift (decide ((κ:Int) < (r59.len:Int))) _ _
 rw [e59]
 refine ift.of (fun h=>?_) (fun h=>?_)
 ·have hκl : κ < l.length := by have := of_decide_eq_true h; omega
  refine jn.inl ?_
  refine fL g26 (j:=4) rfl (SlIs.at_ sR (Heap.le.refl _) hzr (by omega) rfl hi fun p y hy hrd=>⟨r59,by rw [← hyb,← hy]; exact hrd 5 _ rfl,?_⟩)
  have eO:=QiO hO hzl (by omega)
  obtain ⟨b,g,hp,hx0,hg⟩:=Qts hO (by omega)
  refine ⟨_,hp,hx0,by omega,by omega,?_⟩
  have hκz:κ < zs.length:=by omega
  have hEk:=hE κ l[κ] zs[κ] (List.getElem?_eq_getElem hκl) (List.getElem?_eq_getElem hκz)
  have hlp:=hEk.2 (Nat.le_refl _)
  have hrl:=hr _ (List.getElem_mem hκl)
  have sO:=Qt4 hO hzl (by omega) (by omega)
  have cell:∀ (j:Nat) (v:Value),(Qi.c zs[κ])[j]? = some v→rd D ((b,0+(κ:Int).toNat*5).1,(b,0+(κ:Int).toNat*5).2+j)=some v:=fun j v hj=>by
   have:ixa r59 (κ:Int) (fun p=>rd D ((p.1,p.2+(κ:Int).toNat*5).1,(p.1,p.2+(κ:Int).toNat*5).2+j)=some v):=SlIs.at_ sO (Heap.le.refl _) hzl (by omega) rfl hκz fun p y hy hrd=>hrd j v (by rw [hy]; exact hj)
   obtain ⟨p,hp2,_,_,_,h5⟩:=this
   rw [hp] at hp2
   injection hp2 with hp2
   subst hp2
   exact h5
  have cR:rd D ((b,0+(κ:Int).toNat*5).1,(b,0+(κ:Int).toNat*5).2+3)=some (sv l[κ].r):=by rw [← hlp.2.2.1.1]; exact cell 3 _ rfl
  have cK:rd D ((b,0+(κ:Int).toNat*5).1,(b,0+(κ:Int).toNat*5).2+0)=some (.int .u8 l[κ].k):=by rw [← hlp.2.1]; exact cell 0 _ rfl
  have next:∀ (D':Heap) (zs':List Qi),(Heap.off r59 D0).le D'→Own D' 5 r59 (zs'.flatMap Qi.c)→zs'.length=l.length→(∀ j,j≠κ→zs'[j]? = zs[j]?)→(∀ y,zs'[κ]? = some y→LpIs A (ahL n l[κ]) y)→((∃ (k:Nat) (zs:List Qi),w .i64 ((κ:Int)+1)=(k:Int)∧k≤l.length∧(Heap.off r59 D0).le D'∧Own D' 5 r59 (zs.flatMap Qi.c)∧zs.length=l.length∧∀ (j:Nat) (v:LiP) (y:Qi),l[j]? = some v→zs[j]? = some y→(j < k→LpIs A (ahL n v) y)∧(k≤j→LpIs A v y))∧l.length - (w .i64 ((κ:Int)+1)).toNat < l.length - ((κ:Nat):Int).toNat):=fun D' zs' q1 q2 q3 q4 q5=>by
   rw [Qal (by omega) (by omega)]
   refine ⟨⟨κ+1,zs',by omega,by omega,q1,q2,q3,fun j v y hv hy=>?_⟩,by first | omega | (dsimp only; omega)⟩
   by_cases hj:j=κ
   ·subst hj
    rw [List.getElem?_eq_getElem hκl] at hv
    injection hv with hv
    subst hv
    exact ⟨fun _=>q5 y hy,fun h=>by omega⟩
   ·rw [q4 j hj] at hy
    have:=hE j v y hv hy
    exact ⟨fun h=>this.1 (by omega),fun h=>this.2 (by omega)⟩
  refine dotLp (s:=l[κ].r) (EX:=fun x98 H100=>ldI H100 .u8 ((b,0+(κ:Int).toNat*5).1,(b,0+(κ:Int).toNat*5).2+0) fun x114=>jn (α:=Bool) (fun b116 H122=>ift (b116 && (!x98.1)) (dr H122 fun Hs125=>ldS Hs125 ((b1,0).1,(b1,0).2+0) fun x127=>catOk x127 ([46]:Str)∧ldS Hs125 ((b,0+(κ:Int).toNat*5).1,(b,0+(κ:Int).toNat*5).2+3) fun x130=>catOk (x127++([46]:Str)) x130∧st ((b,0+(κ:Int).toNat*5).1,(b,0+(κ:Int).toNat*5).2+3) (sv ((x127++([46]:Str))++x130)) (fun H133=>_) H122) _) (fun J117=>ift ((x114:Int) == 1) (J117 true H100) (ldI H100 .u8 ((b,0+(κ:Int).toNat*5).1,(b,0+(κ:Int).toNat*5).2+0) fun x120=>J117 ((x120:Int) == 2) H100))) cR (by omega) ?_
  refine ⟨l[κ].k,cK,?_⟩
  refine ⟨fun b' F=>F=D∧b' = decide (l[κ].k=1∨l[κ].k=2),?_,?_⟩
  ·refine ift.of (fun h => ⟨rfl, ?_⟩) (fun h => ⟨l[κ].k, cK, rfl, ?_⟩)
   ·exact (decide_eq_true (Or.inl (eq_of_beq h))).symm
   ·have h : ¬ l[κ].k = 1 := fun e => by rw [e] at h; exact absurd h (by decide)
    rw [Bool.eq_iff_iff,beq_iff_eq,decide_eq_true_iff]
    exact ⟨fun e=>.inr e,fun e=>e.resolve_left h⟩
  ·rintro b' _ ⟨rfl,rfl⟩
   refine ift.of (fun h=>?_) (fun h=>?_)
   ·rw [Bool.and_eq_true,decide_eq_true_iff,Bool.not_eq_true'] at h
    refine ⟨_,Heap.le.refl _,fS g1 (j:=0) rfl ⟨?_,l[κ].r,cR,?_,?_⟩⟩
    ·rw [hx]; exact cat1 hn
    ·rw [hx]; exact cat2 hn hrl
    rw [hx]
    refine Qub (i:=κ) (x':={ zs[κ] with Rel:=dotS n l[κ].r }) hO hp hzl hκz (by omega) rfl fun g' hO'=>?_
    refine next _ _ ?_ hO' (by rw [List.length_set]; exact hzs) (fun j hj=>by rw [List.getElem?_set_ne (Ne.symm hj)]) fun y hy=>?_
    ·intro q e he
     have:q≠b:=fun e'=>by
      subst e'
      unfold Heap.off at he
      rw [if_pos (by rw [hp]; rfl)] at he
      cases he
     rw [Heap.put_ne _ _ _ this]; exact hD q e he
    ·rw [List.getElem?_set_self hκz] at hy
     injection hy with hy
     subst hy
     have ea:ahL n l[κ] = { l[κ] with r:=dotS n l[κ].r }:=by
      unfold ahL ahS
      have h2:l[κ].r.contains 46=false:=h.2
      rw [if_pos h.1,if_neg (by rw [h2]; decide)]
     rw [ea]
     exact ⟨hlp.1,hlp.2.1,⟨rfl,Qnq hn hrl⟩,hlp.2.2.2⟩
   ·refine next _ _ hD hO hzs (fun _ _ => rfl) fun y hy => ?_
    rw [List.getElem?_eq_getElem hκz] at hy
    injection hy with hy
    subst hy
    have ea:ahL n l[κ]=l[κ]:=by
     unfold ahL
     split
     ·rename_i hk
      have hk':decide (l[κ].k=1∨l[κ].k=2)=true:=decide_eq_true hk
      rw [hk',Bool.true_and,Bool.not_eq_false'] at h
      unfold ahS
      rw [if_pos h]
     ·rfl
    rw [ea]; exact hlp
 ·have hie : κ = l.length := by have := of_decide_eq_false h; omega
  subst hie
  exact k D zs hD hO hzs fun j v y hv hy=>(hE j v y hv hy).1 (List.getElem?_eq_some_iff.1 hv).1
end
end
section
open Go Go.Proofs
section
variable {C:Ctx} {H:Heap}
theorem Qn3 (hT:MaxC C) (hFm:FmtC C) {m:MoP} {x:Qa} {K:Bool→Heap→Prop} (hm:MpIs H m x) (hz:moSz m.e≤16777216) (k:∀ D,K true D):Qbv C x K H:=by
 apply Qkr
 unfold QfH
 refine box1N fun b1 H2 n1 _ l1 h1=>bxT (c:=Qa.c) h1 (box1N fun b5 H6 n5 _ l5 h5=>?_)
 have hm6:=MpIs.le (l1.trans l5) hm
 have hs6:MpL H6 (Sl.of (some (b5,0)) 1 1) [m]:=Qkk h5 hm6
 have h1:=l5 _ _ h1
 refine Qtl hT hFm hs6 (Heap.le.refl _) (fun v hv=>by
  have:v=m:=by simpa using hv
  subst this; exact hz) (by simp) fun b7 H8 hH8 hb7=>?_
 refine ⟨fun b F=>H8.le F∧(b=false→moD m.e≤64),?_,?_⟩
 ·refine ift.of (fun h => ⟨Heap.le.refl _, fun h => by cases h⟩) (fun h => ?_)
  exact QqR hT fun D hD=>⟨hD,fun _=>(hb7 h).2 m (by simp)⟩
 rintro b9 H15 ⟨h15,hb9⟩
 refine ift.of (fun _=>QqR hT fun D _=>k D) (fun h9=>?_)
 have hd:=hb9 h9
 have h1:=h15 _ _ (hH8 _ _ h1)
 have hH15:=(l1.trans l5).trans (hH8.trans h15)
 refine bxT (c:=Qa.c) h1 (QoR hT (MpIs.e hm) hH15 (by omega) ?_)
 refine ift.of (fun _=>k _) (fun hc=>?_)
 have hc:moC m.e=0:=by simpa using hc
 have hg:=moG hc
 clear hb7 hs6 hm6 hb9 h5 n5
 refine bxT (c:=Qa.c) h1 ?_
 have hb1:=h1
 refine boxZ rfl fun b26 H28 n26 l26 h26=>?_
 have h1:=l26 _ _ h1
 have n126:b1≠b26:=fun e=>by rw [← e,hb1] at n26; cases n26
 clear hb1
 have hHb:H b26=none:=hH15.none n26
 have hHX:H.le (H28.del b26):=Heap.le_del (hH15.trans l26) hHb
 have x1:(H28.del b26) b1=some (true,.row (Qa.c x)):=by rw [Heap.del_ne _ n126]; exact h1
 intro b29 n29
 have o1:=Qmm (z:=6) n29
 have l29:=o1.le
 obtain ⟨xs,g1,g2,g3,g4,g5⟩:=hm.2.2.2.2.1
 refine fL (l29 _ _ h1) (j:=4) rfl ?_
 have hxl:xs.length≤256:=by have:=hg.lu; omega
 refine QmU (zc:=Qk.c Qk.zero) o1 (Qgk ((hH15.trans l26).trans l29) g1) (by rw [Qcl (c:=Qk.c) (z:=6) (fun _=>rfl),g2]; rfl) (Qq3 Qt8 xs) (by dsimp only [Sl.of]; omega) (by dsimp only [Sl.of]; omega) fun r33 H34 o2 l2=>?_
 rw [List.nil_append] at o2
 have k26:=o2.le _ _ h26
 refine QrN (cs2:=Qa.c { x with Rules:=r33 }) k26 (show 4 < 6 by omega) rfl ?_
 have hzr:∀ y:Qk,(Qk.c y).length=6:=fun _=>rfl
 have fr33:∀ q,r33.p=some q→q.1≠b26:=fun q hq e=>by
  have:=o2.fresh q hq
  rw [e,h26] at this; cases this
 have oR:Own (H34.put b26 (.row (Qa.c { x with Rules:=r33 }))) 6 r33 (xs.flatMap Qk.c):=QlN o2.own fun b hb=>Heap.put_ne _ _ _ (fr33 _ hb)
 have hX0:(H28.del b26).le (H34.put b26 (.row (Qa.c { x with Rules:=r33 }))):=Heap.del_put ((Heap.del_le _ _).trans o2.le)
 have e26:(H34.put b26 (.row (Qa.c { x with Rules:=r33 }))) b26=some (true,.row (Qa.c { x with Rules:=r33 })):=Heap.put_same ..
 have frX:Fresh (H28.del b26) r33:=o2.fresh.le (Heap.del_le _ _)
 have eX26:(H28.del b26) b26=none:=Heap.del_same ..
 have e33:r33.len=xs.length:=QiO oR hzr (by omega)
 generalize H34.put b26 (.row (Qa.c { x with Rules:=r33 }))=H35 at *
 generalize H28.del b26=X at *
 clear o1 o2 l2 l29 n29 k26 l26 h26 n26 h1 h15 hH8 hH15 l1 l5 n1 n126 g1
 refine ⟨fun y D=>X.le D∧D b26=some (true,.row (Qa.c { x with Rules:=r33 }))∧∃ (i:Nat) (ys:List Qk),y=(i:Int)∧i≤m.ru.length∧Own D 6 r33 (ys.flatMap Qk.c)∧ys.length=m.ru.length∧∀ (j:Nat) (v:RuP) (y:Qk),m.ru[j]? = some v→ys[j]? = some y→(j < i→UpIs (Heap.off r33 (D.del b26)) (ahR m.n v) y)∧(i≤j→UpIs H v y),fun y _=>m.ru.length - y.toNat,⟨hX0,e26,0,xs,rfl,Nat.zero_le _,oR,by omega,fun j v y hv hy=>⟨fun h=>by omega,fun _=>g5 j v y hv hy⟩⟩,?_⟩
 clear hX0 e26 oR g5
 rintro _ D ⟨hX,h26,i,ys,rfl,hi,hO,hys,hE⟩
 have lx:xs.length=m.ru.length:=by omega
 refine fL h26 (j:=4) rfl ?_
 show ift (decide ((i:Int) < (r33.len:Int))) _ _
 rw [e33,lx]
 refine ift.of (fun h=>?_) (fun h=>?_)
 ·have hil : i < m.ru.length := by have := of_decide_eq_true h; omega
  have hiy:i < ys.length:=by omega
  have hEi:=(hE i m.ru[i] ys[i] (List.getElem?_eq_getElem hil) (List.getElem?_eq_getElem hiy)).2 (Nat.le_refl _)
  have hgr:=hg.ru _ (List.getElem_mem hil)
  have h1:=hX _ _ x1
  refine ⟨D,Heap.le.refl _,fL h26 (j:=4) rfl (fL h1 (j:=4) rfl ?_)⟩
  refine SlIs.at_ hm.2.2.2.2.1 (hHX.trans hX) (z:=6) (fun _=>rfl) (by omega) rfl hil fun p y0 hy0 hr0=>⟨y0.Body,hr0 5 _ rfl,?_⟩
  obtain ⟨ws,w1,w2,w3,w4,w5⟩:=hy0.2.2.2.2
  have hbl:m.ru[i].b.length≤12:=hgr.2
  intro b56 n56
  have o1:=Qmm (z:=5) n56
  refine ⟨o1.le,?_⟩
  refine QmU (zc:=Qi.c Qi.zero) o1 (Qgk ((hHX.trans hX).trans o1.le) w1) (by rw [Qcl (c:=Qi.c) (z:=5) (fun _=>rfl),w2]; rfl) (Qq3 Qvu ws) (by dsimp only [Sl.of]; omega) (by dsimp only [Sl.of]; omega) fun r59 H60 o2 l2=>⟨o2.le,?_⟩
  rw [List.nil_append] at o2
  have hzl:∀ y:Qi,(Qi.c y).length=5:=fun _=>rfl
  have hO60:Own H60 6 r33 (ys.flatMap Qk.c):=hO.le o2.le
  obtain ⟨br,gr,hp,hx0,hgr'⟩:=Qts hO (by rw [QiO hO hzr (by omega)]; omega)
  have hbr:br≠b26:=fr33 _ hp
  have frr:∀ q,r59.p=some q→q.1≠br:=fun q hq e=>by
   have:=o2.fresh q hq
   rw [e,hgr'] at this; cases this
  refine ⟨_,hp,hx0,by omega,by rw [e33]; omega,?_⟩
  refine Qub (i:=i) (x':={ ys[i] with Body:=r59 }) hO60 hp hzr hiy (by omega) rfl fun g' hO66=>?_
  have fr26:∀ q,r59.p=some q→q.1≠b26:=fun q hq e=>by
   have:=o2.fresh q hq
   rw [e,h26] at this; cases this
  have frb1:∀ q,r59.p=some q→q.1≠b1:=fun q hq e=>by
   have:=o2.fresh q hq
   rw [e,h1] at this; cases this
  have b1r:b1≠br:=fun e=>by
   have:=frX _ hp
   rw [← e,x1] at this; cases this
  have hput:∀ {b:Nat} {e:Bool×GO},b≠br→D b=some e→(H60.put br g') b=some e:=fun {b e} hb he=>by rw [Heap.put_ne _ _ _ hb]; exact o2.le _ _ he
  have hO5:Own (H60.put br g') 5 r59 (ws.flatMap Qi.c):=QlN o2.own fun b hb=>Heap.put_ne _ _ _ (frr _ hb)
  have hgru:=hgr.1
  unfold ruOk RuP.e at hgru
  simp only [Bool.and_eq_true,List.all_map,List.all_eq_true,Function.comp_def] at hgru
  have hsr:∀ v ∈ m.ru[i].b,v.r.length≤1000:=fun v hv=>by
   have h:=hgru.1.2 v hv
   unfold liOk LiP.e at h
   dsimp only at h
   split at h
   ·simp only [Bool.and_eq_true] at h
    have:=(QjM h.1.1).1; omega
   ·split at h
    ·simp only [Bool.and_eq_true] at h
     have:=List.isEmpty_iff.1 h.1.1
     rw [this]; simp
    ·split at h
     ·simp only [Bool.and_eq_true] at h
      have h:=h.1.1
      unfold varS at h
      simp only [Bool.and_eq_true,decide_eq_true_eq] at h
      have:=h.1.1.2; omega
     ·cases h
  refine ahBody (A:=H) (i:=i) (ys:=ys.set i { ys[i] with Body:=r59 }) (l:=m.ru[i].b) (ws:=ws) hm.1.1 (by have:=hg.n; omega) (by omega) hsr (hput b1r h1) (hput (Ne.symm hbr) h26) (by rw [List.length_set]; exact hiy) (by rw [List.getElem_set_self]) (by rw [List.length_set]; have:=hg.lu; omega) hO66 hO5 w3.symm w5 frb1 fr26 (fun p q hp' hq=>by rw [hp] at hq; injection hq with hq; rw [← hq]; exact frr p hp') fun D2 zs hD2 hO2 hzs hE2=>?_
  have hXD2:X.le D2:=fun b e hb=>hD2 _ _ (Heap.off_some (hput (fun e'=>by
   have:=frX _ hp
   rw [← e',hb] at this; cases this) (hX _ _ hb)) fun p hp' e'=>by
    have:=o2.fresh p hp'
    rw [e',hX _ _ hb] at this; cases this)
  have h26':D2 b26=some (true,.row (Qa.c { x with Rules:=r33 })):=hD2 _ _ (Heap.off_some (hput (Ne.symm hbr) h26) fr26)
  have hO6':Own D2 6 r33 ((ys.set i { ys[i] with Body:=r59 }).flatMap Qk.c):=QlN hO66 fun b hb=>by
   rw [hp] at hb
   injection hb with hb
   injection hb with hb _
   subst hb
   obtain ⟨b',g'',hp',_,hg''⟩:=Qts hO66 (by rw [QiO hO66 hzr (by omega),List.length_set]; omega)
   rw [hp] at hp'
   injection hp' with hp'
   injection hp' with hp' _
   subst hp'
   rw [hg'']
   exact hD2 _ _ (Heap.off_some hg'' frr)
  have hZ:(Heap.off r33 (D.del b26)).le (Heap.off r33 (D2.del b26)):=fun b e hb=>by
   have q1:=QuP hb
   have q2:=Heap.off_le _ _ _ _ hb
   have q3:b≠b26:=fun e'=>by rw [e',Heap.del_same] at q2; cases q2
   rw [Heap.del_ne _ q3] at q2
   refine Heap.off_some ?_ q1
   rw [Heap.del_ne _ q3]
   exact hD2 _ _ (Heap.off_some (hput (fun e'=>q1 _ hp e'.symm) q2) fun p hp' e'=>by
    have:=o2.fresh p hp'
    rw [e',q2] at this; cases this)
  have hHZ:H.le (Heap.off r33 (D2.del b26)):=fun b e hb=>by
   refine Heap.off_some ?_ fun p hp' e'=>by
    have:=frX p hp'
    rw [e',hHX _ _ hb] at this; cases this
   rw [Heap.del_ne _ fun e'=>by rw [e',hHb] at hb; cases hb]
   exact hXD2 _ _ (hHX _ _ hb)
  rw [Qal (by omega) (by omega)]
  refine ⟨⟨hXD2,h26',i+1,ys.set i { ys[i] with Body:=r59 },rfl,by omega,hO6',by rw [List.length_set]; exact hys,fun j v y hv hy=>?_⟩,by first | omega | (dsimp only; omega)⟩
  by_cases hj:j=i
  ·subst hj
   rw [List.getElem?_eq_getElem hil] at hv
   injection hv with hv
   rw [List.getElem?_set_self hiy] at hy
   injection hy with hy
   subst hv; subst hy
   refine ⟨fun _=>⟨hEi.1,hEi.2.1,hEi.2.2.1.le hHZ fun v _ x h=>EpIs.le hHZ v x h,StL.le hHZ hEi.2.2.2.1,?_⟩,fun h=>by omega⟩
   refine ⟨zs,?_,?_,?_,?_,fun j' v' y' hv' hy'=>?_⟩
   ·exact (QlN (D2 := Heap.off r33 (D2.del b26)) hO2 fun b hb => by
     have q1:b≠b26:=fr26 _ hb
     have q2:∀ p,r33.p=some p→p.1≠b:=fun p hp' e'=>by
      rw [hp] at hp'
      injection hp' with hp'
      exact frr _ hb (by rw [← hp'] at e'; exact e'.symm)
     cases hh:D2 b with
     | none=>exact (Heap.off_le _ _).none (by rw [Heap.del_ne _ q1]; exact hh)
     | some e=>exact Heap.off_some (by rw [Heap.del_ne _ q1]; exact hh) q2).rdsl
   ·exact QiO hO2 hzl (by omega)
   ·simp only [ahR,List.length_map]; omega
   ·simp only [ahR,List.length_map]; omega
   ·simp only [ahR,List.getElem?_map] at hv'
    cases hb:m.ru[j].b[j']? with
    | none=>rw [hb] at hv'; cases hv'
    | some u=>
     rw [hb] at hv'
     injection hv' with hv'
     subst hv'
     exact LpIs.le hHZ (hE2 j' u y' hb hy')
  ·rw [List.getElem?_set_ne (Ne.symm hj)] at hy
   have:=hE j v y hv hy
   exact ⟨fun h=>UpIs.le hZ (this.1 (by omega)),fun h=>this.2 (by omega)⟩
 ·have hie : i = m.ru.length := by have := of_decide_eq_false h; omega
  subst hie
  have h1:=hX _ _ x1
  have hHD:=hHX.trans hX
  have hZD:(Heap.off r33 (D.del b26)).le D:=(Heap.off_le _ _).trans (Heap.del_le _ _)
  have hm':MpIs D (ahM m) { x with Rules:=r33 }:=by
   obtain ⟨m1,m2,m3,m4,m5,m6⟩:=MpIs.le hHD hm
   refine ⟨m1,m2,m3,m4,⟨ys,hO.rdsl,QiO hO hzr (by omega),by simp only [ahM,List.length_map]; omega,by simp only [ahM,List.length_map]; have:=hg.lu; omega,fun j v y hv hy=>?_⟩,m6⟩
   simp only [ahM,List.getElem?_map] at hv
   cases hb:m.ru[j]? with
   | none=>rw [hb] at hv; cases hv
   | some u=>
    rw [hb] at hv
    injection hv with hv
    subst hv
    exact UpIs.le hZD ((hE j u y hb hy).1 (List.getElem?_eq_some_iff.1 hb).1)
  refine bxT (c:=Qa.c) h1 (box1N fun b136 H137 n136 _ l136 h136=>?_)
  have hHG:=hHD.trans l136
  have hs1:MpL H137 (Sl.of (some (b136,0)) 1 1) [m]:=Qkk h136 (MpIs.le hHG hm)
  have hmd:∀ v ∈ [m],moD v.e≤4611686018427387904:=fun v hv=>by
   have:v=m:=by simpa using hv
   subst this; omega
  have hmd2:∀ v ∈ [ahM m],moD v.e≤4611686018427387904:=fun v hv=>by
   have:v=ahM m:=by simpa using hv
   subst this
   have:=(moC0 (Qt2 hc)).1
   omega
  have hzz:∀ v ∈ [m],moSz v.e≤268435456:=fun v hv=>by
   have:v=m:=by simpa using hv
   subst this; omega
  have hfl:=Qux hc
  -- what is left, for what both came to
  have REST:∀ (D2 D3:Heap) (q q2:Qa) (u u2:Qc) (e e2:Int),D.le D2→e=e2→u=u2→(∀ {F:Heap},D3.le F→∃ o,MpIs F o q∧MpIs F o q2∧(moPl o).length≤4294967296)→(∀ F,D3.le F→F.le F)→nw (Qa.c Qa.zero) (fun b156 H157=>nw (Qc.c Qc.zero) (fun b158 H159=>stT (b156,0) (Qa.c q2) (fun H160=>stT (b158,0) (Qc.c u2) (fun H161=>∀ b142 b144,D3 b142=some (true,.row (Qa.c q))→D3 b144=some (true,.row (Qc.c u))→
 jn (α:=Bool) (fun b162 H170=>
 jn (α:=Bool) (fun b171 H181=>
 K b171 H181)
 (fun J172=>ift b162
 (ldT H170 Qa.c (b142,0) fun x175=>
 ldT H170 Qa.c (b156,0) fun x177=>
 Qff C x175 x177 (fun r179 H180=>
 J172 r179 H180) H170)
 (J172 false H170)))
 (fun J163=>ift ((e:Int) == e2)
 (ldT H161 Qc.c (b144,0) fun x166=>
 ldT H161 Qc.c (b158,0) fun x168=>
 J163 (csEq (Qc.c x166) (Qc.c x168)) H161)
 (J163 false H161))) H160) H159) H157) D3 := fun D2 D3 q q2 u u2 e e2 _ he hu hq _ => by
   subst he; subst hu
   refine box1N fun b156 H157 n156 _ l156 h156=>box1N fun b158 H159 n158 _ l158 h158=>?_
   have n2:b156≠b158:=fun e=>by rw [e] at h156; rw [h156] at n158; cases n158
   refine ⟨_,l158 _ _ h156,by show 0+6≤6; omega,_,by rw [Heap.put_ne _ _ _ (Ne.symm n2)]; exact h158,by show 0+3≤3; omega,?_⟩
   rw [QbD (by rfl),QbD (by rfl)]
   intro b142 b144 k142 k144
   have g156:((H159.put b156 (.row (Qa.c q2))).put b158 (.row (Qc.c u))) b156=some (true,.row (Qa.c q2)):=by rw [Heap.put_ne _ _ _ n2]; exact Heap.put_same ..
   have g158:((H159.put b156 (.row (Qa.c q2))).put b158 (.row (Qc.c u))) b158=some (true,.row (Qc.c u)):=Heap.put_same ..
   have hle:D3.le ((H159.put b156 (.row (Qa.c q2))).put b158 (.row (Qc.c u))):=Qbe (Qbe (l156.trans l158) n156) (l156.none n158)
   rw [show (H159.put (b156,0).1 (GO.row (Qa.c q2))).put (b158,0).1 (GO.row (Qc.c u))=(H159.put b156 (.row (Qa.c q2))).put b158 (.row (Qc.c u)) from rfl]
   generalize (H159.put b156 (.row (Qa.c q2))).put b158 (.row (Qc.c u))=G at *
   obtain ⟨o,o1,o2,o3⟩:=hq hle
   refine jn.inl (Qmg (by simp) (bxT (c:=Qc.c) (hle _ _ k144) (bxT (c:=Qc.c) g158 ?_)))
   refine jn.inl (Qmg (QiS.2 rfl) (bxT (c:=Qa.c) (hle _ _ k142) (bxT (c:=Qa.c) g156 ?_)))
   refine QtE o1 o2 (Heap.le.refl _) o3 o3 fun b F _ hb _=>?_
   rw [hb rfl rfl]; exact k F
  have zer:∀ {F:Heap},MpIs F ⟨[],[],[],[],[],[]⟩ Qa.zero:=⟨⟨rfl,by decide⟩,⟨SlIs.nil,Nat.le_refl _⟩,SlIs.nil,SlIs.nil,SlIs.nil,SlIs.nil⟩
  -- the second one
  have SEC:∀ (D2:Heap) (q:Qa) (u:Qc) (e:Int),D.le D2→(∀ o,flatF [m]=.ok o→u=⟨[],psP (0,0)⟩∧e=0∧MpIs D2 o q∧(moPl o).length≤4294967296)→(∀ er,flatF [m]=.error er→u=⟨er.1,psP er.2.1⟩∧e=er.2.2∧q=Qa.zero)→∀ b142 b144,D2 b142=some (true,.row (Qa.c q))→D2 b144=some (true,.row (Qc.c u))→(
 ldT D2 Qa.c (b26,0) fun x148=>
 nw ((Qa.c x148)++[]) (fun b150 H151=>
 QbB C (Sl.of (some (b150,0)) 1 1) (fun r152 r153 r154 H155=>
 nw (Qa.c Qa.zero) (fun b156 H157=>
 nw (Qc.c Qc.zero) (fun b158 H159=>
 stT (b156,0) (Qa.c r152) (fun H160=>
 stT (b158,0) (Qc.c r153) (fun H161=>
 jn (α:=Bool) (fun b162 H170=>
 jn (α:=Bool) (fun b171 H181=>
 K b171 H181)
 (fun J172=>ift b162
 (ldT H170 Qa.c (b142,0) fun x175=>
 ldT H170 Qa.c (b156,0) fun x177=>
 Qff C x175 x177 (fun r179 H180=>
 J172 r179 H180) H170)
 (J172 false H170)))
 (fun J163=>ift ((e:Int) == r154)
 (ldT H161 Qc.c (b144,0) fun x166=>
 ldT H161 Qc.c (b158,0) fun x168=>
 J163 (csEq (Qc.c x166) (Qc.c x168)) H161)
 (J163 false H161))) H160) H159) H157) H155) H151) D2) := fun D2 q u e hD2 hok herr b142 b144 k142 k144 => by
   refine bxT (c:=Qa.c) (hD2 _ _ h26) (box1N fun b150 H151 n150 _ l150 h150=>?_)
   have hs2:MpL H151 (Sl.of (some (b150,0)) 1 1) [ahM m]:=Qkk h150 (MpIs.le (hD2.trans l150) hm')
   refine Ql5 hT hs2 (Heap.le.refl _) hmd2 (fun F B W bo q2 o ho hB hW hO2=>?_) (fun F er her hF=>?_)
   ·obtain ⟨T,hT'⟩:=Qqz ho
    rw [hfl] at ho
    obtain ⟨e1,e2,e3,e4⟩:=hok o ho
    have hDF:=(l150.trans hW).trans hO2.wle
    have:=REST D2 F q q2 u ⟨[],psP (0,0)⟩ e 0 hD2 e2 e1 (fun {G} hG=>⟨o,MpIs.le (hDF.trans hG) e3,MpIs.le ((QpY hO2.al).trans hG) (hO2.is hT'),e4⟩) (fun _ _=>Heap.le.refl _)
    intro b156 n156 b158 n158
    obtain ⟨c1,q1,q1',c2,q3,q3',hk⟩:=this b156 n156 b158 n158
    exact ⟨c1,q1,q1',c2,q3,q3',hk b142 b144 (hDF _ _ k142) (hDF _ _ k144)⟩
   ·rw [hfl] at her
    obtain ⟨e1,e2,e3⟩:=herr er her
    have hDF:=l150.trans hF
    have:=REST D2 F q Qa.zero u ⟨er.1,psP er.2.1⟩ e er.2.2 hD2 e2 e1 (fun {G} hG=>⟨_,by rw [e3]; exact zer,zer,by decide⟩) (fun _ _=>Heap.le.refl _)
    intro b156 n156 b158 n158
    obtain ⟨c1,q1,q1',c2,q3,q3',hk⟩:=this b156 n156 b158 n158
    exact ⟨c1,q1,q1',c2,q3,q3',hk b142 b144 (hDF _ _ k142) (hDF _ _ k144)⟩
  -- the first one's results, laid
  have LAY:∀ (D2:Heap) (q:Qa) (u:Qc) (e:Int) (Φ:Nat→Nat→Heap→Prop),(∀ b142 b144 G,D2.le G→G b142=some (true,.row (Qa.c q))→G b144=some (true,.row (Qc.c u))→Φ b142 b144 G)→nw (Qa.c Qa.zero) (fun b142 H143=>nw (Qc.c Qc.zero) (fun b144 H145=>stT (b142,0) (Qa.c q) (fun H146=>stT (b144,0) (Qc.c u) (fun H147=>Φ b142 b144 H147) H146) H145) H143) D2:=fun D2 q u e Φ hΦ=>by
   refine box1N fun b142 H143 n142 _ l142 h142=>box1N fun b144 H145 n144 _ l144 h144=>?_
   have n2:b142≠b144:=fun e=>by rw [e] at h142; rw [h142] at n144; cases n144
   refine ⟨_,l144 _ _ h142,by show 0+6≤6; omega,_,by rw [Heap.put_ne _ _ _ (Ne.symm n2)]; exact h144,by show 0+3≤3; omega,?_⟩
   rw [QbD (by rfl),QbD (by rfl)]
   refine hΦ b142 b144 _ (Qbe (Qbe (l142.trans l144) n142) (l142.none n144)) ?_ (Heap.put_same ..)
   rw [Heap.put_ne _ _ _ n2]; exact Heap.put_same ..
  refine Ql5 hT hs1 (Heap.le.refl _) hmd (fun F B W bo q o ho hB hW hO2=>?_) (fun F er her hF=>?_)
  ·obtain ⟨T,hT'⟩:=Qqz ho
   have hDF:=(l136.trans hW).trans hO2.wle
   refine LAY F q ⟨[],psP (0,0)⟩ 0 _ fun b142 b144 G hG k142 k144=>?_
   refine SEC G q ⟨[],psP (0,0)⟩ 0 (hDF.trans hG) (fun o' ho'=>?_) (fun er her=>by rw [ho] at her; cases her) b142 b144 k142 k144
   rw [ho] at ho'
   injection ho' with ho'
   subst ho'
   exact ⟨rfl,rfl,MpIs.le ((QpY hO2.al).trans hG) (hO2.is hT'),hT'.pl hzz⟩
  ·have hDF:=l136.trans hF
   refine LAY F Qa.zero ⟨er.1,psP er.2.1⟩ er.2.2 _ fun b142 b144 G hG k142 k144=>?_
   refine SEC G Qa.zero ⟨er.1,psP er.2.1⟩ er.2.2 (hDF.trans hG) (fun o' ho'=>by rw [her] at ho'; cases ho') (fun er' her'=>?_) b142 b144 k142 k144
   rw [her] at her'
   injection her' with her'
   subst her'
   exact ⟨rfl,rfl,rfl⟩
end
end
section
set_option maxRecDepth 100000
open Go Go.Proofs
theorem QkS {α β : Type} (f : β → Nat) (g : α → β) : ∀ l : List α, sL f (l.map g) = sL (fun v => f (g v)) l
 | []=>rfl
 | v::l=>by simp only [List.map_cons,sL,QkS f g l]
section
variable {P:Program} {W:World}
theorem Tr.pos {B n:Nat} {t:TypeId} {cs:List Value} (h:Tr P W B n t cs):1≤B:=by
 obtain ⟨H,enc,x,h,hB⟩:=h
 have:=Ql1 x.1
 omega
theorem Qmp {H : Type} : ∀ (ys : List (DataW H × List MemPlace)), (ys.map fun y => sizeD y.1).sum = sizeDs (ys.map (·.1))
 | []=>rfl
 | y::ys=>by simp only [List.map_cons,List.sum_cons,sizeDs,Qmp ys]
theorem Tr.sliceS {B n:Nat} {t e:TypeId} {cs:List Value} {z:Nat} (h:Tr P W B n t cs) (ht:P.underlying t=some (.slice e)) (hz:P.cellsOf e=z) (hz0:0 < z) :
 ∃ (s:Sl) (css:List (List Value)) (bs:List Nat) (m:Nat),m < n∧cs=[slv s]∧s.len≤s.cap∧css.length=s.len∧bs.length=s.len∧rdsl (heapOf W) s css.flatten∧bs.sum+1≤B∧s.len≤B∧∀ (i:Nat) (c:List Value) (b:Nat),css[i]? = some c→bs[i]? = some b→Tr P W b m e c:=by
 obtain ⟨H,enc,x,h,hB⟩:=h
 obtain ⟨s,css,ys,m,hm,p0,p1,p2,p3,p4,p5,p6⟩:=QoN ht (by omega) h
 have hl:=QoL (ys.map (·.1))
 rw [List.length_map] at hl
 refine ⟨s,css,ys.map fun y=>sizeD y.1,m,hm,p0,p1,p2,by rw [List.length_map]; exact p3,p4,by rw [Qmp]; omega,by omega,fun i c b hc hb=>?_⟩
 rw [List.getElem?_map] at hb
 cases hy:ys[i]? with
 | none=>rw [hy] at hb; cases hb
 | some y=>
  rw [hy] at hb
  injection hb with hb
  exact ⟨H,enc,y,(p6 i c y hc hy).2,by rw [← hb]; exact Nat.le_refl _⟩
theorem Tr.structS {B n:Nat} {t:TypeId} {fs:Array Field} {cs:List Value} (h:Tr P W B n t cs) (ht:P.underlying t=some (.struct fs)) :
 cs.length=P.cellsOf t∧∃ (m:Nat) (bs:List Nat),n=m+1∧bs.length=fs.size∧bs.sum+1≤B∧∀ (i:Nat) (f:Field) (b:Nat),fs[i]? = some f→bs[i]? = some b→Tr P W b m f.type ((cs.drop f.offset).take (P.cellsOf f.type)):=by
 obtain ⟨H,enc,x,h,hB⟩:=h
 obtain ⟨xs,m,rfl,hx,hl,hxl,hf⟩:=DataW.trod_struct ht h
 refine ⟨hl,m,xs.map fun y=>sizeD y.1,rfl,by rw [List.length_map]; exact hxl,by rw [Qmp]; rw [hx] at hB; simp only [sizeD] at hB; omega,fun i f b hi hb=>?_⟩
 have h1:=hf i f hi
 have h2:i < fs.size:=(Array.getElem?_eq_some_iff.1 hi).1
 rw [List.getElem?_map,List.getElem?_eq_getElem (by omega)] at hb
 injection hb with hb
 rw [List.getElem?_eq_getElem (by omega)] at h1
 exact ⟨H,enc,_,h1,by rw [← hb]; exact Nat.le_refl _⟩
theorem QfQ {α β:Type} {R:α→β→Prop} {c:β→List Value} {f:α→Nat} {t e:TypeId} {z n B:Nat} {cs:List Value} (h:Tr P W B n t cs) (ht:P.underlying t=some (.slice e)) (hz:P.cellsOf e=z) (hz0:0 < z) (hB:B≤1000000000)
 (ih:∀ m,m < n→∀ cs b,b≤1000000000→Tr P W b m e cs→∃ (v:α) (x:β),cs=c x∧R v x∧f v≤b):∃ (s:Sl) (l:List α),cs=[slv s]∧SlIs R c (heapOf W) s l∧s.len≤s.cap∧sL f l+1≤B∧l.length≤B:=by
 obtain ⟨s,css,bs,m,hm,h1,h2,h3,h4,h5,h6,h7,h8⟩:=h.sliceS ht hz hz0
 have key:∀ (css:List (List Value)) (bs:List Nat),css.length=bs.length→bs.sum≤1000000000→(∀ (i:Nat) (c':List Value) (b:Nat),css[i]? = some c'→bs[i]? = some b→Tr P W b m e c')→∃ (l:List α) (xs:List β),css.flatten=xs.flatMap c∧css.length=xs.length∧l.length=xs.length∧sL f l≤bs.sum∧∀ (i:Nat) (v:α) (x:β),l[i]? = some v→xs[i]? = some x→R v x:=by
  intro css
  induction css with
  | nil=>intro bs _ _ _; exact ⟨[],[],rfl,rfl,rfl,Nat.zero_le _,fun i v x hv=>by simp at hv⟩
  | cons c' css ihc=>
   intro bs hl hb hh
   cases bs with
   | nil=>simp at hl
   | cons b bs=>
    rw [List.sum_cons] at hb
    obtain ⟨v,x,g1,g2,g3⟩:=ih m hm c' b (by omega) (hh 0 c' b rfl rfl)
    obtain ⟨l,xs,k1,k2,k3,k5,k4⟩:=ihc bs (by simpa using hl) (by omega) fun i c' b hc hb=>hh (i+1) c' b (by simpa using hc) (by simpa using hb)
    refine ⟨v::l,x::xs,by rw [List.flatten_cons,List.flatMap_cons,k1,g1],by simp [k2],by simp [k3],by simp only [sL,List.sum_cons]; omega,fun i v' x' hv hx=>?_⟩
    cases i with
    | zero=>simp at hv hx; subst hv; subst hx; exact g2
    | succ i=>exact k4 i v' x' (by simpa using hv) (by simpa using hx)
 obtain ⟨l,xs,k1,k2,k3,k5,k4⟩:=key css bs (by omega) (by omega) h8
 exact ⟨s,l,h1,⟨xs,by rw [← k1]; exact h5,by omega,k3,by omega,k4⟩,h2,by omega,by omega⟩
theorem Qu9 {t tl:TypeId} (hT:ValT P t tl) {n B:Nat} {cs:List Value} (h:Tr P W B n t cs) (hB:B≤1000000000):∃ (v:V) (y:Qh),cs=Qh.c y∧VIs (heapOf W) v y∧VB v:=by
 obtain ⟨H,enc,x,h,hx⟩:=h
 obtain ⟨v,y,h1,h2,h3,_⟩:=QvP hT n h (by omega)
 exact ⟨v,y,h1,h2,h3⟩
end
section
variable {W:World}
theorem valT6:ValT Tryz.prog 38 36:=⟨⟨_,Tryz.underlying38,rfl,⟨_,_,rfl,rfl,rfl,Tryz.underlying5,by kernel_rfl⟩,⟨_,_,rfl,rfl,rfl,Tryz.underlying2,by kernel_rfl⟩,⟨_,_,rfl,rfl,rfl,Tryz.underlying9,by kernel_rfl⟩,⟨_,rfl,rfl,rfl,by kernel_rfl⟩⟩,by kernel_rfl,Tryz.underlying36⟩
theorem QnT {n B:Nat} {cs:List Value} (h:Tr Tryz.prog W B n 26 cs):∃ p:Pl,cs=[.int .i64 (psP p).Line,.int .i64 (psP p).Col]:=by
 obtain ⟨hl,m,rfl,hf⟩:=h.struct Tryz.underlying26
 rw [show Tryz.prog.cellsOf 26=2 by kernel_rfl] at hl
 match cs,hl with
 | [q0,q1],_=>
 have g0:Tr Tryz.prog W B m 3 (([q0,q1].drop 0).take (Tryz.prog.cellsOf 3)):=hf 0 _ rfl
 have g1:Tr Tryz.prog W B m 3 (([q0,q1].drop 1).take (Tryz.prog.cellsOf 3)):=hf 1 _ rfl
 rw [show Tryz.prog.cellsOf 3=1 by kernel_rfl] at g0 g1
 obtain ⟨x0,e0,_⟩:=g0.int Tryz.underlying3
 obtain ⟨x1,e1,_⟩:=g1.int Tryz.underlying3
 refine ⟨(x0,x1),?_⟩
 injection e0 with e0; injection e1 with e1
 rw [e0,e1]; rfl
theorem Quj:∀ (n:Nat) {cs:List Value} {B:Nat},B≤1000000000→Tr Tryz.prog W B n 24 cs→∃ (v:TyV) (x:Qg),cs=Qg.c x∧TyIs (heapOf W) v x∧tySz v≤B:=by
 intro n
 induction n using Nat.strongRecOn with
 | _ n ih=>
 intro cs B hB h
 have hpos:=h.pos
 obtain ⟨hl,m,bs,rfl,hbl,hbs,hf⟩:=h.structS Tryz.underlying24
 rw [show Tryz.prog.cellsOf 24=2 by kernel_rfl] at hl
 match cs,hl,bs,hbl,hbs,hf with
 | [q0,q1],_,[y0,y1],_,hbs,hf=>
 simp only [List.sum_cons,List.sum_nil] at hbs
 have g0:Tr Tryz.prog W y0 m 9 (([q0,q1].drop 0).take (Tryz.prog.cellsOf 9)):=hf 0 _ y0 rfl rfl
 rw [show Tryz.prog.cellsOf 9=1 by kernel_rfl] at g0
 replace g0:Tr Tryz.prog W y0 m 9 [q0]:=g0
 obtain ⟨x0,e0,_,w0⟩:=g0.str Tryz.underlying9
 have w0:x0.length≤140737488355328:=by omega
 have g1:Tr Tryz.prog W y1 m 22 (([q0,q1].drop 1).take (Tryz.prog.cellsOf 22)):=hf 1 _ y1 rfl rfl
 rw [show Tryz.prog.cellsOf 22=1 by kernel_rfl] at g1
 replace g1:Tr Tryz.prog W y1 m 22 [q1]:=g1
 obtain ⟨x1,l1,e1,r1,c1,s1,_⟩:=QfQ (R:=(TyIs (heapOf W))) (c:=Qg.c) (f:=tySz) g1 Tryz.underlying22 (show Tryz.prog.cellsOf 24=2 by kernel_rfl) (by omega) (by omega) (fun m hm cs b hb hc=>ih m (by omega) hb hc)
 exact ⟨.mk x0 l1,⟨x0,x1⟩,(show [q0,q1]=[q0]++([q1]) from rfl).trans (by rw [e0,e1]; rfl),Qeq.2 ⟨⟨rfl,w0⟩,r1⟩,by rw [QpD]; show sL tySz l1+1≤B; omega⟩
theorem QmZ:∀ (n:Nat) {cs:List Value} {B:Nat},B≤1000000000→Tr Tryz.prog W B n 31 cs→∃ (v:FdV) (x:Qj),cs=Qj.c x∧FdIs (heapOf W) v x∧(fun f:FdV=>tySz f.t) v≤B:=by
 intro n
 intro cs B hB h
 have hpos:=h.pos
 obtain ⟨hl,m,bs,rfl,hbl,hbs,hf⟩:=h.structS Tryz.underlying31
 rw [show Tryz.prog.cellsOf 31=3 by kernel_rfl] at hl
 match cs,hl,bs,hbl,hbs,hf with
 | [q0,q1,q2],_,[y0,y1],_,hbs,hf=>
 simp only [List.sum_cons,List.sum_nil] at hbs
 have g0:Tr Tryz.prog W y0 m 9 (([q0,q1,q2].drop 0).take (Tryz.prog.cellsOf 9)):=hf 0 _ y0 rfl rfl
 rw [show Tryz.prog.cellsOf 9=1 by kernel_rfl] at g0
 replace g0:Tr Tryz.prog W y0 m 9 [q0]:=g0
 obtain ⟨x0,e0,_,w0⟩:=g0.str Tryz.underlying9
 have w0:x0.length≤140737488355328:=by omega
 have g1:Tr Tryz.prog W y1 m 24 (([q0,q1,q2].drop 1).take (Tryz.prog.cellsOf 24)):=hf 1 _ y1 rfl rfl
 rw [show Tryz.prog.cellsOf 24=2 by kernel_rfl] at g1
 replace g1:Tr Tryz.prog W y1 m 24 [q1,q2]:=g1
 obtain ⟨v1,x1,e1,r1,s1⟩:=Quj _ (by omega) g1
 exact ⟨⟨x0,v1⟩,⟨x0,x1⟩,(show [q0,q1,q2]=[q0]++([q1,q2]) from rfl).trans (by rw [e0,e1]; rfl),⟨⟨rfl,w0⟩,r1⟩,by show tySz v1≤B; omega⟩
theorem QrR:∀ (n:Nat) {cs:List Value} {B:Nat},B≤1000000000→Tr Tryz.prog W B n 40 cs→∃ (v:ExP) (x:Qb),cs=Qb.c x∧EpIs (heapOf W) v x∧(fun v:ExP=>exSz v.e) v≤B:=by
 intro n
 induction n using Nat.strongRecOn with
 | _ n ih=>
 intro cs B hB h
 have hpos:=h.pos
 obtain ⟨hl,m,bs,rfl,hbl,hbs,hf⟩:=h.structS Tryz.underlying40
 rw [show Tryz.prog.cellsOf 40=9 by kernel_rfl] at hl
 match cs,hl,bs,hbl,hbs,hf with
 | [q0,q1,q2,q3,q4,q5,q6,q7,q8],_,[y0,y1,y2,y3,y4],_,hbs,hf=>
 simp only [List.sum_cons,List.sum_nil] at hbs
 have g0:Tr Tryz.prog W y0 m 5 (([q0,q1,q2,q3,q4,q5,q6,q7,q8].drop 0).take (Tryz.prog.cellsOf 5)):=hf 0 _ y0 rfl rfl
 rw [show Tryz.prog.cellsOf 5=1 by kernel_rfl] at g0
 replace g0:Tr Tryz.prog W y0 m 5 [q0]:=g0
 obtain ⟨x0,e0,_⟩:=g0.int Tryz.underlying5
 have g1:Tr Tryz.prog W y1 m 26 (([q0,q1,q2,q3,q4,q5,q6,q7,q8].drop 1).take (Tryz.prog.cellsOf 26)):=hf 1 _ y1 rfl rfl
 rw [show Tryz.prog.cellsOf 26=2 by kernel_rfl] at g1
 replace g1:Tr Tryz.prog W y1 m 26 [q1,q2]:=g1
 obtain ⟨p1,e1⟩:=QnT g1
 have g2:Tr Tryz.prog W y2 m 9 (([q0,q1,q2,q3,q4,q5,q6,q7,q8].drop 3).take (Tryz.prog.cellsOf 9)):=hf 2 _ y2 rfl rfl
 rw [show Tryz.prog.cellsOf 9=1 by kernel_rfl] at g2
 replace g2:Tr Tryz.prog W y2 m 9 [q3]:=g2
 obtain ⟨x2,e2,_,w2⟩:=g2.str Tryz.underlying9
 have w2:x2.length≤140737488355328:=by omega
 have g3:Tr Tryz.prog W y3 m 38 (([q0,q1,q2,q3,q4,q5,q6,q7,q8].drop 4).take (Tryz.prog.cellsOf 38)):=hf 3 _ y3 rfl rfl
 rw [show Tryz.prog.cellsOf 38=4 by kernel_rfl] at g3
 replace g3:Tr Tryz.prog W y3 m 38 [q4,q5,q6,q7]:=g3
 obtain ⟨v3,x3,e3,r3,b3⟩:=Qu9 valT6 g3 (by omega)
 have g4:Tr Tryz.prog W y4 m 33 (([q0,q1,q2,q3,q4,q5,q6,q7,q8].drop 8).take (Tryz.prog.cellsOf 33)):=hf 4 _ y4 rfl rfl
 rw [show Tryz.prog.cellsOf 33=1 by kernel_rfl] at g4
 replace g4:Tr Tryz.prog W y4 m 33 [q8]:=g4
 obtain ⟨x4,l4,e4,r4,c4,s4,_⟩:=QfQ (R:=(EpIs (heapOf W))) (c:=Qb.c) (f:=(fun v:ExP=>exSz v.e)) g4 Tryz.underlying33 (show Tryz.prog.cellsOf 40=9 by kernel_rfl) (by omega) (by omega) (fun m hm cs b hb hc=>ih m (by omega) hb hc)
 exact ⟨.mk p1 x0 x2 v3 l4,⟨x0,psP p1,x2,x3,x4⟩,(show [q0,q1,q2,q3,q4,q5,q6,q7,q8]=[q0]++([q1,q2]++([q3]++([q4,q5,q6,q7]++([q8])))) from rfl).trans (by rw [e0,e1,e2,e3,e4]; rfl),QgC.2 ⟨rfl,rfl,⟨rfl,w2⟩,r3,b3,r4⟩,by show exSz (ExP.e (.mk p1 x0 x2 v3 l4))≤B; rw [ExP.e_eq,Qpb]; show sL exSz (l4.map ExP.e)+1≤B; rw [QkS]; omega⟩
theorem Qov:∀ (n:Nat) {cs:List Value} {B:Nat},B≤1000000000→Tr Tryz.prog W B n 35 cs→∃ (v:LiP) (x:Qi),cs=Qi.c x∧LpIs (heapOf W) v x∧(fun v:LiP=>liSz v.e) v≤B:=by
 intro n
 intro cs B hB h
 have hpos:=h.pos
 obtain ⟨hl,m,bs,rfl,hbl,hbs,hf⟩:=h.structS Tryz.underlying35
 rw [show Tryz.prog.cellsOf 35=5 by kernel_rfl] at hl
 match cs,hl,bs,hbl,hbs,hf with
 | [q0,q1,q2,q3,q4],_,[y0,y1,y2,y3],_,hbs,hf=>
 simp only [List.sum_cons,List.sum_nil] at hbs
 have g0:Tr Tryz.prog W y0 m 5 (([q0,q1,q2,q3,q4].drop 0).take (Tryz.prog.cellsOf 5)):=hf 0 _ y0 rfl rfl
 rw [show Tryz.prog.cellsOf 5=1 by kernel_rfl] at g0
 replace g0:Tr Tryz.prog W y0 m 5 [q0]:=g0
 obtain ⟨x0,e0,_⟩:=g0.int Tryz.underlying5
 have g1:Tr Tryz.prog W y1 m 26 (([q0,q1,q2,q3,q4].drop 1).take (Tryz.prog.cellsOf 26)):=hf 1 _ y1 rfl rfl
 rw [show Tryz.prog.cellsOf 26=2 by kernel_rfl] at g1
 replace g1:Tr Tryz.prog W y1 m 26 [q1,q2]:=g1
 obtain ⟨p1,e1⟩:=QnT g1
 have g2:Tr Tryz.prog W y2 m 9 (([q0,q1,q2,q3,q4].drop 3).take (Tryz.prog.cellsOf 9)):=hf 2 _ y2 rfl rfl
 rw [show Tryz.prog.cellsOf 9=1 by kernel_rfl] at g2
 replace g2:Tr Tryz.prog W y2 m 9 [q3]:=g2
 obtain ⟨x2,e2,_,w2⟩:=g2.str Tryz.underlying9
 have w2:x2.length≤140737488355328:=by omega
 have g3:Tr Tryz.prog W y3 m 33 (([q0,q1,q2,q3,q4].drop 4).take (Tryz.prog.cellsOf 33)):=hf 3 _ y3 rfl rfl
 rw [show Tryz.prog.cellsOf 33=1 by kernel_rfl] at g3
 replace g3:Tr Tryz.prog W y3 m 33 [q4]:=g3
 obtain ⟨x3,l3,e3,r3,c3,s3,_⟩:=QfQ (R:=(EpIs (heapOf W))) (c:=Qb.c) (f:=(fun v:ExP=>exSz v.e)) g3 Tryz.underlying33 (show Tryz.prog.cellsOf 40=9 by kernel_rfl) (by omega) (by omega) (fun m hm cs b hb hc=>QrR m hb hc)
 exact ⟨⟨p1,x0,x2,l3⟩,⟨x0,psP p1,x2,x3⟩,(show [q0,q1,q2,q3,q4]=[q0]++([q1,q2]++([q3]++([q4]))) from rfl).trans (by rw [e0,e1,e2,e3]; rfl),⟨rfl,rfl,⟨rfl,w2⟩,r3⟩,by show sL exSz (l3.map ExP.e)+1≤B; rw [QkS]; omega⟩
theorem Qrn:∀ (n:Nat) {cs:List Value} {B:Nat},B≤1000000000→Tr Tryz.prog W B n 63 cs→∃ (v:CnV) (x:Ql),cs=Ql.c x∧CnIs (heapOf W) v x∧cnSz v≤B:=by
 intro n
 intro cs B hB h
 have hpos:=h.pos
 obtain ⟨hl,m,bs,rfl,hbl,hbs,hf⟩:=h.structS Tryz.underlying63
 rw [show Tryz.prog.cellsOf 63=2 by kernel_rfl] at hl
 match cs,hl,bs,hbl,hbs,hf with
 | [q0,q1],_,[y0,y1],_,hbs,hf=>
 simp only [List.sum_cons,List.sum_nil] at hbs
 have g0:Tr Tryz.prog W y0 m 9 (([q0,q1].drop 0).take (Tryz.prog.cellsOf 9)):=hf 0 _ y0 rfl rfl
 rw [show Tryz.prog.cellsOf 9=1 by kernel_rfl] at g0
 replace g0:Tr Tryz.prog W y0 m 9 [q0]:=g0
 obtain ⟨x0,e0,_,w0⟩:=g0.str Tryz.underlying9
 have w0:x0.length≤140737488355328:=by omega
 have g1:Tr Tryz.prog W y1 m 27 (([q0,q1].drop 1).take (Tryz.prog.cellsOf 27)):=hf 1 _ y1 rfl rfl
 rw [show Tryz.prog.cellsOf 27=1 by kernel_rfl] at g1
 replace g1:Tr Tryz.prog W y1 m 27 [q1]:=g1
 obtain ⟨x1,l1,e1,r1,c1,s1,_⟩:=QfQ (R:=(FdIs (heapOf W))) (c:=Qj.c) (f:=(fun f:FdV=>tySz f.t)) g1 Tryz.underlying27 (show Tryz.prog.cellsOf 31=3 by kernel_rfl) (by omega) (by omega) (fun m hm cs b hb hc=>QmZ m hb hc)
 exact ⟨⟨x0,l1⟩,⟨x0,x1⟩,(show [q0,q1]=[q0]++([q1]) from rfl).trans (by rw [e0,e1]; rfl),⟨⟨rfl,w0⟩,r1⟩,by show sL (fun f:FdV=>tySz f.t) l1+1≤B; omega⟩
theorem Qro:∀ (n:Nat) {cs:List Value} {B:Nat},B≤1000000000→Tr Tryz.prog W B n 66 cs→∃ (v:TdP) (x:Qd),cs=Qd.c x∧TpIs (heapOf W) v x∧(fun v:TdP=>tdSz v.e) v≤B:=by
 intro n
 intro cs B hB h
 have hpos:=h.pos
 obtain ⟨hl,m,bs,rfl,hbl,hbs,hf⟩:=h.structS Tryz.underlying66
 rw [show Tryz.prog.cellsOf 66=6 by kernel_rfl] at hl
 match cs,hl,bs,hbl,hbs,hf with
 | [q0,q1,q2,q3,q4,q5],_,[y0,y1,y2,y3,y4],_,hbs,hf=>
 simp only [List.sum_cons,List.sum_nil] at hbs
 have g0:Tr Tryz.prog W y0 m 26 (([q0,q1,q2,q3,q4,q5].drop 0).take (Tryz.prog.cellsOf 26)):=hf 0 _ y0 rfl rfl
 rw [show Tryz.prog.cellsOf 26=2 by kernel_rfl] at g0
 replace g0:Tr Tryz.prog W y0 m 26 [q0,q1]:=g0
 obtain ⟨p0,e0⟩:=QnT g0
 have g1:Tr Tryz.prog W y1 m 4 (([q0,q1,q2,q3,q4,q5].drop 2).take (Tryz.prog.cellsOf 4)):=hf 1 _ y1 rfl rfl
 rw [show Tryz.prog.cellsOf 4=1 by kernel_rfl] at g1
 replace g1:Tr Tryz.prog W y1 m 4 [q2]:=g1
 obtain ⟨x1,e1⟩:=g1.bool Tryz.underlying4
 have g2:Tr Tryz.prog W y2 m 9 (([q0,q1,q2,q3,q4,q5].drop 3).take (Tryz.prog.cellsOf 9)):=hf 2 _ y2 rfl rfl
 rw [show Tryz.prog.cellsOf 9=1 by kernel_rfl] at g2
 replace g2:Tr Tryz.prog W y2 m 9 [q3]:=g2
 obtain ⟨x2,e2,_,w2⟩:=g2.str Tryz.underlying9
 have w2:x2.length≤140737488355328:=by omega
 have g3:Tr Tryz.prog W y3 m 43 (([q0,q1,q2,q3,q4,q5].drop 4).take (Tryz.prog.cellsOf 43)):=hf 3 _ y3 rfl rfl
 rw [show Tryz.prog.cellsOf 43=1 by kernel_rfl] at g3
 replace g3:Tr Tryz.prog W y3 m 43 [q4]:=g3
 obtain ⟨x3,l3,e3,r3,c3,s3,_⟩:=QfQ (R:=(fun (v:Str) (x:Str)=>Nm x v)) (c:=(fun x=>[sv x])) (f:=(fun _:Str=>1)) g3 Tryz.underlying43 (show Tryz.prog.cellsOf 9=1 by kernel_rfl) (by omega) (by omega) (fun m hm cs b hb hc=>by have h1:=hc.pos; obtain ⟨s,hs,_,hw⟩:=hc.str Tryz.underlying9; exact ⟨s,s,hs,⟨rfl,by omega⟩,h1⟩)
 have g4:Tr Tryz.prog W y4 m 64 (([q0,q1,q2,q3,q4,q5].drop 5).take (Tryz.prog.cellsOf 64)):=hf 4 _ y4 rfl rfl
 rw [show Tryz.prog.cellsOf 64=1 by kernel_rfl] at g4
 replace g4:Tr Tryz.prog W y4 m 64 [q5]:=g4
 obtain ⟨x4,l4,e4,r4,c4,s4,_⟩:=QfQ (R:=(CnIs (heapOf W))) (c:=Ql.c) (f:=cnSz) g4 Tryz.underlying64 (show Tryz.prog.cellsOf 63=2 by kernel_rfl) (by omega) (by omega) (fun m hm cs b hb hc=>Qrn m hb hc)
 exact ⟨⟨p0,x1,x2,l3,l4⟩,⟨psP p0,x1,x2,x3,x4⟩,(show [q0,q1,q2,q3,q4,q5]=[q0,q1]++([q2]++([q3]++([q4]++([q5])))) from rfl).trans (by rw [e0,e1,e2,e3,e4]; rfl),⟨rfl,rfl,⟨rfl,w2⟩,⟨r3,c3⟩,r4⟩,by show sL cnSz l4+l3.length+1≤B; rw [QnW] at s3; omega⟩
theorem QrU:∀ (n:Nat) {cs:List Value} {B:Nat},B≤1000000000→Tr Tryz.prog W B n 29 cs→∃ (v:RdP) (x:Qe),cs=Qe.c x∧RpIs (heapOf W) v x∧(fun v:RdP=>rdSz v.e) v≤B:=by
 intro n
 intro cs B hB h
 have hpos:=h.pos
 obtain ⟨hl,m,bs,rfl,hbl,hbs,hf⟩:=h.structS Tryz.underlying29
 rw [show Tryz.prog.cellsOf 29=6 by kernel_rfl] at hl
 match cs,hl,bs,hbl,hbs,hf with
 | [q0,q1,q2,q3,q4,q5],_,[y0,y1,y2,y3,y4],_,hbs,hf=>
 simp only [List.sum_cons,List.sum_nil] at hbs
 have g0:Tr Tryz.prog W y0 m 26 (([q0,q1,q2,q3,q4,q5].drop 0).take (Tryz.prog.cellsOf 26)):=hf 0 _ y0 rfl rfl
 rw [show Tryz.prog.cellsOf 26=2 by kernel_rfl] at g0
 replace g0:Tr Tryz.prog W y0 m 26 [q0,q1]:=g0
 obtain ⟨p0,e0⟩:=QnT g0
 have g1:Tr Tryz.prog W y1 m 4 (([q0,q1,q2,q3,q4,q5].drop 2).take (Tryz.prog.cellsOf 4)):=hf 1 _ y1 rfl rfl
 rw [show Tryz.prog.cellsOf 4=1 by kernel_rfl] at g1
 replace g1:Tr Tryz.prog W y1 m 4 [q2]:=g1
 obtain ⟨x1,e1⟩:=g1.bool Tryz.underlying4
 have g2:Tr Tryz.prog W y2 m 4 (([q0,q1,q2,q3,q4,q5].drop 3).take (Tryz.prog.cellsOf 4)):=hf 2 _ y2 rfl rfl
 rw [show Tryz.prog.cellsOf 4=1 by kernel_rfl] at g2
 replace g2:Tr Tryz.prog W y2 m 4 [q3]:=g2
 obtain ⟨x2,e2⟩:=g2.bool Tryz.underlying4
 have g3:Tr Tryz.prog W y3 m 9 (([q0,q1,q2,q3,q4,q5].drop 4).take (Tryz.prog.cellsOf 9)):=hf 3 _ y3 rfl rfl
 rw [show Tryz.prog.cellsOf 9=1 by kernel_rfl] at g3
 replace g3:Tr Tryz.prog W y3 m 9 [q4]:=g3
 obtain ⟨x3,e3,_,w3⟩:=g3.str Tryz.underlying9
 have w3:x3.length≤140737488355328:=by omega
 have g4:Tr Tryz.prog W y4 m 27 (([q0,q1,q2,q3,q4,q5].drop 5).take (Tryz.prog.cellsOf 27)):=hf 4 _ y4 rfl rfl
 rw [show Tryz.prog.cellsOf 27=1 by kernel_rfl] at g4
 replace g4:Tr Tryz.prog W y4 m 27 [q5]:=g4
 obtain ⟨x4,l4,e4,r4,c4,s4,_⟩:=QfQ (R:=(FdIs (heapOf W))) (c:=Qj.c) (f:=(fun f:FdV=>tySz f.t)) g4 Tryz.underlying27 (show Tryz.prog.cellsOf 31=3 by kernel_rfl) (by omega) (by omega) (fun m hm cs b hb hc=>QmZ m hb hc)
 exact ⟨⟨p0,x1,x2,x3,l4⟩,⟨psP p0,x1,x2,x3,x4⟩,(show [q0,q1,q2,q3,q4,q5]=[q0,q1]++([q2]++([q3]++([q4]++([q5])))) from rfl).trans (by rw [e0,e1,e2,e3,e4]; rfl),⟨rfl,rfl,rfl,⟨rfl,w3⟩,r4⟩,by show sL (fun f:FdV=>tySz f.t) l4+1≤B; omega⟩
theorem Qug:∀ (n:Nat) {cs:List Value} {B:Nat},B≤1000000000→Tr Tryz.prog W B n 45 cs→∃ (v:RuP) (x:Qk),cs=Qk.c x∧UpIs (heapOf W) v x∧(fun v:RuP=>ruSz v.e) v≤B:=by
 intro n
 intro cs B hB h
 have hpos:=h.pos
 obtain ⟨hl,m,bs,rfl,hbl,hbs,hf⟩:=h.structS Tryz.underlying45
 rw [show Tryz.prog.cellsOf 45=6 by kernel_rfl] at hl
 match cs,hl,bs,hbl,hbs,hf with
 | [q0,q1,q2,q3,q4,q5],_,[y0,y1,y2,y3,y4],_,hbs,hf=>
 simp only [List.sum_cons,List.sum_nil] at hbs
 have g0:Tr Tryz.prog W y0 m 26 (([q0,q1,q2,q3,q4,q5].drop 0).take (Tryz.prog.cellsOf 26)):=hf 0 _ y0 rfl rfl
 rw [show Tryz.prog.cellsOf 26=2 by kernel_rfl] at g0
 replace g0:Tr Tryz.prog W y0 m 26 [q0,q1]:=g0
 obtain ⟨p0,e0⟩:=QnT g0
 have g1:Tr Tryz.prog W y1 m 9 (([q0,q1,q2,q3,q4,q5].drop 2).take (Tryz.prog.cellsOf 9)):=hf 1 _ y1 rfl rfl
 rw [show Tryz.prog.cellsOf 9=1 by kernel_rfl] at g1
 replace g1:Tr Tryz.prog W y1 m 9 [q2]:=g1
 obtain ⟨x1,e1,_,w1⟩:=g1.str Tryz.underlying9
 have w1:x1.length≤140737488355328:=by omega
 have g2:Tr Tryz.prog W y2 m 33 (([q0,q1,q2,q3,q4,q5].drop 3).take (Tryz.prog.cellsOf 33)):=hf 2 _ y2 rfl rfl
 rw [show Tryz.prog.cellsOf 33=1 by kernel_rfl] at g2
 replace g2:Tr Tryz.prog W y2 m 33 [q3]:=g2
 obtain ⟨x2,l2,e2,r2,c2,s2,_⟩:=QfQ (R:=(EpIs (heapOf W))) (c:=Qb.c) (f:=(fun v:ExP=>exSz v.e)) g2 Tryz.underlying33 (show Tryz.prog.cellsOf 40=9 by kernel_rfl) (by omega) (by omega) (fun m hm cs b hb hc=>QrR m hb hc)
 have g3:Tr Tryz.prog W y3 m 43 (([q0,q1,q2,q3,q4,q5].drop 4).take (Tryz.prog.cellsOf 43)):=hf 3 _ y3 rfl rfl
 rw [show Tryz.prog.cellsOf 43=1 by kernel_rfl] at g3
 replace g3:Tr Tryz.prog W y3 m 43 [q4]:=g3
 obtain ⟨x3,l3,e3,r3,c3,s3,_⟩:=QfQ (R:=(fun (v:Str) (x:Str)=>Nm x v)) (c:=(fun x=>[sv x])) (f:=(fun _:Str=>1)) g3 Tryz.underlying43 (show Tryz.prog.cellsOf 9=1 by kernel_rfl) (by omega) (by omega) (fun m hm cs b hb hc=>by have h1:=hc.pos; obtain ⟨s,hs,_,hw⟩:=hc.str Tryz.underlying9; exact ⟨s,s,hs,⟨rfl,by omega⟩,h1⟩)
 have g4:Tr Tryz.prog W y4 m 42 (([q0,q1,q2,q3,q4,q5].drop 5).take (Tryz.prog.cellsOf 42)):=hf 4 _ y4 rfl rfl
 rw [show Tryz.prog.cellsOf 42=1 by kernel_rfl] at g4
 replace g4:Tr Tryz.prog W y4 m 42 [q5]:=g4
 obtain ⟨x4,l4,e4,r4,c4,s4,_⟩:=QfQ (R:=(LpIs (heapOf W))) (c:=Qi.c) (f:=(fun v:LiP=>liSz v.e)) g4 Tryz.underlying42 (show Tryz.prog.cellsOf 35=5 by kernel_rfl) (by omega) (by omega) (fun m hm cs b hb hc=>Qov m hb hc)
 exact ⟨⟨p0,x1,l2,l3,l4⟩,⟨psP p0,x1,x2,x3,x4⟩,(show [q0,q1,q2,q3,q4,q5]=[q0,q1]++([q2]++([q3]++([q4]++([q5])))) from rfl).trans (by rw [e0,e1,e2,e3,e4]; rfl),⟨rfl,⟨rfl,w1⟩,r2,r3,r4⟩,by show sL exSz (l2.map ExP.e)+sL liSz (l4.map LiP.e)+1≤B; rw [QkS,QkS]; omega⟩
theorem Qs4:∀ (n:Nat) {cs:List Value} {B:Nat},B≤1000000000→Tr Tryz.prog W B n 68 cs→∃ (v:NeP) (x:Qn),cs=Qn.c x∧NpIs (heapOf W) v x∧(fun v:NeP=>neSz v.e) v≤B:=by
 intro n
 intro cs B hB h
 have hpos:=h.pos
 obtain ⟨hl,m,bs,rfl,hbl,hbs,hf⟩:=h.structS Tryz.underlying68
 rw [show Tryz.prog.cellsOf 68=4 by kernel_rfl] at hl
 match cs,hl,bs,hbl,hbs,hf with
 | [q0,q1,q2,q3],_,[y0,y1,y2],_,hbs,hf=>
 simp only [List.sum_cons,List.sum_nil] at hbs
 have g0:Tr Tryz.prog W y0 m 26 (([q0,q1,q2,q3].drop 0).take (Tryz.prog.cellsOf 26)):=hf 0 _ y0 rfl rfl
 rw [show Tryz.prog.cellsOf 26=2 by kernel_rfl] at g0
 replace g0:Tr Tryz.prog W y0 m 26 [q0,q1]:=g0
 obtain ⟨p0,e0⟩:=QnT g0
 have g1:Tr Tryz.prog W y1 m 9 (([q0,q1,q2,q3].drop 2).take (Tryz.prog.cellsOf 9)):=hf 1 _ y1 rfl rfl
 rw [show Tryz.prog.cellsOf 9=1 by kernel_rfl] at g1
 replace g1:Tr Tryz.prog W y1 m 9 [q2]:=g1
 obtain ⟨x1,e1,_,w1⟩:=g1.str Tryz.underlying9
 have w1:x1.length≤140737488355328:=by omega
 have g2:Tr Tryz.prog W y2 m 42 (([q0,q1,q2,q3].drop 3).take (Tryz.prog.cellsOf 42)):=hf 2 _ y2 rfl rfl
 rw [show Tryz.prog.cellsOf 42=1 by kernel_rfl] at g2
 replace g2:Tr Tryz.prog W y2 m 42 [q3]:=g2
 obtain ⟨x2,l2,e2,r2,c2,s2,_⟩:=QfQ (R:=(LpIs (heapOf W))) (c:=Qi.c) (f:=(fun v:LiP=>liSz v.e)) g2 Tryz.underlying42 (show Tryz.prog.cellsOf 35=5 by kernel_rfl) (by omega) (by omega) (fun m hm cs b hb hc=>Qov m hb hc)
 exact ⟨⟨p0,x1,l2⟩,⟨psP p0,x1,x2⟩,(show [q0,q1,q2,q3]=[q0,q1]++([q2]++([q3])) from rfl).trans (by rw [e0,e1,e2]; rfl),⟨rfl,⟨rfl,w1⟩,r2⟩,by show sL liSz (l2.map LiP.e)+1≤B; rw [QkS]; omega⟩
theorem QrS:∀ (n:Nat) {cs:List Value} {B:Nat},B≤1000000000→Tr Tryz.prog W B n 48 cs→∃ (v:ImP) (x:Qp),cs=Qp.c x∧IpIs v x∧(fun _:ImP=>1) v≤B:=by
 intro n
 intro cs B hB h
 have hpos:=h.pos
 obtain ⟨hl,m,bs,rfl,hbl,hbs,hf⟩:=h.structS Tryz.underlying48
 rw [show Tryz.prog.cellsOf 48=3 by kernel_rfl] at hl
 match cs,hl,bs,hbl,hbs,hf with
 | [q0,q1,q2],_,[y0,y1],_,hbs,hf=>
 simp only [List.sum_cons,List.sum_nil] at hbs
 have g0:Tr Tryz.prog W y0 m 26 (([q0,q1,q2].drop 0).take (Tryz.prog.cellsOf 26)):=hf 0 _ y0 rfl rfl
 rw [show Tryz.prog.cellsOf 26=2 by kernel_rfl] at g0
 replace g0:Tr Tryz.prog W y0 m 26 [q0,q1]:=g0
 obtain ⟨p0,e0⟩:=QnT g0
 have g1:Tr Tryz.prog W y1 m 9 (([q0,q1,q2].drop 2).take (Tryz.prog.cellsOf 9)):=hf 1 _ y1 rfl rfl
 rw [show Tryz.prog.cellsOf 9=1 by kernel_rfl] at g1
 replace g1:Tr Tryz.prog W y1 m 9 [q2]:=g1
 obtain ⟨x1,e1,_,w1⟩:=g1.str Tryz.underlying9
 have w1:x1.length≤140737488355328:=by omega
 exact ⟨⟨p0,x1⟩,⟨psP p0,x1⟩,(show [q0,q1,q2]=[q0,q1]++([q2]) from rfl).trans (by rw [e0,e1]; rfl),⟨rfl,rfl,w1⟩,by omega⟩
theorem QrT:∀ (n:Nat) {cs:List Value} {B:Nat},B≤1000000000→Tr Tryz.prog W B n 55 cs→∃ (v:MoP) (x:Qa),cs=Qa.c x∧MpIs (heapOf W) v x∧(fun v:MoP=>moSz v.e) v≤B:=by
 intro n
 intro cs B hB h
 have hpos:=h.pos
 obtain ⟨hl,m,bs,rfl,hbl,hbs,hf⟩:=h.structS Tryz.underlying55
 rw [show Tryz.prog.cellsOf 55=6 by kernel_rfl] at hl
 match cs,hl,bs,hbl,hbs,hf with
 | [q0,q1,q2,q3,q4,q5],_,[y0,y1,y2,y3,y4,y5],_,hbs,hf=>
 simp only [List.sum_cons,List.sum_nil] at hbs
 have g0:Tr Tryz.prog W y0 m 9 (([q0,q1,q2,q3,q4,q5].drop 0).take (Tryz.prog.cellsOf 9)):=hf 0 _ y0 rfl rfl
 rw [show Tryz.prog.cellsOf 9=1 by kernel_rfl] at g0
 replace g0:Tr Tryz.prog W y0 m 9 [q0]:=g0
 obtain ⟨x0,e0,_,w0⟩:=g0.str Tryz.underlying9
 have w0:x0.length≤140737488355328:=by omega
 have g1:Tr Tryz.prog W y1 m 49 (([q0,q1,q2,q3,q4,q5].drop 1).take (Tryz.prog.cellsOf 49)):=hf 1 _ y1 rfl rfl
 rw [show Tryz.prog.cellsOf 49=1 by kernel_rfl] at g1
 replace g1:Tr Tryz.prog W y1 m 49 [q1]:=g1
 obtain ⟨x1,l1,e1,r1,c1,s1,_⟩:=QfQ (R:=(IpIs)) (c:=Qp.c) (f:=(fun _:ImP=>1)) g1 Tryz.underlying49 (show Tryz.prog.cellsOf 48=3 by kernel_rfl) (by omega) (by omega) (fun m hm cs b hb hc=>QrS m hb hc)
 have g2:Tr Tryz.prog W y2 m 51 (([q0,q1,q2,q3,q4,q5].drop 2).take (Tryz.prog.cellsOf 51)):=hf 2 _ y2 rfl rfl
 rw [show Tryz.prog.cellsOf 51=1 by kernel_rfl] at g2
 replace g2:Tr Tryz.prog W y2 m 51 [q2]:=g2
 obtain ⟨x2,l2,e2,r2,c2,s2,_⟩:=QfQ (R:=(TpIs (heapOf W))) (c:=Qd.c) (f:=(fun v:TdP=>tdSz v.e)) g2 Tryz.underlying51 (show Tryz.prog.cellsOf 66=6 by kernel_rfl) (by omega) (by omega) (fun m hm cs b hb hc=>Qro m hb hc)
 have g3:Tr Tryz.prog W y3 m 50 (([q0,q1,q2,q3,q4,q5].drop 3).take (Tryz.prog.cellsOf 50)):=hf 3 _ y3 rfl rfl
 rw [show Tryz.prog.cellsOf 50=1 by kernel_rfl] at g3
 replace g3:Tr Tryz.prog W y3 m 50 [q3]:=g3
 obtain ⟨x3,l3,e3,r3,c3,s3,_⟩:=QfQ (R:=(RpIs (heapOf W))) (c:=Qe.c) (f:=(fun v:RdP=>rdSz v.e)) g3 Tryz.underlying50 (show Tryz.prog.cellsOf 29=6 by kernel_rfl) (by omega) (by omega) (fun m hm cs b hb hc=>QrU m hb hc)
 have g4:Tr Tryz.prog W y4 m 52 (([q0,q1,q2,q3,q4,q5].drop 4).take (Tryz.prog.cellsOf 52)):=hf 4 _ y4 rfl rfl
 rw [show Tryz.prog.cellsOf 52=1 by kernel_rfl] at g4
 replace g4:Tr Tryz.prog W y4 m 52 [q4]:=g4
 obtain ⟨x4,l4,e4,r4,c4,s4,_⟩:=QfQ (R:=(UpIs (heapOf W))) (c:=Qk.c) (f:=(fun v:RuP=>ruSz v.e)) g4 Tryz.underlying52 (show Tryz.prog.cellsOf 45=6 by kernel_rfl) (by omega) (by omega) (fun m hm cs b hb hc=>Qug m hb hc)
 have g5:Tr Tryz.prog W y5 m 53 (([q0,q1,q2,q3,q4,q5].drop 5).take (Tryz.prog.cellsOf 53)):=hf 5 _ y5 rfl rfl
 rw [show Tryz.prog.cellsOf 53=1 by kernel_rfl] at g5
 replace g5:Tr Tryz.prog W y5 m 53 [q5]:=g5
 obtain ⟨x5,l5,e5,r5,c5,s5,_⟩:=QfQ (R:=(NpIs (heapOf W))) (c:=Qn.c) (f:=(fun v:NeP=>neSz v.e)) g5 Tryz.underlying53 (show Tryz.prog.cellsOf 68=4 by kernel_rfl) (by omega) (by omega) (fun m hm cs b hb hc=>Qs4 m hb hc)
 exact ⟨⟨x0,l1,l2,l3,l4,l5⟩,⟨x0,x1,x2,x3,x4,x5⟩,(show [q0,q1,q2,q3,q4,q5]=[q0]++([q1]++([q2]++([q3]++([q4]++([q5]))))) from rfl).trans (by rw [e0,e1,e2,e3,e4,e5]; rfl),⟨⟨rfl,w0⟩,⟨r1,c1⟩,r2,r3,r4,r5⟩,by show (l1.map ImP.n).length+sL tdSz (l2.map TdP.e)+sL rdSz (l3.map RdP.e)+sL ruSz (l4.map RuP.e)+sL neSz (l5.map NeP.e)≤B; rw [QkS,QkS,QkS,QkS,List.length_map]; rw [QnW] at s1; omega⟩
theorem Qs6 {H : Type} {enc : TypeId × Value → H} {base : Nat} {v : Value} {d : DataW H} {p : List MemPlace} (hv : Value.okWide Tryz.prog W .any base 55 v) (h : DataW.Trod enc Tryz.prog W 0 (fun _ => true) true 55 v d p) (hs : sizeD d ≤ 1048576) :
 ∃ (a:MoP) (x:Qa),v=.agg (Qa.c x).toArray∧MpIs (heapOf W) a x∧moSz a.e≤1048576:=by
 obtain ⟨cs,rfl,hl⟩:=WideShapes.okWide_struct Tryz.underlying55 hv
 obtain ⟨n,hn⟩:=Tr.of h
 obtain ⟨a,x,h1,h2,h3⟩:=QrT n (by omega) hn
 refine ⟨a,x,?_,h2,Nat.le_trans h3 hs⟩
 simp only [Value.cells] at h1
 rw [← h1]
end
end
section
open Go Go.Proofs
theorem Qm0 {C:Ctx} {H:Heap} (hT:MaxC C) (hFm:FmtC C) {a:MoP} {x:Qa} (ha:MpIs H a x∧moSz a.e≤1048576):Qbv C x (fun r _=>r=true) H:=Qn3 hT hFm ha.1 (Nat.le_trans ha.2 (by omega)) fun _=>rfl
end
end Sx
end
noncomputable section
set_option linter.unusedVariables false
namespace Go.Proofs.YtmeefnmaphmpkaaGreatDoor
open Sx
mutual
theorem QqJ {H:Type}:∀ (d:DataW H),sizeD d≤Rows.uptoBulk d
 | .lit l=>by cases l <;> simp [sizeD,Rows.uptoBulk]
 | .nil=>by simp [sizeD,Rows.uptoBulk]
 | .ptr d=>by have:=QqJ d; simp only [sizeD,Rows.uptoBulk]; omega
 | .slice e s=>by have:=Ql2 e; have:=Ql2 s; simp only [sizeD,Rows.uptoBulk]; omega
 | .agg p=>by have:=Ql2 p; simp only [sizeD,Rows.uptoBulk]; omega
 | .iface _ d=>by have:=QqJ d; simp only [sizeD,Rows.uptoBulk]; omega
 | .map _=>by simp [sizeD,Rows.uptoBulk]
 | .held _=>by simp [sizeD,Rows.uptoBulk]
theorem Ql2 {H:Type}:∀ (l:List (DataW H)),sizeDs l≤Rows.uptoBulkAll l
 | []=>by simp [sizeDs,Rows.uptoBulkAll]
 | d::r=>by have:=QqJ d; have:=Ql2 r; simp only [sizeDs,Rows.uptoBulkAll]; omega
end
theorem QtJ {H:Type} {ds:List (DataW H)} (hk:Rows.uptoSmall H ds=true) {d:DataW H} (hd:d ∈ ds):sizeD d≤1048576:=by
 have h:Rows.uptoBulkAll ds≤1048576:=of_decide_eq_true hk
 have h1:=Ql2 ds
 have h2:=Qkq hd
 omega
end Go.Proofs.YtmeefnmaphmpkaaGreatDoor
namespace Sx
open Go
end Sx
end

noncomputable section

end

