/-
  Texts of this family, one behind the other: TreeD7, TreeD8, TreeD9, TreeDa, TreeDb, ModR, TrRPrints, RowIPrints.
-/
import Derived.Test.YtnomkabppjlbfaaGreatDoorAU6
noncomputable section
set_option linter.unusedVariables false
set_option linter.unusedSimpArgs false
set_option maxRecDepth 10000
namespace Sx
section
open Go Go.Proofs
theorem lpT {g:Nat→Str} {N:Nat} {s0:Str} {H:Heap} {body:Str×Int→(Str×Int→Heap→Prop)→Heap→Prop} (hb:N≤140737488355328) (h0:s0=g 0)
 (step:∀ (i:Nat) (D:Heap) (J:Str×Int→Heap→Prop),H.le D→i≤N→(i < N→∀ D',H.le D'→J (g (i+1),w .i64 ((i:Int)+1)) D')→body (g i,(i:Int)) J D):lp (α:=Str×Int) (s0,0) H body:=by
 subst h0
 refine ⟨fun x D=>H.le D∧∃ i:Nat,x.2=(i:Int)∧i≤N∧x.1=g i,fun x _=>N - x.2.toNat,⟨Heap.le.refl _,0,rfl,Nat.zero_le _,rfl⟩,?_⟩
 rintro ⟨_,_⟩ D ⟨hD,i,rfl,hi,rfl⟩
 refine step i D _ hD hi fun hlt D' hD'=>?_
 rw [Q0 (by omega) (by omega)]
 exact ⟨⟨hD',i+1,rfl,by omega,rfl⟩,by first | omega | (dsimp only; omega)⟩
theorem jsep {R:Str→Heap→Prop} {s sep:Str} {i:Nat} {D:Heap} (hl:s.length+sep.length≤140737488355328) (k:R (s++(if i=0 then [] else sep)) D):jn (α:=Str) R (fun J9=>ift (decide (((i:Nat):Int) > 0)) (catOk s sep∧J9 (s++sep) D) (J9 s D)):=by
 refine jS (s++(if i=0 then [] else sep)) D (ift.of (fun h=>⟨by unfold catOk; omega,rfl,?_⟩) (fun h=>⟨rfl,?_⟩)) k
 ·rw [if_neg (by have:=of_decide_eq_true h; omega)]
 ·rw [if_pos (by have:=of_decide_eq_false h; omega),List.append_nil]
section
variable {C:Ctx} {H A:Heap}
theorem Qq7:∀ (v:TyV) {x:Qe} {H:Heap} {K:Str→Heap→Prop},TyIs A v x→A.le H→(tyT v).length≤140737488355328→K (tyT v) H→Qba C x K H:=by
 refine TyV.rec_ fun v ih x H K hx hA hl k=>?_
 obtain ⟨en,hs⟩:=Qc2.1 hx
 apply Qba.gh
 apply QmX
 unfold Qiy
 rw [Qt3] at hl k
 simp only [List.length_append] at hl
 have hlen:=hs.len
 have hj:(jo [44,32] tyT 0 v.a).length≤140737488355326:=by
  by_cases h0:v.n=tupS∨0 < v.a.length
  ·rw [if_pos h0] at hl; simp only [List.length_append,List.length_cons,List.length_nil] at hl; omega
  ·have : v.a = [] := List.length_eq_zero_iff.1 (by omega)
   rw [this]; simp [jo]
 refine box1 fun b1 H2 hle h1=>?_
 refine lpT (g:=fun i=>jo [44,32] tyT 0 (v.a.take i)) (N:=v.a.length) hs.bd (by simp [jo]) fun i D J hD hi hJ=>fL (hD _ _ h1) rfl ?_
 have hAD:=(hA.trans hle).trans hD
 dsimp only
 rw [hlen]
 refine ift.of (fun h=>?_) (fun h=>?_)
 ·have hlt : i < v.a.length := by have := of_decide_eq_true h; omega
  have hp:=Qhf (sep:=[44,32]) (f:=tyT) v.a (i+1)
  rw [QfQ hlt] at hp
  simp only [List.length_append] at hp
  have hp0:=Qhf (sep:=[44,32]) (f:=tyT) v.a i
  refine jsep (by simp only [List.length_cons,List.length_nil]; omega) (fL (hD _ _ h1) rfl (SlIs.ld hs hAD QgB (by omega) rfl hlt fun y hy=>?_))
  refine ih _ (List.getElem_mem hlt) hy hAD (by omega) ⟨by unfold catOk; simp only [List.length_append]; omega,?_⟩
  have:=hJ hlt D hD
  rw [QfQ hlt,← List.append_assoc] at this
  exact this
 have hie:i=v.a.length:=by have:=of_decide_eq_false h; omega
 subst hie
 rw [List.take_length]
 refine fS (hD _ _ h1) rfl ?_
 rw [en.1]
 have hg:=Gh.le (C:=C) (hle.trans hD)
 refine ift.of (fun h=>?_) (fun h=>fL (hD _ _ h1) rfl ?_)
 ·have ht:v.n=tupS:=beq_iff_eq.1 h
  rw [if_pos ht,if_pos (.inl ht)] at k
  exact ⟨by simp [catOk]; omega,by simp [catOk]; omega,H,hg,by simpa using k⟩
 ·have ht : ¬ v.n = tupS := fun e => by rw [e] at h; exact absurd h (by decide)
  rw [if_neg ht] at k hl
  rw [hlen]
  have hnl:=en.2
  refine ift.of (fun h=>fS (hD _ _ h1) rfl ?_) (fun h=>fS (hD _ _ h1) rfl ?_)
  ·have h0 : v.a.length = 0 := by
    have:((v.a.length:Nat):Int)=0:=by simpa using h
    omega
   rw [if_neg (by rintro (e | e); exact ht e; omega),List.append_nil] at k
   rw [en.1]; exact ⟨H,hg,k⟩
  ·have h0 : 0 < v.a.length := by
    rcases Nat.eq_zero_or_pos v.a.length with e | e
    ·rw [e] at h; cases h
    ·exact e
   rw [if_pos (.inr h0)] at k
   rw [en.1]
   exact ⟨by simp [catOk]; omega,by simp [catOk]; omega,by simp [catOk]; omega,H,hg,by simpa using k⟩
/-- an expression's text, by the document -/
def ET (C:Ctx) (A:Heap) (w:ExV):Prop:=∀ {H:Heap} {x:Qa} {K:Str→Heap→Prop},ExIs A w x→A.le H→(exT w).length≤140737488355328→K (exT w) H→QD C x K H
theorem Qmc {l:List ExV} {s:Sl} {K:Str→Heap→Prop} (hs:ExL A s l) (he:∀ w ∈ l,ET C A w) (hA:A.le H) (hl:(exsT cm 0 l).length≤140737488355326) (k:K (exsT cm 0 l) H):Qby C s K H:=by
 apply Qby.gh
 apply Qo5
 unfold Qll
 rw [QvV] at hl k
 refine lpT (g:=fun i=>jo [44,32] exT 0 (l.take i)) (N:=l.length) hs.bd (by simp [jo]) fun i D J hD hi hJ=>?_
 have hAD:=hA.trans hD
 dsimp only
 rw [hs.len]
 refine ift.of (fun h=>?_) (fun h=>?_)
 ·have hlt : i < l.length := by have := of_decide_eq_true h; omega
  have hp:=Qhf (sep:=[44,32]) (f:=exT) l (i+1)
  rw [QfQ hlt] at hp
  simp only [List.length_append] at hp
  have hp0:=Qhf (sep:=[44,32]) (f:=exT) l i
  refine jsep (by simp only [List.length_cons,List.length_nil]; omega) (SlIs.ld hs hAD QN (by omega) rfl hlt fun y hy=>?_)
  refine he _ (List.getElem_mem hlt) hy hAD (by omega) ⟨by unfold catOk; simp only [List.length_append]; omega,?_⟩
  have:=hJ hlt D hD
  rw [QfQ hlt,← List.append_assoc] at this
  exact this
 ·have hie : i = l.length := by have := of_decide_eq_false h; omega
  subst hie
  rw [List.take_length]
  exact ⟨H,Gh.le hD,k⟩
theorem Qul {v:V} {x:TV} {K:Str→Heap→Prop} (hv:VIs H v x) (hB:VB v) (hm:litV v=true) (k:K (showV v) H):Qd2 C x K H:=by
 have hlen:=Qtv hB hm
 unfold litV at hm
 simp only [Bool.and_eq_true,decide_eq_true_eq] at hm
 have hl:=litL hm.1 ((Qqw v).1 hm.2).2.1
 apply Qd2.gh
 apply Qp5
 unfold Qmz
 refine box1 fun b1 H2 hle h1=>bxT h1 (dCheckV (hv.le hle) hB hm.1 fun r hr=>?_)
 rw [hr.2 hm.2]
 refine Qcw rfl (bxT h1 ?_)
 apply Qe0.gh
 apply Qp8
 unfold QmC
 obtain ⟨vk,vn,vs,vl⟩:=Qew.1 hv
 rw [QqF] at k hlen
 have hn:=hB.n
 refine box1 fun b2 H3 hle2 h2=>fI h2 rfl ?_
 rw [vk]
 have g2:=Gh.le (C:=C) hle2
 have g1:=Gh.le (C:=C) hle
 refine ift.of (fun h=>fI h2 rfl ?_) (fun n1=>?_)
 ·rw [if_pos (by simpa using h)] at k
  rw [vn]
  refine ift.of (fun h=>?_) (fun h=>?_)
  ·rw [if_pos (by simpa using h)] at k; exact ⟨H2,g2,H,g1,k⟩
  ·rw [if_neg (by simpa using h)] at k; exact ⟨H2,g2,H,g1,k⟩
 rw [if_neg (by simpa using n1)] at k hlen
 refine ift.of (fun h=>fI h2 rfl ?_) (fun n2=>?_)
 ·rw [if_pos (by simpa using h)] at k
  rw [vn]; exact Qvq hn.1 hn.2 ⟨H2,g2,H,g1,k⟩
 rw [if_neg (by simpa using n2)] at k hlen
 refine ift.of (fun h=>fS h2 rfl ?_) (fun n3=>?_)
 ·rw [if_pos (by simpa using h)] at k hlen
  rw [vs]
  simp only [List.length_append,List.length_cons,List.length_nil] at hlen
  exact ⟨by simp [catOk]; omega,H2,g2,H,g1,k⟩
 rw [if_neg (by simpa using n3)] at k hlen
 have h4:v.k=4:=by
  have a1:v.k≠1:=by simpa using n1
  have a2:v.k≠2:=by simpa using n2
  have a3:v.k≠3:=by simpa using n3
  omega
 rw [if_pos h4] at k hlen
 refine Qcc (by rw [h4]; rfl) (fS h2 rfl ?_)
 rw [vs]
 exact Qtc (by omega) ⟨H2,g2,H,g1,k⟩
end
end
section
open Go Go.Proofs
theorem Qvu {l:List ExV} {sep:Nat→Str} (hs:sep 0=[]) (h:l.length=2) (h0:0 < l.length) (h1:1 < l.length):exsT sep 0 l=exT l[0]++(sep 1++exT l[1]):=by
 match l,h with
 | [v,w],_=>simp [exsT,hs]
theorem Qtn {l:List ExV} {sep:Nat→Str} (h:l.length=3) (h0:0 < l.length) (h1:1 < l.length) (h2:2 < l.length):exsT sep 0 l=sep 0++(exT l[0]++(sep 1++(exT l[1]++(sep 2++exT l[2])))):=by
 match l,h with
 | [u,v,w],_=>simp [exsT]
theorem Qs4 {n:Str} (h:0 < arS n):(funB n=true∧arS n=1)∨(funB n=false∧n=notS∧arS n=1)∨(funB n=false∧n≠notS∧arS n=2):=by
 have hno:∀ w ∈ opsW,funB w=false∧w≠notS:=by decide
 unfold arS at h ⊢
 by_cases hc:opsW.contains n=true
 ·rw [if_pos hc]
  have:=hno n (List.contains_iff_mem.1 hc)
  exact .inr (.inr ⟨this.1,this.2,rfl⟩)
 ·rw [if_neg hc] at h ⊢
  by_cases h2:n=notS∨funB n=true
  ·rw [if_pos h2]
   cases hf:funB n with
   | true=>exact .inl ⟨rfl,rfl⟩
   | false=>exact .inr (.inl ⟨rfl,h2.resolve_right (by rw [hf]; decide),rfl⟩)
  ·rw [if_neg h2] at h; omega
section
variable {C:Ctx} {H A:Heap}
theorem Qq4:∀ (v:ExV),(∃ p,exOk p v=true)→ET C A v:=by
 refine ExV.rec_ fun v ih ⟨p,hok⟩ H x K hx hA hl k=>?_
 have he:∀ w ∈ v.a,ET C A w:=fun w hw=>ih w hw ⟨p,Qqr hok w hw⟩
 obtain ⟨ek,en,hv,hB,hs⟩:=Qay.1 hx
 have hlen:=hs.len
 have hnl:=en.2
 apply QD.gh
 apply QmU
 unfold Qiv
 refine box1 fun b1 H2 hle h1=>fI h1 rfl ?_
 have hA2:=hA.trans hle
 have hg:=Gh.le (C:=C) hle
 rw [ek]
 rw [Qm7] at hok
 refine ift.of (fun h=>?_) (fun n1=>?_)
 ·have hk : v.k = 1 := by simpa using h
  rw [if_pos hk] at hok
  simp only [Bool.and_eq_true] at hok
  rw [exE1 hk] at k
  exact fT h1 QsN (Qul (hv.le hA2) hB hok.1.1 ⟨H,hg,k⟩)
 have n1:v.k≠1:=by simpa using n1
 rw [if_neg n1,Bool.and_eq_true,Bool.and_eq_true] at hok
 have hN:=hok.1.1
 refine ift.of (fun h=>fS h1 rfl ?_) (fun n2=>?_)
 ·have hk : v.k = 2 := by simpa using h
  rw [exE2 hk] at k
  rw [en.1]; exact ⟨H,hg,k⟩
 refine ift.of (fun h=>?_) (fun n3=>?_)
 ·have hk : v.k = 3 := by simpa using h
  rw [exE3 hk] at k
  exact ⟨H,hg,k⟩
 refine ift.of (fun h=>fL h1 rfl ?_) (fun n4=>?_)
 ·have hk : v.k = 4 := by simpa using h
  rw [exE4 hk] at k hl
  simp only [List.length_append,List.length_cons,List.length_nil] at hl
  exact Qmc hs he hA2 (by omega) ⟨by simp [catOk]; omega,by simp [catOk]; omega,H,hg,by simpa using k⟩
 refine ift.of (fun h=>fL h1 rfl ?_) (fun n5=>?_)
 ·have hk : v.k = 5 := by simpa using h
  rw [exE5 hk] at k hl
  rw [hlen]
  refine ift.of (fun h=>fS h1 rfl ?_) (fun h=>⟨H2,Heap.le.refl _,fS h1 rfl ?_⟩)
  ·have h0 : v.a.length = 0 := by
    have:((v.a.length:Nat):Int)=0:=by simpa using h
    omega
   rw [if_pos h0,List.append_nil] at k
   rw [en.1]; exact ⟨H,hg,k⟩
  ·have h0 : ¬ v.a.length = 0 := fun e => by rw [e] at h; cases h
   rw [if_neg h0] at k hl
   simp only [List.length_append,List.length_cons,List.length_nil] at hl
   rw [en.1]
   refine ⟨by simp [catOk]; omega,fL h1 rfl (Qmc hs he hA2 (by omega) ⟨Heap.le.refl _,by simp [catOk]; omega,by simp [catOk]; omega,H,hg,by simpa using k⟩)⟩
 refine ift.of (fun h=>fL h1 rfl ?_) (fun n7=>?_)
 ·have hk : v.k = 7 := by simpa using h
  rw [hk,exN7] at hN
  simp only [Bool.and_eq_true,decide_eq_true_eq] at hN
  have hl1:=hN.2
  have h0:0 < v.a.length:=by omega
  rw [exE7 hk,Qj2 rfl hl1 h0] at k hl
  refine SlIs.ld hs hA2 QN (by omega) (i:=0) rfl h0 fun y hy=>?_
  obtain ⟨yk,yn,_⟩:=Qay.1 hy
  have hbk:brkE v.a=decide (v.a[0].k=1∨v.a[0].k=5∨(v.a[0].k=6∧funB v.a[0].n=true)):=by
   generalize v.a=l at *
   cases l with
   | nil=>simp at h0
   | cons w l=>rfl
  intro b12 n12
  refine nwT rfl ?_
  have l12:=Heap.le_put n12 (g:=.row (Qa.c y)) (m:=true)
  have c12:(H2.put b12 (.row (Qa.c y))) b12=some (true,.row (Qa.c y)):=Heap.put_same ..
  generalize H2.put b12 (.row (Qa.c y))=D2 at *
  have h1':=l12 _ _ h1
  have hA3:=hA2.trans l12
  have hg3:=Gh.le (C:=C) (hle.trans l12)
  refine fI c12 rfl ?_
  rw [yk]
  refine jp (P:=v.a[0].k=1∨v.a[0].k=5) D2 (ift.of (fun h=>⟨rfl,fun _=>.inl (by simpa using h),fun _=>rfl⟩) (fun h=>fI c12 rfl ⟨rfl,?_⟩)) fun b1 hb1=>?_
  ·rw [yk]
   constructor
   ·intro h'; exact .inr (by simpa using h')
   ·rintro (e | e)
    ·rw [e] at h; cases h
    ·rw [e]; rfl
  refine jp (P:=v.a[0].k=1∨v.a[0].k=5∨(v.a[0].k=6∧funB v.a[0].n=true)) D2 (ift.of (fun h=>⟨rfl,fun _=>(hb1.1 h).elim .inl fun e=>.inr (.inl e),fun _=>rfl⟩) (fun h=>fI c12 rfl ?_)) fun b2 hb2=>?_
  ·rw [yk]
   have hno:¬ (v.a[0].k=1∨v.a[0].k=5):=fun p=>by rw [hb1.2 p] at h; cases h
   refine ja (funB v.a[0].n) D2 (fun _=>fS c12 rfl ?_) ⟨rfl,?_⟩
   ·rw [yn.1]; exact Qj1 ⟨rfl,rfl⟩
   ·rw [Bool.and_eq_true]
    constructor
    ·rintro ⟨a1,a2⟩; exact .inr (.inr ⟨by simpa using a1,a2⟩)
    ·rintro (e | e | ⟨e1,e2⟩)
     ·exact absurd (.inl e) hno
     ·exact absurd (.inr e) hno
     ·exact ⟨by rw [e1]; rfl,e2⟩
  refine ift.of (fun h=>⟨D2,Heap.le.refl _,bxT c12 (fS h1' rfl ?_)⟩) (fun h=>⟨D2,Heap.le.refl _,bxT c12 (fS h1' rfl ?_)⟩)
  ·have hp : brkE v.a = true := by rw [hbk]; exact decide_eq_true (hb2.1 h)
   rw [if_pos hp] at hl k
   simp only [List.length_append,List.length_cons,List.length_nil] at hl
   rw [en.1]
   refine he _ (List.getElem_mem h0) hy hA3 (by omega) ⟨Heap.le.refl _,by simp [catOk]; omega,by simp [catOk]; omega,by simp [catOk]; omega,H,hg3,by simpa using k⟩
  ·have hp : ¬ brkE v.a = true := fun p => by rw [hbk] at p; rw [hb2.2 (of_decide_eq_true p)] at h; cases h
   rw [if_neg hp] at hl k
   simp only [List.length_append,List.length_cons,List.length_nil] at hl
   rw [en.1]
   refine he _ (List.getElem_mem h0) hy hA3 (by omega) ⟨Heap.le.refl _,by simp [catOk]; omega,by simp [catOk]; omega,H,hg3,by simpa using k⟩
 refine ift.of (fun h=>⟨H2,Heap.le.refl _,fL h1 rfl ?_⟩) (fun n8=>fS h1 rfl ?_)
 ·have hk : v.k = 8 := by simpa using h
  rw [hk,exN8] at hN
  simp only [Bool.and_eq_true,decide_eq_true_eq] at hN
  have hl3:=hN.2
  have q0:0 < v.a.length:=by omega
  have q1:1 < v.a.length:=by omega
  have q2:2 < v.a.length:=by omega
  rw [exE8 hk,Qtn hl3 q0 q1 q2] at k hl
  simp only [ifSep,List.length_append,List.length_cons,List.length_nil] at hl
  refine SlIs.ld hs hA2 QN (by omega) (i:=0) rfl q0 fun y0 hy0=>fL h1 rfl (SlIs.ld hs hA2 QN (by omega) (i:=1) rfl q1 fun y1 hy1=>fL h1 rfl (SlIs.ld hs hA2 QN (by omega) (i:=2) rfl q2 fun y2 hy2=>?_))
  refine he _ (List.getElem_mem q0) hy0 hA2 (by omega) ⟨Heap.le.refl _,by simp [catOk]; omega,by simp [catOk]; omega,?_⟩
  refine he _ (List.getElem_mem q1) hy1 hA2 (by omega) ⟨Heap.le.refl _,by simp [catOk]; omega,by simp [catOk]; omega,?_⟩
  refine he _ (List.getElem_mem q2) hy2 hA2 (by omega) ⟨Heap.le.refl _,by simp [catOk]; omega,by simp [catOk]; omega,H,hg,?_⟩
  simpa [ifSep] using k
 have hk:v.k=6:=by
  have m2:v.k≠2:=by simpa using n2
  have m3:v.k≠3:=by simpa using n3
  have m4:v.k≠4:=by simpa using n4
  have m5:v.k≠5:=by simpa using n5
  have m7:v.k≠7:=by simpa using n7
  have m8:v.k≠8:=by simpa using n8
  rcases QrS n1 hN with e | e | e | e | e | e | e <;> first | exact e | exact absurd e ‹_›
 rw [hk,exN6] at hN
 simp only [Bool.and_eq_true,decide_eq_true_eq] at hN
 have har:=hN.2
 rw [exE6 hk] at k hl
 rw [en.1]
 refine Qj1 ?_
 rcases Qs4 hN.1.2 with ⟨hf,ha⟩ | ⟨hf,hnn,ha⟩ | ⟨hf,hnn,ha⟩
 ·have hl1 : v.a.length = 1 := by omega
  have q0:0 < v.a.length:=by omega
  rw [if_pos hf,Qj2 rfl hl1 q0] at k hl
  simp only [List.length_append,List.length_cons,List.length_nil] at hl
  rw [hf]
  refine Qcc rfl ⟨H2,Heap.le.refl _,fS h1 rfl ?_⟩
  rw [en.1]
  refine ⟨by simp [catOk]; omega,fL h1 rfl (SlIs.ld hs hA2 QN (by omega) (i:=0) rfl q0 fun y0 hy0=>?_)⟩
  exact he _ (List.getElem_mem q0) hy0 hA2 (by omega) ⟨Heap.le.refl _,by simp [catOk]; omega,by simp [catOk]; omega,H,hg,by simpa using k⟩
 ·have hl1 : v.a.length = 1 := by omega
  have q0:0 < v.a.length:=by omega
  rw [if_neg (by rw [hf]; decide),if_pos hl1,Qj2 rfl hl1 q0,hnn] at k hl
  simp only [notS,List.length_append,List.length_cons,List.length_nil] at hl
  rw [hf]
  refine Qcw rfl (fS h1 rfl ?_)
  rw [en.1,hnn]
  refine Qcc rfl (fL h1 rfl (SlIs.ld hs hA2 QN (by omega) (i:=0) rfl q0 fun y0 hy0=>?_))
  refine he _ (List.getElem_mem q0) hy0 hA2 (by omega) ⟨by simp [catOk]; omega,by simp [catOk]; omega,H,hg,by simpa [notS] using k⟩
 ·have hl2 : v.a.length = 2 := by omega
  have q0:0 < v.a.length:=by omega
  have q1:1 < v.a.length:=by omega
  rw [if_neg (by rw [hf]; decide),if_neg (by omega),Qvu rfl hl2 q0 q1] at k hl
  simp only [opSep,List.length_append,List.length_cons,List.length_nil] at hl
  rw [hf]
  refine Qcw rfl (fS h1 rfl ?_)
  rw [en.1]
  refine Qcw (by rw [beq_eq_false_iff_ne]; exact hnn) ⟨H2,Heap.le.refl _,fL h1 rfl (SlIs.ld hs hA2 QN (by omega) (i:=0) rfl q0 fun y0 hy0=>fS h1 rfl (fL h1 rfl (SlIs.ld hs hA2 QN (by omega) (i:=1) rfl q1 fun y1 hy1=>?_)))⟩
  rw [en.1]
  refine he _ (List.getElem_mem q0) hy0 hA2 (by omega) ⟨Heap.le.refl _,by simp [catOk]; omega,by simp [catOk]; omega,by simp [catOk]; omega,by simp [catOk]; omega,?_⟩
  refine he _ (List.getElem_mem q1) hy1 hA2 (by omega) ⟨Heap.le.refl _,by simp [catOk]; omega,by simp [catOk]; omega,H,hg,by simpa [opSep] using k⟩
end
end
section
open Go Go.Proofs
section
variable {C:Ctx} {H A:Heap}
theorem ets {p:Bool} {l:List ExV} (h:exsOk p l=true):∀ w ∈ l,ET C A w:=fun w hw=>by
 rw [Qdl] at h
 exact Qq4 w ⟨p,List.all_eq_true.1 h w hw⟩
theorem Qni {l:List LiV} {s:Sl} {K:Str→Heap→Prop} (hok:l.all liOk=true) (hs:LiL A s l) (hA:A.le H) (hl:(boT l).length≤140737488355320) (k:K (boT l) H):Qa9 C s K H:=by
 apply Qa9.gh
 apply QmT
 unfold Qiu
 unfold boT at hl k
 refine lpT (g:=fun i=>jo [44,32] liT 0 (l.take i)) (N:=l.length) hs.bd (by simp [jo]) fun i D J hD hi hJ=>?_
 have hAD:=hA.trans hD
 dsimp only
 rw [hs.len]
 refine ift.of (fun h=>?_) (fun h=>?_)
 ·have hlt : i < l.length := by have := of_decide_eq_true h; omega
  have hp:=Qhf (sep:=[44,32]) (f:=liT) l (i+1)
  have hlo:=List.all_eq_true.1 hok _ (List.getElem_mem hlt)
  have hst:=QfQ (sep:=[44,32]) (f:=liT) hlt
  rw [hst] at hp
  simp only [List.length_append] at hp
  have hp0:=Qhf (sep:=[44,32]) (f:=liT) l i
  replace hp0:=Nat.le_trans hp0 hl
  replace hp:=Nat.le_trans hp hl
  clear hl
  have hJ':=hJ hlt
  rw [hst] at hJ'
  generalize jo [44,32] liT 0 (l.take i)=g at *
  refine ⟨fun t E=>H.le E∧t=g++((if i=0 then [] else [44,32])++liT l[i]),?_,fun t E ⟨hE,ht⟩=>by rw [ht]; exact hJ' E hE⟩
  refine jsep (by simp only [List.length_cons,List.length_nil]; omega) (SlIs.ld hs hAD Qcx (by omega) rfl hlt fun x hx=>?_)
  rw [← List.append_assoc]
  rw [← Nat.add_assoc,← List.length_append] at hp
  generalize g++(if i=0 then [] else [44,32])=g2 at *
  obtain ⟨ek,en,ha⟩:=hx
  intro b12 n12
  refine nwT rfl ?_
  have l12:=Heap.le_put n12 (g:=.row (Qc.c x)) (m:=true)
  have c12:(D.put b12 (.row (Qc.c x))) b12=some (true,.row (Qc.c x)):=Heap.put_same ..
  generalize D.put b12 (.row (Qc.c x))=D2 at *
  have hA2:=hAD.trans l12
  have hD2:=hD.trans l12
  generalize l[i]=v at *
  have hnl:=en.2
  refine fI c12 rfl ?_
  rw [ek]
  unfold liOk at hlo
  unfold liT at hp ⊢
  refine ift.of (fun h=>⟨D2,Heap.le.refl _,fS c12 rfl ?_⟩) (fun n1=>?_)
  ·have hk : v.k = 1 := by simpa using h
   rw [if_pos (.inl hk)] at hlo
   simp only [Bool.and_eq_true] at hlo
   rw [if_pos hk] at hp ⊢
   simp only [List.length_append,List.length_cons,List.length_nil] at hp
   rw [en.1]
   exact ⟨by simp [catOk]; omega,by simp [catOk]; omega,fL c12 rfl (Qmc ha (ets hlo.2) hA2 (by omega) ⟨Heap.le.refl _,by simp [catOk]; omega,by simp [catOk]; omega,hD2,by simp⟩)⟩
  have n1:v.k≠1:=by simpa using n1
  rw [if_neg n1] at hp ⊢
  refine ift.of (fun h=>⟨D2,Heap.le.refl _,?_⟩) (fun n2=>?_)
  ·have hk : v.k = 2 := by simpa using h
   rw [if_pos (.inr hk)] at hlo
   simp only [Bool.and_eq_true] at hlo
   rw [if_pos hk] at hp ⊢
   simp only [List.length_append,List.length_cons,List.length_nil] at hp
   refine ⟨by simp [catOk]; omega,fS c12 rfl ?_⟩
   rw [en.1]
   exact ⟨by simp [catOk]; omega,by simp [catOk]; omega,fL c12 rfl (Qmc ha (ets hlo.2) hA2 (by omega) ⟨Heap.le.refl _,by simp [catOk]; omega,by simp [catOk]; omega,hD2,by simp⟩)⟩
  have n2:v.k≠2:=by simpa using n2
  rw [if_neg n2] at hp ⊢
  rw [if_neg (fun h=>h.elim n1 n2)] at hlo
  have q1:v.a.length=1:=by
   by_cases h3:v.k=3
   ·rw [if_pos h3] at hlo; simp only [Bool.and_eq_true,decide_eq_true_eq] at hlo; exact hlo.1.2
   ·rw [if_neg h3] at hlo
    by_cases h4:v.k=4
    ·rw [if_pos h4] at hlo; simp only [Bool.and_eq_true,decide_eq_true_eq] at hlo; exact hlo.1.2
    ·rw [if_neg h4] at hlo; cases hlo
  have q2:exsOk false v.a=true:=by
   by_cases h3:v.k=3
   ·rw [if_pos h3] at hlo; simp only [Bool.and_eq_true,decide_eq_true_eq] at hlo; exact hlo.2
   ·rw [if_neg h3] at hlo
    by_cases h4:v.k=4
    ·rw [if_pos h4] at hlo; simp only [Bool.and_eq_true,decide_eq_true_eq] at hlo; exact hlo.2
    ·rw [if_neg h4] at hlo; cases hlo
  have q0:0 < v.a.length:=by omega
  rw [Qj2 rfl q1 q0] at hp ⊢
  refine ift.of (fun h=>⟨D2,Heap.le.refl _,fS c12 rfl ?_⟩) (fun n4=>fL c12 rfl ?_)
  ·have hk : v.k = 4 := by simpa using h
   rw [if_pos hk] at hp ⊢
   simp only [List.length_append,List.length_cons,List.length_nil] at hp
   rw [en.1]
   refine ⟨by simp [catOk]; omega,by simp [catOk]; omega,fL c12 rfl (SlIs.ld ha hA2 QN (by omega) (i:=0) rfl q0 fun y hy=>?_)⟩
   exact ets q2 _ (List.getElem_mem q0) hy hA2 (by omega) ⟨Heap.le.refl _,by simp [catOk]; omega,hD2,by simp⟩
  have n4:v.k≠4:=by simpa using n4
  rw [if_neg n4] at hp ⊢
  have hbk:isMk v.a=decide (v.a[0].k=5):=by
   generalize v.a=l at *
   cases l with
   | nil=>simp at q0
   | cons w l=>rfl
  refine SlIs.fI ha hA2 QN (by omega) (i:=0) (j:=0) rfl q0 (f:=fun y=>y.Kind) (fun _=>rfl) fun y hy=>?_
  rw [(Qay.1 hy).1]
  refine ift.of (fun h=>?_) (fun h=>fL c12 rfl (SlIs.ld ha hA2 QN (by omega) (i:=0) rfl q0 fun y hy=>?_))
  ·have hpk : isMk v.a = true := by rw [hbk]; exact decide_eq_true (by simpa using h)
   rw [if_pos hpk] at hp ⊢
   simp only [List.length_append,List.length_cons,List.length_nil] at hp
   refine ⟨by simp [catOk]; omega,fL c12 rfl (SlIs.ld ha hA2 QN (by omega) (i:=0) rfl q0 fun y hy=>?_)⟩
   exact ets q2 _ (List.getElem_mem q0) hy hA2 (by omega) ⟨by simp [catOk]; omega,by simp [catOk]; omega,hD2,by simp⟩
  ·have hpk : ¬ isMk v.a = true := fun p => by rw [hbk] at p; rw [of_decide_eq_true p] at h; cases h
   rw [if_neg hpk] at hp ⊢
   exact ets q2 _ (List.getElem_mem q0) hy hA2 (by omega) ⟨by simp [catOk]; omega,hD2,rfl⟩
 ·have hie : i = l.length := by have := of_decide_eq_false h; omega
  subst hie
  rw [List.take_length]
  exact ⟨H,Gh.le hD,k⟩
theorem QkV {l:List FdV} {s:Sl} {K:Str→Heap→Prop} (hs:FdL A s l) (hA:A.le H) (hl:(fdsT l).length≤140737488355320) (k:K (fdsT l) H):Qau C s K H:=by
 apply Qau.gh
 apply QlI
 unfold QgX
 unfold fdsT at hl k
 refine lpT (g:=fun i=>jo [44,32] fdT 0 (l.take i)) (N:=l.length) hs.bd (by simp [jo]) fun i D J hD hi hJ=>?_
 have hAD:=hA.trans hD
 dsimp only
 rw [hs.len]
 refine ift.of (fun h=>?_) (fun h=>?_)
 ·have hlt : i < l.length := by have := of_decide_eq_true h; omega
  have hp:=Qhf (sep:=[44,32]) (f:=fdT) l (i+1)
  have hst:=QfQ (sep:=[44,32]) (f:=fdT) hlt
  rw [hst] at hp
  simp only [List.length_append] at hp
  have hp0:=Qhf (sep:=[44,32]) (f:=fdT) l i
  replace hp0:=Nat.le_trans hp0 hl
  replace hp:=Nat.le_trans hp hl
  clear hl
  have hJ':=hJ hlt D hD
  rw [hst,← List.append_assoc] at hJ'
  generalize jo [44,32] fdT 0 (l.take i)=g at *
  refine jsep (by simp only [List.length_cons,List.length_nil]; omega) ?_
  rw [← Nat.add_assoc,← List.length_append] at hp
  generalize g++(if i=0 then [] else [44,32])=g2 at *
  unfold fdT at hp hJ'
  simp only [List.length_append] at hp
  refine jS (g2++(if l[i].n=[] then [] else l[i].n++[58,32])) D (SlIs.fS hs hAD Qav (by omega) rfl hlt (f:=fun y=>y.Name) (fun _=>rfl) fun y1 hy1=>?_) ?_
  ·rw [hy1.1.1]
   refine ift.of (fun h=>SlIs.fS hs hAD Qav (by omega) rfl hlt (f:=fun y=>y.Name) (fun _=>rfl) fun y2 hy2=>?_) (fun h=>⟨rfl,?_⟩)
   ·have hn : ¬ l[i].n = [] := fun e => by rw [e] at h; cases h
    rw [if_neg hn] at hp ⊢
    simp only [List.length_append,List.length_cons,List.length_nil] at hp
    rw [hy2.1.1]
    exact ⟨by simp [catOk]; omega,by simp [catOk]; omega,rfl,by simp⟩
   ·have hn : l[i].n = [] := by simpa using h
    rw [if_pos hn,List.append_nil]
  refine SlIs.fT hs hAD Qav (by omega) rfl hlt (f:=fun y=>y.Type_) (fun y n v hn=>Qrx n v hn) fun z hz=>?_
  refine Qq7 _ hz.2 hAD (by omega) ⟨by unfold catOk; simp only [List.length_append]; omega,?_⟩
  rw [List.append_assoc]; exact hJ'
 ·have hie : i = l.length := by have := of_decide_eq_false h; omega
  subst hie
  rw [List.take_length]
  exact ⟨H,Gh.le hD,k⟩
theorem Qtg {p:Bool} {K:Str→Heap→Prop} (k:K (pubT p) H):QiU C p K H:=by
 apply QqL
 unfold Qnr
 cases p with
 | true=>exact Qcc rfl k
 | false=>exact Qcw rfl k
end
end
section
open Go Go.Proofs
theorem Qmg {α:Type} {f:α→Str} {l:List α} {i:Nat} (h:i < l.length):jo [] f 0 (l.take (i+1))=jo [] f 0 (l.take i)++f l[i]:=by rw [QfQ h]; simp
section
variable {C:Ctx} {H A:Heap}
theorem Qra {v:TdV} {x:Qf} {K:Str→Heap→Prop} (hx:TdIs A v x) (hA:A.le H) (hl:(tdT v).length≤140737488355300) (k:K (tdT v) H):QbM C x K H:=by
 obtain ⟨ep,en,hps,hcs⟩:=hx
 apply QbM.gh
 apply Qm1
 unfold QiC
 refine box1 fun b1 H2 hle h1=>⟨H2,Heap.le.refl _,fB h1 rfl (fS h1 rfl ?_)⟩
 have hA2:=hA.trans hle
 rw [ep,en.1]
 refine Qtg ⟨Heap.le.refl _,?_⟩
 unfold tdT at hl k
 simp only [List.length_append,List.length_cons,List.length_nil] at hl
 refine ⟨by simp [catOk]; omega,by simp [catOk]; omega,?_⟩
 have hlp:=SlIs.len hps
 have hbp:=SlIs.bd hps
 generalize hbase:(pubT v.p++([116,121,112,101,32]:Str))++v.n=base at *
 have hbl:base.length=(pubT v.p).length+5+v.n.length:=by rw [← hbase]; simp only [List.length_append,List.length_cons,List.length_nil] <;> omega
 have hJ0:(jo [44,32] id 0 v.ps).length≤(if v.ps.length=0 then ([]:Str) else 40::(jo [44,32] id 0 v.ps++[41])).length:=by
  split
  ·rename_i h; rw [List.length_eq_zero_iff.1 h]; simp [jo]
  ·simp only [List.length_append,List.length_cons,List.length_nil]; omega
 refine lpT (g:=fun i=>base++(if i=0 then [] else 40::(jo [44,32] id 0 (v.ps.take i)++(if i=v.ps.length then [41] else [])))) (N:=v.ps.length) hbp (by simp) fun i D J hD hi hJ=>fL (hD _ _ h1) rfl ?_
 have hAD:=hA2.trans hD
 dsimp only
 rw [hlp]
 refine ift.of (fun h=>?_) (fun h=>?_)
 ·have hlt : i < v.ps.length := by have := of_decide_eq_true h; omega
  have hp:=Qhf (sep:=[44,32]) (f:=(id:Str→Str)) v.ps (i+1)
  have hst:=QfQ (sep:=[44,32]) (f:=(id:Str→Str)) hlt
  rw [hst] at hp
  simp only [List.length_append,id_eq] at hp
  have hJ':=hJ hlt D hD
  rw [if_neg (Nat.succ_ne_zero i),hst] at hJ'
  have hne:¬ i=v.ps.length:=by omega
  have hnp:0 < v.ps.length:=by omega
  rw [if_neg (by omega)] at hl hJ0
  simp only [List.length_append,List.length_cons,List.length_nil] at hl hJ0
  simp only [if_neg hne,List.append_nil]
  refine jS (base++(40::(jo [44,32] id 0 (v.ps.take i)++((if i=0 then [] else [44,32])++id v.ps[i])++(if i+1=v.ps.length then [41] else [])))) D ?_ hJ'
  refine jS (base++(40::(jo [44,32] id 0 (v.ps.take i)++((if i=0 then [] else [44,32])++v.ps[i])))) D (ift.of (fun h=>?_) (fun h=>?_)) ?_
  ·have hi0 : i = 0 := by
    have:((i:Nat):Int)=0:=by simpa using h
    omega
   rw [if_pos hi0]
   refine ⟨by simp [catOk]; omega,fL (hD _ _ h1) rfl (SlIs.at_ hps hAD (z:=1) (fun _=>rfl) (by omega) rfl hlt fun p y hy hr=>⟨y,hr 0 _ rfl,?_⟩)⟩
   rw [hy.1]
   refine ⟨by simp [catOk]; omega,rfl,?_⟩
   subst hi0; simp [jo]
  ·have hi0 : ¬ i = 0 := fun e => by rw [e] at h; cases h
   rw [if_neg hi0] at hp ⊢
   simp only [List.length_cons,List.length_nil] at hp
   refine ⟨by simp [catOk]; omega,fL (hD _ _ h1) rfl (SlIs.at_ hps hAD (z:=1) (fun _=>rfl) (by omega) rfl hlt fun p y hy hr=>⟨y,hr 0 _ rfl,?_⟩)⟩
   rw [hy.1,if_neg hi0]
   exact ⟨by simp [catOk]; omega,rfl,by simp⟩
  refine fL (hD _ _ h1) rfl ?_
  rw [hlp,Q0 (by omega) (by omega)]
  refine ift.of (fun h=>?_) (fun h=>?_)
  ·have hi0 : i + 1 = v.ps.length := by
    have:((i:Nat):Int)=(v.ps.length:Int) - 1:=by simpa using h
    omega
   rw [if_pos hi0]
   exact ⟨by simp [catOk]; omega,rfl,by simp⟩
  ·have hi0 : ¬ i + 1 = v.ps.length := fun e => by
    have:((i:Nat):Int)=(v.ps.length:Int) - 1:=by omega
    rw [this] at h; simp at h
   rw [if_neg hi0]
   exact ⟨rfl,by simp⟩
 have hie:i=v.ps.length:=by have:=of_decide_eq_false h; omega
 subst hie
 rw [List.take_length,if_pos rfl]
 refine ⟨by unfold catOk; simp only [List.length_append,List.length_cons,List.length_nil]; split <;> (split at hl <;> simp only [List.length_append,List.length_cons,List.length_nil] at * <;> omega),?_⟩
 generalize hb2:(base++(if v.ps.length=0 then [] else 40::(jo [44,32] id 0 v.ps++[41])))++([32,61,32]:Str)=base2 at *
 have hbl2:base2.length=base.length+(if v.ps.length=0 then ([]:Str) else 40::(jo [44,32] id 0 v.ps++[41])).length+3:=by rw [← hb2]; simp only [List.length_append,List.length_cons,List.length_nil]
 refine lpT (g:=fun i=>base2++jo [32,124,32] cnT 0 (v.cs.take i)) (N:=v.cs.length) hcs.bd (by simp [jo]) fun i D2 J hD2 hi hJ=>fL ((hD.trans hD2) _ _ h1) rfl ?_
 have hDD:=hD.trans hD2
 have hAD2:=hA2.trans hDD
 dsimp only
 rw [hcs.len]
 refine ift.of (fun h=>?_) (fun h=>?_)
 ·have hlt : i < v.cs.length := by have := of_decide_eq_true h; omega
  have hp:=Qhf (sep:=[32,124,32]) (f:=cnT) v.cs (i+1)
  have hst:=QfQ (sep:=[32,124,32]) (f:=cnT) hlt
  rw [hst] at hp
  simp only [List.length_append] at hp
  have hp0:=Qhf (sep:=[32,124,32]) (f:=cnT) v.cs i
  have hJ':=hJ hlt
  rw [hst] at hJ'
  refine ⟨fun t E=>H2.le E∧D.le E∧t=base2++(jo [32,124,32] cnT 0 (v.cs.take i)++((if i=0 then [] else [32,124,32])++cnT v.cs[i])),?_,fun t E ⟨hE,hE2,ht⟩=>by rw [ht]; exact hJ' E hE2⟩
  refine jsep (by simp only [List.length_append,List.length_cons,List.length_nil]; omega) (fL (hDD _ _ h1) rfl ?_)
  refine SlIs.fS hcs hAD2 Qb9 (by omega) rfl hlt (f:=fun y=>y.Name) (fun _=>rfl) fun y1 hy1=>?_
  rw [hy1.1.1]
  generalize (if i=0 then ([]:Str) else [32,124,32])=sp at *
  generalize jo [32,124,32] cnT 0 (v.cs.take i)=gg at *
  have hcn:(cnT v.cs[i]).length=v.cs[i].n.length+(if v.cs[i].f.length=0 then ([]:Str) else 40::(fdsT v.cs[i].f++[41])).length:=by unfold cnT; simp only [List.length_append]
  refine ⟨by unfold catOk; simp only [List.length_append]; omega,fL (hDD _ _ h1) rfl (SlIs.fL hcs hAD2 Qb9 (by omega) rfl hlt (f:=fun y=>y.Fields) (fun _=>rfl) fun y2 hy2=>?_)⟩
  rw [hy2.2.len]
  refine ift.of (fun h=>?_) (fun h=>⟨hDD,hD2,?_⟩)
  ·have h0 : ¬ v.cs[i].f.length = 0 := by have := of_decide_eq_true h; omega
   rw [if_neg h0] at hcn
   simp only [List.length_append,List.length_cons,List.length_nil] at hcn
   refine ⟨by unfold catOk; simp only [List.length_append,List.length_cons,List.length_nil]; omega,fL (hDD _ _ h1) rfl (SlIs.fL hcs hAD2 Qb9 (by omega) rfl hlt (f:=fun y=>y.Fields) (fun _=>rfl) fun y3 hy3=>?_)⟩
   refine QkV hy3.2 hAD2 (by omega) ⟨by unfold catOk; simp only [List.length_append,List.length_cons,List.length_nil]; omega,by unfold catOk; simp only [List.length_append,List.length_cons,List.length_nil]; omega,hDD,hD2,?_⟩
   unfold cnT
   rw [if_neg h0]; simp
  ·have h0 : v.cs[i].f.length = 0 := by have := of_decide_eq_false h; omega
   unfold cnT
   rw [if_pos h0]; simp
 have hie:i=v.cs.length:=by have:=of_decide_eq_false h; omega
 subst hie
 rw [List.take_length]
 refine ⟨by unfold catOk; simp only [List.length_append,List.length_cons,List.length_nil]; omega,H,Gh.le (hle.trans hDD),?_⟩
 rw [← hb2,← hbase]
 simpa using k
theorem Qq9 {v:RuV} (hok:ruOk v=true) {x:Qk} {K:Str→Heap→Prop} (hx:RuIs A v x) (hA:A.le H) (hl:(ruT v).length≤140737488355300) (k:K (ruT v) H):QbL C x K H:=by
 obtain ⟨en,ha,hg,hb⟩:=hx
 unfold ruOk at hok
 simp only [Bool.and_eq_true,decide_eq_true_eq] at hok
 obtain ⟨⟨⟨⟨⟨o1,o2⟩,o3⟩,o4⟩,o5⟩,o6⟩:=hok
 apply QbL.gh
 apply Qm0
 unfold QiB
 refine box1 fun b1 H2 hle h1=>fS h1 rfl ?_
 have hA2:=hA.trans hle
 rw [en.1]
 unfold ruT at hl k
 simp only [List.length_append,List.length_cons,List.length_nil] at hl
 refine ⟨by simp [catOk]; omega,?_⟩
 have hfj:=Qqo (gs:=v.g) (xs:=v.a) (f:=fun i=>if h:i < v.g.length∧i < v.a.length then agT v.g[i] v.a[i] else []) o3 (fun i h1 h2=>dif_pos ⟨h1,h2⟩) v.a.length (Nat.le_refl _)
 rw [List.take_length,List.take_of_length_le (by omega)] at hfj
 generalize hf:(fun i=>if h:i < v.g.length∧i < v.a.length then agT v.g[i] v.a[i] else [])=f at hfj
 have hfi:∀ (i:Nat) (h1:i < v.g.length) (h2:i < v.a.length),f i=agT v.g[i] v.a[i]:=fun i h1 h2=>by rw [← hf]; exact dif_pos ⟨h1,h2⟩
 have hla:=ha.len
 refine lpT (g:=fun i=>(v.r++[40])++joi f i) (N:=v.a.length) ha.bd (by simp [joi]) fun i D J hD hi hJ=>fL (hD _ _ h1) rfl ?_
 have hAD:=hA2.trans hD
 dsimp only
 rw [hla]
 refine ift.of (fun h=>?_) (fun h=>?_)
 ·have hlt : i < v.a.length := by have := of_decide_eq_true h; omega
  have hlt2:i < v.g.length:=by omega
  have hp:=QnX f (n:=i+1) (m:=v.a.length) (by omega)
  rw [hfj] at hp
  simp only [joi,List.length_append] at hp
  have hJ':=hJ hlt
  simp only [joi] at hJ'
  have hcm:cm i=if i=0 then ([]:Str) else [44,32]:=by cases i <;> rfl
  rw [hfi i hlt2 hlt] at hp hJ'
  refine ⟨fun t E=>D.le E∧t=v.r++[40]++(joi f i++(cm i++agT v.g[i] v.a[i])),?_,fun t E ⟨hE,ht⟩=>by rw [ht]; exact hJ' E (hD.trans hE)⟩
  have hp0:=QnX f (n:=i) (m:=v.a.length) (by omega)
  rw [hfj] at hp0
  refine jsep (by simp only [List.length_append,List.length_cons,List.length_nil]; omega) (fL (hD _ _ h1) rfl ?_)
  rw [← hcm]
  refine SlIs.at_ hg hAD (z:=1) (fun _=>rfl) (by omega) rfl hlt2 fun p y hy hr=>⟨y,hr 0 _ rfl,?_⟩
  rw [hy.1]
  have hT:ET C A v.a[i]:=ets o4 _ (List.getElem_mem hlt)
  unfold agT at hp ⊢
  refine ift.of (fun h=>fL (hD _ _ h1) rfl (SlIs.ld ha hAD QN (by omega) rfl hlt fun z hz=>?_)) (fun h=>⟨D,Heap.le.refl _,fL (hD _ _ h1) rfl (SlIs.at_ hg hAD (z:=1) (fun _=>rfl) (by omega) rfl hlt2 fun p y hy hr=>⟨y,hr 0 _ rfl,?_⟩)⟩)
  ·have h0 : v.g[i] = [] := by simpa using h
   rw [if_pos h0] at hp ⊢
   exact hT hz hAD (by omega) ⟨by unfold catOk; simp only [List.length_append,List.length_cons,List.length_nil]; omega,Heap.le.refl _,by simp⟩
  ·have h0 : ¬ v.g[i] = [] := fun e => by rw [e] at h; cases h
   rw [if_neg h0] at hp ⊢
   simp only [List.length_append,List.length_cons,List.length_nil] at hp
   rw [hy.1]
   refine ⟨by unfold catOk; simp only [List.length_append,List.length_cons,List.length_nil]; omega,by unfold catOk; simp only [List.length_append,List.length_cons,List.length_nil]; omega,fL (hD _ _ h1) rfl (SlIs.ld ha hAD QN (by omega) rfl hlt fun z hz=>?_)⟩
   exact hT hz hAD (by omega) ⟨Heap.le.refl _,by unfold catOk; simp only [List.length_append,List.length_cons,List.length_nil]; omega,by unfold catOk; simp only [List.length_append,List.length_cons,List.length_nil]; omega,Heap.le.refl _,by simp⟩
 have hie:i=v.a.length:=by have:=of_decide_eq_false h; omega
 subst hie
 rw [hfj]
 refine ⟨by unfold catOk; simp only [List.length_append,List.length_cons,List.length_nil]; omega,?_⟩
 refine jS (((v.r++[40])++agsT 0 v.g v.a)++[41]++(if v.b.length=0 then [] else [32,58,45,32]++boT v.b)) D (fL (hD _ _ h1) rfl ?_) ?_
 ·rw [hb.len]
  refine ift.of (fun h=>?_) (fun h=>?_)
  ·have h0 : ¬ v.b.length = 0 := by have := of_decide_eq_true h; omega
   rw [if_neg h0] at hl ⊢
   simp only [List.length_append,List.length_cons,List.length_nil] at hl
   refine ⟨by unfold catOk; simp only [List.length_append,List.length_cons,List.length_nil]; omega,fL (hD _ _ h1) rfl (Qni o5 hb hAD (by omega) ⟨by unfold catOk; simp only [List.length_append,List.length_cons,List.length_nil]; omega,rfl,by simp⟩)⟩
  ·have h0 : v.b.length = 0 := by have := of_decide_eq_false h; omega
   rw [if_pos h0,List.append_nil]; exact ⟨rfl,rfl⟩
 refine ⟨by unfold catOk; simp only [List.length_append,List.length_cons,List.length_nil]; omega,H,Gh.le (hle.trans hD),?_⟩
 simpa using k
end
end
section
open Go Go.Proofs
theorem Qoo {α:Type} (f:α→Str) (l:List α) (i:Nat):(jo [] f 0 (l.take i)).length≤(jo [] f 0 l).length:=Qhf l i
section
variable {C:Ctx} {H A:Heap}
theorem Qtb {v:MoV} {x:Qg} {K:Str→Int→Heap→Prop} (hx:MoIs A v x) (hA:A.le H) (hb:moD v≤4611686018427387904) (hl:moC v=0→(moT v).length≤1000000000) (k:K (if moC v=0 then moT v else []) (moC v) H):Qc8 C x K H:=by
 apply Qc8.gh
 apply Qo4
 unfold Qlk
 refine box1 fun b1 H2 hle h1=>bxT h1 (Qq2 hx (hA.trans hle) hb ?_)
 have hA2:=hA.trans hle
 refine ift.of (fun h=>?_) (fun h=>?_)
 ·have hc : ¬ moC v = 0 := by simpa using h
  rw [if_neg hc] at k
  exact ⟨H,Gh.le hle,k⟩
 have hc:moC v=0:=by simpa using h
 have hl:=hl hc
 rw [if_pos hc,hc] at k
 have hok:=QtC hc
 obtain ⟨en,him,hty,hre,hru,hne⟩:=hx
 unfold moOk at hok
 simp only [Bool.and_eq_true] at hok
 obtain ⟨⟨⟨⟨⟨o1,o2⟩,o3⟩,o4⟩,o5⟩,o6⟩:=hok
 rw [QtD] at hl k
 simp only [List.length_append] at hl
 refine fS h1 rfl ?_
 rw [en.1]
 have hh:(([109,111,100,117,108,101,32]:Str)++v.n)++[10]=hdT v.n:=by simp [hdT]
 have hhl:(hdT v.n).length=v.n.length+8:=by simp [hdT]
 refine ⟨by simp [catOk]; omega,by simp [catOk]; omega,?_⟩
 rw [hh]
 refine lpT (g:=fun i=>hdT v.n++jo [] imT 0 (v.im.take i)) (N:=v.im.length) him.bd (by simp [jo]) fun i D J hD hi hJ=>fL (hD _ _ h1) rfl ?_
 dsimp only
 rw [him.len]
 refine ift.of (fun h=>?_) (fun h=>?_)
 ·have hlt : i < v.im.length := by have := of_decide_eq_true h; omega
  have hp:=Qoo imT v.im (i+1)
  have hJ':=hJ hlt D hD
  rw [Qmg hlt] at hp hJ'
  have hil:(imT v.im[i]).length=v.im[i].length+8:=by simp [imT]
  simp only [List.length_append] at hp
  refine ⟨by unfold catOk; simp only [List.length_append,List.length_cons,List.length_nil]; omega,fL (hD _ _ h1) rfl (SlIs.fS him (hA2.trans hD) Qic (by omega) rfl hlt (f:=fun y=>y.Name) (fun _=>rfl) fun y1 hy1=>?_)⟩
  rw [hy1.1]
  refine ⟨by unfold catOk; simp only [List.length_append,List.length_cons,List.length_nil]; omega,by unfold catOk; simp only [List.length_append,List.length_cons,List.length_nil]; omega,?_⟩
  have e:((((hdT v.n++jo [] imT 0 (v.im.take i))++([105,109,112,111,114,116,32]:Str))++v.im[i])++([10]:Str))=hdT v.n++(jo [] imT 0 (v.im.take i)++imT v.im[i]):=by simp [imT]
  rw [e]; exact hJ'
 have hie:i=v.im.length:=by have:=of_decide_eq_false h; omega
 subst hie
 rw [List.take_length]
 clear h hJ hi
 refine lpT (g:=fun i=>(hdT v.n++jo [] imT 0 v.im)++jo [] tdT 0 (v.ty.take i)) (N:=v.ty.length) hty.bd (by simp [jo]) fun i D2 J hD2 hi hJ=>?_
 have hD:=hD.trans hD2
 refine fL (hD _ _ h1) rfl ?_
 dsimp only
 rw [hty.len]
 refine ift.of (fun h=>?_) (fun h=>?_)
 ·have hlt : i < v.ty.length := by have := of_decide_eq_true h; omega
  have hp:=Qoo tdT v.ty (i+1)
  have hJ':=hJ hlt D2 hD2
  rw [Qmg hlt] at hp hJ'
  simp only [List.length_append] at hp
  refine fL (hD _ _ h1) rfl (SlIs.ld hty (hA2.trans hD) Qca (by omega) rfl hlt fun y hy=>?_)
  refine Qra hy (hA2.trans hD) (by omega) ⟨by unfold catOk; simp only [List.length_append]; omega,?_⟩
  rw [List.append_assoc]; exact hJ'
 have hie:i=v.ty.length:=by have:=of_decide_eq_false h; omega
 subst hie
 rw [List.take_length]
 clear h hJ hi
 refine lpT (g:=fun i=>((hdT v.n++jo [] imT 0 v.im)++jo [] tdT 0 v.ty)++jo [] rdT 0 (v.re.take i)) (N:=v.re.length) hre.bd (by simp [jo]) fun i D3 J hD3 hi hJ=>?_
 have hD:=hD.trans hD3
 refine fL (hD _ _ h1) rfl ?_
 dsimp only
 rw [hre.len]
 refine ift.of (fun h=>?_) (fun h=>?_)
 ·have hlt : i < v.re.length := by have := of_decide_eq_true h; omega
  have hp:=Qoo rdT v.re (i+1)
  have hJ':=hJ hlt
  rw [Qmg hlt] at hp hJ'
  simp only [List.length_append] at hp
  refine fL (hD _ _ h1) rfl (SlIs.ld hre (hA2.trans hD) QdC (by omega) rfl hlt fun y hy=>?_)
  obtain ⟨ep,ei,ern,hf⟩:=hy
  intro b12 n12
  refine nwT rfl ?_
  have l12:=Heap.le_put n12 (g:=.row (Qi.c y)) (m:=true)
  have c12:(D3.put b12 (.row (Qi.c y))) b12=some (true,.row (Qi.c y)):=Heap.put_same ..
  generalize D3.put b12 (.row (Qi.c y))=D4 at *
  have hA4:=(hA2.trans hD).trans l12
  have hJ':=hJ' D4 (hD3.trans l12)
  have hpl:(jo [] rdT 0 v.re).length≤1000000000:=by omega
  replace hp:=Nat.le_trans hp hpl
  generalize hgg:((hdT v.n++jo [] imT 0 v.im)++jo [] tdT 0 v.ty)=gg at *
  have hgl:gg.length=(hdT v.n).length+(jo [] imT 0 v.im).length+(jo [] tdT 0 v.ty).length:=by rw [← hgg]; simp only [List.length_append]
  generalize hg3:jo [] rdT 0 (v.re.take i)=g3 at *
  unfold rdT at hp hJ'
  refine jS (if v.re[i].i then [105,110,112,117,116,32] else [114,101,108,32]) D4 (fB c12 rfl ?_) ⟨D4,Heap.le.refl _,fB c12 rfl (fS c12 rfl (fL c12 rfl ?_))⟩
  ·rw [ei]
   exact ift.of (fun h=>⟨rfl,by rw [if_pos h]⟩) (fun h=>⟨rfl,by rw [h]; rfl⟩)
  rw [ep,ern.1]
  simp only [List.length_append,List.length_cons,List.length_nil] at hp
  refine Qtg ⟨Heap.le.refl _,by unfold catOk; simp only [List.length_append,List.length_cons,List.length_nil]; omega,by unfold catOk; simp only [List.length_append,List.length_cons,List.length_nil]; omega,by unfold catOk; simp only [List.length_append,List.length_cons,List.length_nil]; omega,by unfold catOk; simp only [List.length_append,List.length_cons,List.length_nil]; omega,?_⟩
  refine QkV hf hA4 (by omega) ⟨Heap.le.refl _,by unfold catOk; simp only [List.length_append,List.length_cons,List.length_nil]; omega,by unfold catOk; simp only [List.length_append,List.length_cons,List.length_nil]; omega,?_⟩
  simpa using hJ'
 have hie:i=v.re.length:=by have:=of_decide_eq_false h; omega
 subst hie
 rw [List.take_length]
 clear h hJ hi
 refine lpT (g:=fun i=>(((hdT v.n++jo [] imT 0 v.im)++jo [] tdT 0 v.ty)++jo [] rdT 0 v.re)++jo [] ruT 0 (v.ru.take i)) (N:=v.ru.length) hru.bd (by simp [jo]) fun i D4 J hD4 hi hJ=>?_
 have hD:=hD.trans hD4
 refine fL (hD _ _ h1) rfl ?_
 dsimp only
 rw [hru.len]
 refine ift.of (fun h=>?_) (fun h=>?_)
 ·have hlt : i < v.ru.length := by have := of_decide_eq_true h; omega
  have hp:=Qoo ruT v.ru (i+1)
  have hJ':=hJ hlt D4 hD4
  rw [Qmg hlt] at hp hJ'
  simp only [List.length_append] at hp
  refine fL (hD _ _ h1) rfl (SlIs.ld hru (hA2.trans hD) Qer (by omega) rfl hlt fun y hy=>?_)
  refine Qq9 (List.all_eq_true.1 o5 _ (List.getElem_mem hlt)) hy (hA2.trans hD) (by omega) ⟨by unfold catOk; simp only [List.length_append]; omega,?_⟩
  rw [List.append_assoc]; exact hJ'
 have hie:i=v.ru.length:=by have:=of_decide_eq_false h; omega
 subst hie
 rw [List.take_length]
 clear h hJ hi
 refine lpT (g:=fun i=>((((hdT v.n++jo [] imT 0 v.im)++jo [] tdT 0 v.ty)++jo [] rdT 0 v.re)++jo [] ruT 0 v.ru)++jo [] neT 0 (v.ne.take i)) (N:=v.ne.length) hne.bd (by simp [jo]) fun i D5 J hD5 hi hJ=>?_
 have hD:=hD.trans hD5
 refine fL (hD _ _ h1) rfl ?_
 dsimp only
 rw [hne.len]
 refine ift.of (fun h=>⟨D5,Heap.le.refl _,?_⟩) (fun h=>?_)
 ·have hlt : i < v.ne.length := by have := of_decide_eq_true h; omega
  have hp:=Qoo neT v.ne (i+1)
  have hJ':=hJ hlt D5 hD5
  rw [Qmg hlt] at hp hJ'
  simp only [List.length_append] at hp
  have hlo:=List.all_eq_true.1 o6 _ (List.getElem_mem hlt)
  unfold neOk at hlo
  simp only [Bool.and_eq_true] at hlo
  rw [show neT v.ne[i]=[110,101,118,101,114,32]++(v.ne[i].n++([32,58,45,32]++(boT v.ne[i].b++[46,10]))) from rfl] at hJ'
  have hnl:(neT v.ne[i]).length=6+(v.ne[i].n.length+(4+((boT v.ne[i].b).length+2))):=by unfold neT; simp only [List.length_append,List.length_cons,List.length_nil]
  generalize hgg:((((hdT v.n++jo [] imT 0 v.im)++jo [] tdT 0 v.ty)++jo [] rdT 0 v.re)++jo [] ruT 0 v.ru)=gg at *
  have hgl:gg.length=(hdT v.n).length+(jo [] imT 0 v.im).length+(jo [] tdT 0 v.ty).length+(jo [] rdT 0 v.re).length+(jo [] ruT 0 v.ru).length:=by rw [← hgg]; simp only [List.length_append]
  refine ⟨by unfold catOk; simp only [List.length_append,List.length_cons,List.length_nil]; omega,fL (hD _ _ h1) rfl (SlIs.fS hne (hA2.trans hD) Qdm (by omega) rfl hlt (f:=fun y=>y.Name) (fun _=>rfl) fun y1 hy1=>?_)⟩
  rw [hy1.1.1]
  refine ⟨by unfold catOk; simp only [List.length_append,List.length_cons,List.length_nil]; omega,by unfold catOk; simp only [List.length_append,List.length_cons,List.length_nil]; omega,fL (hD _ _ h1) rfl (SlIs.fL hne (hA2.trans hD) Qdm (by omega) rfl hlt (f:=fun y=>y.Body) (fun _=>rfl) fun y2 hy2=>?_)⟩
  refine Qni hlo.2 hy2.2 (hA2.trans hD) (by omega) ⟨Heap.le.refl _,by unfold catOk; simp only [List.length_append,List.length_cons,List.length_nil]; omega,by unfold catOk; simp only [List.length_append,List.length_cons,List.length_nil]; omega,?_⟩
  simpa using hJ'
 have hie:i=v.ne.length:=by have:=of_decide_eq_false h; omega
 subst hie
 rw [List.take_length]
 refine ⟨H,Gh.le (hle.trans hD),?_⟩
 simpa only [List.append_assoc] using k
theorem Qp1 (hT:MaxC C) (hFm:FmtC C) {m:MoV} {x:Qg} {K:Bool→Heap→Prop} (hx:MoIs H m x) (k:∀ D,K true D):Qas C x K H:=by
 apply QlH
 unfold QgW
 refine box1 fun b1 H2 l2 c1=>bxT c1 (Quz hx l2 fun r1 hr1=>?_)
 refine ift.of (fun h=>Qr9 hT hFm fun E hE=>k E) (fun h=>?_)
 have hz:=hr1 h
 refine bxT c1 (PrintL hT hFm hx l2 hz fun E1 e1=>?_)
 have hE:=l2.trans e1
 have c1':=e1 _ _ c1
 have hd:moD m≤4611686018427387904:=by have:=Qu9 m; omega
 refine bxT c1' (Qtb hx hE hd (fun hc=>by have:=QtE hx (QtC hc); omega) ⟨E1,Heap.le.refl _,?_⟩)
 refine Qcc (by simp) (Qcc (by simp) (bxT c1' (bxT c1' ?_)))
 refine Qr4 hT hx hE hd ⟨Heap.le.refl _,Qq2 hx hE hd ⟨Heap.le.refl _,?_⟩⟩
 exact Qcc (by simp) (Qr9 hT hFm fun E hE'=>⟨hE',k E⟩)
end
end
section
set_option maxRecDepth 100000
open Go Go.Proofs
section
variable {P:Program} {W:World}
theorem QkP {α β:Type} {R:α→β→Prop} {c:β→List Value} {t e:TypeId} {z n:Nat} {cs:List Value} (h:TrW P W n t cs) (ht:P.underlying t=some (.slice e)) (hz:P.cellsOf e=z) (hz0:0 < z) (hb:1≤P.bytesOf e)
 (ih:∀ m,m < n→∀ cs,TrW P W m e cs→∃ (v:α) (x:β),cs=c x∧R v x):∃ (s:Sl) (l:List α),cs=[slv s]∧SlIs R c (heapOf W) s l∧s.len≤s.cap:=by
 obtain ⟨s,css,m,hm,h1,h2,h3,h4,h5,h6,h7⟩:=h.slice ht hz hz0
 have key:∀ (css:List (List Value)),(∀ c' ∈ css,∃ (v:α) (x:β),c' = c x∧R v x)→∃ (l:List α) (xs:List β),css.flatten=xs.flatMap c∧css.length=xs.length∧l.length=xs.length∧∀ (i:Nat) (v:α) (x:β),l[i]? = some v→xs[i]? = some x→R v x:=by
  intro css
  induction css with
  | nil=>intro _; exact ⟨[],[],rfl,rfl,rfl,fun i v x hv=>by simp at hv⟩
  | cons c' css ihc=>
   intro hh
   obtain ⟨v,x,g1,g2⟩:=hh c' (List.mem_cons_self ..)
   obtain ⟨l,xs,k1,k2,k3,k4⟩:=ihc fun c' hc=>hh c' (List.mem_cons_of_mem _ hc)
   refine ⟨v::l,x::xs,by rw [List.flatten_cons,List.flatMap_cons,k1,g1],by simp [k2],by simp [k3],fun i v' x' hv hx=>?_⟩
   cases i with
   | zero=>simp at hv hx; subst hv; subst hx; exact g2
   | succ i=>exact k4 i v' x' (by simpa using hv) (by simpa using hx)
 obtain ⟨l,xs,k1,k2,k3,k4⟩:=key css fun c' hc=>ih m hm c' (h7 c' hc).2
 have hmx:reachBytes=140737488351232:=rfl
 rw [hmx] at h4
 have hsl:s.len≤140737488351232:=Nat.le_trans (Nat.le_mul_of_pos_right _ (by omega)) h4
 exact ⟨s,l,h1,⟨xs,by rw [← k1]; exact h6,by omega,k3,by omega,k4⟩,h2⟩
end
section
variable {W:World}
theorem valT6:ValT Tryz.prog 44 42:=⟨⟨_,Tryz.underlying44,rfl,⟨_,_,rfl,rfl,rfl,Tryz.underlying5,by kernel_rfl⟩,⟨_,_,rfl,rfl,rfl,Tryz.underlying2,by kernel_rfl⟩,⟨_,_,rfl,rfl,rfl,Tryz.underlying9,by kernel_rfl⟩,⟨_,rfl,rfl,rfl,by kernel_rfl⟩⟩,by kernel_rfl,Tryz.underlying42⟩
theorem QoJ {n:Nat} {cs:List Value} (h:TrW Tryz.prog W n 41 cs):∃ x:Qp,cs=[.int .i64 x.Line,.int .i64 x.Col]:=by
 obtain ⟨hl,m,rfl,hf⟩:=h.struct Tryz.underlying41
 rw [show Tryz.prog.cellsOf 41=2 by kernel_rfl] at hl
 match cs,hl with
 | [q0,q1],_=>
 have g0:TrW Tryz.prog W m 3 (([q0,q1].drop 0).take (Tryz.prog.cellsOf 3)):=hf 0 _ rfl
 have g1:TrW Tryz.prog W m 3 (([q0,q1].drop 1).take (Tryz.prog.cellsOf 3)):=hf 1 _ rfl
 rw [show Tryz.prog.cellsOf 3=1 by kernel_rfl] at g0 g1
 obtain ⟨x0,e0,_⟩:=g0.int Tryz.underlying3
 obtain ⟨x1,e1,_⟩:=g1.int Tryz.underlying3
 refine ⟨⟨x0,x1⟩,?_⟩
 injection e0 with e0; injection e1 with e1
 rw [e0,e1]
theorem Qvi:∀ (n:Nat) {cs:List Value},TrW Tryz.prog W n 75 cs→∃ (v:TyV) (x:Qe),cs=Qe.c x∧TyIs (heapOf W) v x:=by
 intro n
 induction n using Nat.strongRecOn with
 | _ n ih=>
 intro cs h
 obtain ⟨hl,m,rfl,hf⟩:=h.struct Tryz.underlying75
 rw [show Tryz.prog.cellsOf 75=2 by kernel_rfl] at hl
 match cs,hl with
 | [q0,q1],_=>
 have g0:TrW Tryz.prog W m 9 (([q0,q1].drop 0).take (Tryz.prog.cellsOf 9)):=hf 0 _ rfl
 rw [show Tryz.prog.cellsOf 9=1 by kernel_rfl] at g0
 replace g0:TrW Tryz.prog W m 9 [q0]:=g0
 obtain ⟨x0,e0,_,w0⟩:=g0.str Tryz.underlying9
 have w0:x0.length≤140737488355328:=by have:=w0; simp only [show reachBytes=140737488351232 from rfl] at this; omega
 have g1:TrW Tryz.prog W m 73 (([q0,q1].drop 1).take (Tryz.prog.cellsOf 73)):=hf 1 _ rfl
 rw [show Tryz.prog.cellsOf 73=1 by kernel_rfl] at g1
 replace g1:TrW Tryz.prog W m 73 [q1]:=g1
 obtain ⟨x1,l1,e1,r1,c1⟩:=QkP (R:=(TyIs (heapOf W))) (c:=Qe.c) g1 Tryz.underlying73 (show Tryz.prog.cellsOf 75=2 by kernel_rfl) (by omega) (of_decide_eq_true (by kernel_rfl)) (fun m hm cs hc=>ih m (by omega) hc)
 exact ⟨.mk x0 l1,⟨x0,x1⟩,(show [q0,q1]=[q0]++([q1]) from rfl).trans (by rw [e0,e1]; rfl),Qc2.2 ⟨⟨rfl,w0⟩,r1⟩⟩
theorem QnZ:∀ (n:Nat) {cs:List Value},TrW Tryz.prog W n 79 cs→∃ (v:FdV) (x:Qd),cs=Qd.c x∧FdIs (heapOf W) v x:=by
 intro n
 intro cs h
 obtain ⟨hl,m,rfl,hf⟩:=h.struct Tryz.underlying79
 rw [show Tryz.prog.cellsOf 79=3 by kernel_rfl] at hl
 match cs,hl with
 | [q0,q1,q2],_=>
 have g0:TrW Tryz.prog W m 9 (([q0,q1,q2].drop 0).take (Tryz.prog.cellsOf 9)):=hf 0 _ rfl
 rw [show Tryz.prog.cellsOf 9=1 by kernel_rfl] at g0
 replace g0:TrW Tryz.prog W m 9 [q0]:=g0
 obtain ⟨x0,e0,_,w0⟩:=g0.str Tryz.underlying9
 have w0:x0.length≤140737488355328:=by have:=w0; simp only [show reachBytes=140737488351232 from rfl] at this; omega
 have g1:TrW Tryz.prog W m 75 (([q0,q1,q2].drop 1).take (Tryz.prog.cellsOf 75)):=hf 1 _ rfl
 rw [show Tryz.prog.cellsOf 75=2 by kernel_rfl] at g1
 replace g1:TrW Tryz.prog W m 75 [q1,q2]:=g1
 obtain ⟨v1,x1,e1,r1⟩:=Qvi _ g1
 exact ⟨⟨x0,v1⟩,⟨x0,x1⟩,(show [q0,q1,q2]=[q0]++([q1,q2]) from rfl).trans (by rw [e0,e1]; rfl),⟨⟨rfl,w0⟩,r1⟩⟩
theorem QsR:∀ (n:Nat) {cs:List Value},TrW Tryz.prog W n 47 cs→∃ (v:ExV) (x:Qa),cs=Qa.c x∧ExIs (heapOf W) v x:=by
 intro n
 induction n using Nat.strongRecOn with
 | _ n ih=>
 intro cs h
 obtain ⟨hl,m,rfl,hf⟩:=h.struct Tryz.underlying47
 rw [show Tryz.prog.cellsOf 47=9 by kernel_rfl] at hl
 match cs,hl with
 | [q0,q1,q2,q3,q4,q5,q6,q7,q8],_=>
 have g0:TrW Tryz.prog W m 5 (([q0,q1,q2,q3,q4,q5,q6,q7,q8].drop 0).take (Tryz.prog.cellsOf 5)):=hf 0 _ rfl
 rw [show Tryz.prog.cellsOf 5=1 by kernel_rfl] at g0
 replace g0:TrW Tryz.prog W m 5 [q0]:=g0
 obtain ⟨x0,e0,_⟩:=g0.int Tryz.underlying5
 have g1:TrW Tryz.prog W m 41 (([q0,q1,q2,q3,q4,q5,q6,q7,q8].drop 1).take (Tryz.prog.cellsOf 41)):=hf 1 _ rfl
 rw [show Tryz.prog.cellsOf 41=2 by kernel_rfl] at g1
 replace g1:TrW Tryz.prog W m 41 [q1,q2]:=g1
 obtain ⟨x1,e1⟩:=QoJ g1
 have g2:TrW Tryz.prog W m 9 (([q0,q1,q2,q3,q4,q5,q6,q7,q8].drop 3).take (Tryz.prog.cellsOf 9)):=hf 2 _ rfl
 rw [show Tryz.prog.cellsOf 9=1 by kernel_rfl] at g2
 replace g2:TrW Tryz.prog W m 9 [q3]:=g2
 obtain ⟨x2,e2,_,w2⟩:=g2.str Tryz.underlying9
 have w2:x2.length≤140737488355328:=by have:=w2; simp only [show reachBytes=140737488351232 from rfl] at this; omega
 have g3:TrW Tryz.prog W m 44 (([q0,q1,q2,q3,q4,q5,q6,q7,q8].drop 4).take (Tryz.prog.cellsOf 44)):=hf 3 _ rfl
 rw [show Tryz.prog.cellsOf 44=4 by kernel_rfl] at g3
 replace g3:TrW Tryz.prog W m 44 [q4,q5,q6,q7]:=g3
 obtain ⟨v3,x3,e3,r3,b3⟩:=QvQ valT6 (of_decide_eq_true (by kernel_rfl)) _ g3
 have g4:TrW Tryz.prog W m 45 (([q0,q1,q2,q3,q4,q5,q6,q7,q8].drop 8).take (Tryz.prog.cellsOf 45)):=hf 4 _ rfl
 rw [show Tryz.prog.cellsOf 45=1 by kernel_rfl] at g4
 replace g4:TrW Tryz.prog W m 45 [q8]:=g4
 obtain ⟨x4,l4,e4,r4,c4⟩:=QkP (R:=(ExIs (heapOf W))) (c:=Qa.c) g4 Tryz.underlying45 (show Tryz.prog.cellsOf 47=9 by kernel_rfl) (by omega) (of_decide_eq_true (by kernel_rfl)) (fun m hm cs hc=>ih m (by omega) hc)
 exact ⟨.mk x0 x2 v3 l4,⟨x0,x1,x2,x3,x4⟩,(show [q0,q1,q2,q3,q4,q5,q6,q7,q8]=[q0]++([q1,q2]++([q3]++([q4,q5,q6,q7]++([q8])))) from rfl).trans (by rw [e0,e1,e2,e3,e4]; rfl),Qay.2 ⟨rfl,⟨rfl,w2⟩,r3,b3,r4⟩⟩
theorem QpN:∀ (n:Nat) {cs:List Value},TrW Tryz.prog W n 56 cs→∃ (v:LiV) (x:Qc),cs=Qc.c x∧LiIs (heapOf W) v x:=by
 intro n
 intro cs h
 obtain ⟨hl,m,rfl,hf⟩:=h.struct Tryz.underlying56
 rw [show Tryz.prog.cellsOf 56=5 by kernel_rfl] at hl
 match cs,hl with
 | [q0,q1,q2,q3,q4],_=>
 have g0:TrW Tryz.prog W m 5 (([q0,q1,q2,q3,q4].drop 0).take (Tryz.prog.cellsOf 5)):=hf 0 _ rfl
 rw [show Tryz.prog.cellsOf 5=1 by kernel_rfl] at g0
 replace g0:TrW Tryz.prog W m 5 [q0]:=g0
 obtain ⟨x0,e0,_⟩:=g0.int Tryz.underlying5
 have g1:TrW Tryz.prog W m 41 (([q0,q1,q2,q3,q4].drop 1).take (Tryz.prog.cellsOf 41)):=hf 1 _ rfl
 rw [show Tryz.prog.cellsOf 41=2 by kernel_rfl] at g1
 replace g1:TrW Tryz.prog W m 41 [q1,q2]:=g1
 obtain ⟨x1,e1⟩:=QoJ g1
 have g2:TrW Tryz.prog W m 9 (([q0,q1,q2,q3,q4].drop 3).take (Tryz.prog.cellsOf 9)):=hf 2 _ rfl
 rw [show Tryz.prog.cellsOf 9=1 by kernel_rfl] at g2
 replace g2:TrW Tryz.prog W m 9 [q3]:=g2
 obtain ⟨x2,e2,_,w2⟩:=g2.str Tryz.underlying9
 have w2:x2.length≤140737488355328:=by have:=w2; simp only [show reachBytes=140737488351232 from rfl] at this; omega
 have g3:TrW Tryz.prog W m 45 (([q0,q1,q2,q3,q4].drop 4).take (Tryz.prog.cellsOf 45)):=hf 3 _ rfl
 rw [show Tryz.prog.cellsOf 45=1 by kernel_rfl] at g3
 replace g3:TrW Tryz.prog W m 45 [q4]:=g3
 obtain ⟨x3,l3,e3,r3,c3⟩:=QkP (R:=(ExIs (heapOf W))) (c:=Qa.c) g3 Tryz.underlying45 (show Tryz.prog.cellsOf 47=9 by kernel_rfl) (by omega) (of_decide_eq_true (by kernel_rfl)) (fun m hm cs hc=>QsR m hc)
 exact ⟨⟨x0,x2,l3⟩,⟨x0,x1,x2,x3⟩,(show [q0,q1,q2,q3,q4]=[q0]++([q1,q2]++([q3]++([q4]))) from rfl).trans (by rw [e0,e1,e2,e3]; rfl),⟨rfl,⟨rfl,w2⟩,r3⟩⟩
theorem Qsp:∀ (n:Nat) {cs:List Value},TrW Tryz.prog W n 68 cs→∃ (v:CnV) (x:Qh),cs=Qh.c x∧CnIs (heapOf W) v x:=by
 intro n
 intro cs h
 obtain ⟨hl,m,rfl,hf⟩:=h.struct Tryz.underlying68
 rw [show Tryz.prog.cellsOf 68=2 by kernel_rfl] at hl
 match cs,hl with
 | [q0,q1],_=>
 have g0:TrW Tryz.prog W m 9 (([q0,q1].drop 0).take (Tryz.prog.cellsOf 9)):=hf 0 _ rfl
 rw [show Tryz.prog.cellsOf 9=1 by kernel_rfl] at g0
 replace g0:TrW Tryz.prog W m 9 [q0]:=g0
 obtain ⟨x0,e0,_,w0⟩:=g0.str Tryz.underlying9
 have w0:x0.length≤140737488355328:=by have:=w0; simp only [show reachBytes=140737488351232 from rfl] at this; omega
 have g1:TrW Tryz.prog W m 66 (([q0,q1].drop 1).take (Tryz.prog.cellsOf 66)):=hf 1 _ rfl
 rw [show Tryz.prog.cellsOf 66=1 by kernel_rfl] at g1
 replace g1:TrW Tryz.prog W m 66 [q1]:=g1
 obtain ⟨x1,l1,e1,r1,c1⟩:=QkP (R:=(FdIs (heapOf W))) (c:=Qd.c) g1 Tryz.underlying66 (show Tryz.prog.cellsOf 79=3 by kernel_rfl) (by omega) (of_decide_eq_true (by kernel_rfl)) (fun m hm cs hc=>QnZ m hc)
 exact ⟨⟨x0,l1⟩,⟨x0,x1⟩,(show [q0,q1]=[q0]++([q1]) from rfl).trans (by rw [e0,e1]; rfl),⟨⟨rfl,w0⟩,r1⟩⟩
theorem Qss:∀ (n:Nat) {cs:List Value},TrW Tryz.prog W n 64 cs→∃ (v:TdV) (x:Qf),cs=Qf.c x∧TdIs (heapOf W) v x:=by
 intro n
 intro cs h
 obtain ⟨hl,m,rfl,hf⟩:=h.struct Tryz.underlying64
 rw [show Tryz.prog.cellsOf 64=6 by kernel_rfl] at hl
 match cs,hl with
 | [q0,q1,q2,q3,q4,q5],_=>
 have g0:TrW Tryz.prog W m 41 (([q0,q1,q2,q3,q4,q5].drop 0).take (Tryz.prog.cellsOf 41)):=hf 0 _ rfl
 rw [show Tryz.prog.cellsOf 41=2 by kernel_rfl] at g0
 replace g0:TrW Tryz.prog W m 41 [q0,q1]:=g0
 obtain ⟨x0,e0⟩:=QoJ g0
 have g1:TrW Tryz.prog W m 4 (([q0,q1,q2,q3,q4,q5].drop 2).take (Tryz.prog.cellsOf 4)):=hf 1 _ rfl
 rw [show Tryz.prog.cellsOf 4=1 by kernel_rfl] at g1
 replace g1:TrW Tryz.prog W m 4 [q2]:=g1
 obtain ⟨x1,e1⟩:=g1.bool Tryz.underlying4
 have g2:TrW Tryz.prog W m 9 (([q0,q1,q2,q3,q4,q5].drop 3).take (Tryz.prog.cellsOf 9)):=hf 2 _ rfl
 rw [show Tryz.prog.cellsOf 9=1 by kernel_rfl] at g2
 replace g2:TrW Tryz.prog W m 9 [q3]:=g2
 obtain ⟨x2,e2,_,w2⟩:=g2.str Tryz.underlying9
 have w2:x2.length≤140737488355328:=by have:=w2; simp only [show reachBytes=140737488351232 from rfl] at this; omega
 have g3:TrW Tryz.prog W m 36 (([q0,q1,q2,q3,q4,q5].drop 4).take (Tryz.prog.cellsOf 36)):=hf 3 _ rfl
 rw [show Tryz.prog.cellsOf 36=1 by kernel_rfl] at g3
 replace g3:TrW Tryz.prog W m 36 [q4]:=g3
 obtain ⟨x3,l3,e3,r3,c3⟩:=QkP (R:=(fun (v:Str) (x:Str)=>Nm x v)) (c:=(fun x=>[sv x])) g3 Tryz.underlying36 (show Tryz.prog.cellsOf 9=1 by kernel_rfl) (by omega) (of_decide_eq_true (by kernel_rfl)) (fun m hm cs hc=>by obtain ⟨s,hs,_,hw⟩:=hc.str Tryz.underlying9; exact ⟨s,s,hs,rfl,by simp only [show reachBytes=140737488351232 from rfl] at hw; omega⟩)
 have g4:TrW Tryz.prog W m 62 (([q0,q1,q2,q3,q4,q5].drop 5).take (Tryz.prog.cellsOf 62)):=hf 4 _ rfl
 rw [show Tryz.prog.cellsOf 62=1 by kernel_rfl] at g4
 replace g4:TrW Tryz.prog W m 62 [q5]:=g4
 obtain ⟨x4,l4,e4,r4,c4⟩:=QkP (R:=(CnIs (heapOf W))) (c:=Qh.c) g4 Tryz.underlying62 (show Tryz.prog.cellsOf 68=2 by kernel_rfl) (by omega) (of_decide_eq_true (by kernel_rfl)) (fun m hm cs hc=>Qsp m hc)
 exact ⟨⟨x1,x2,l3,l4⟩,⟨x0,x1,x2,x3,x4⟩,(show [q0,q1,q2,q3,q4,q5]=[q0,q1]++([q2]++([q3]++([q4]++([q5])))) from rfl).trans (by rw [e0,e1,e2,e3,e4]; rfl),⟨rfl,⟨rfl,w2⟩,r3,r4⟩⟩
theorem QsU:∀ (n:Nat) {cs:List Value},TrW Tryz.prog W n 70 cs→∃ (v:RdV) (x:Qi),cs=Qi.c x∧RdIs (heapOf W) v x:=by
 intro n
 intro cs h
 obtain ⟨hl,m,rfl,hf⟩:=h.struct Tryz.underlying70
 rw [show Tryz.prog.cellsOf 70=6 by kernel_rfl] at hl
 match cs,hl with
 | [q0,q1,q2,q3,q4,q5],_=>
 have g0:TrW Tryz.prog W m 41 (([q0,q1,q2,q3,q4,q5].drop 0).take (Tryz.prog.cellsOf 41)):=hf 0 _ rfl
 rw [show Tryz.prog.cellsOf 41=2 by kernel_rfl] at g0
 replace g0:TrW Tryz.prog W m 41 [q0,q1]:=g0
 obtain ⟨x0,e0⟩:=QoJ g0
 have g1:TrW Tryz.prog W m 4 (([q0,q1,q2,q3,q4,q5].drop 2).take (Tryz.prog.cellsOf 4)):=hf 1 _ rfl
 rw [show Tryz.prog.cellsOf 4=1 by kernel_rfl] at g1
 replace g1:TrW Tryz.prog W m 4 [q2]:=g1
 obtain ⟨x1,e1⟩:=g1.bool Tryz.underlying4
 have g2:TrW Tryz.prog W m 4 (([q0,q1,q2,q3,q4,q5].drop 3).take (Tryz.prog.cellsOf 4)):=hf 2 _ rfl
 rw [show Tryz.prog.cellsOf 4=1 by kernel_rfl] at g2
 replace g2:TrW Tryz.prog W m 4 [q3]:=g2
 obtain ⟨x2,e2⟩:=g2.bool Tryz.underlying4
 have g3:TrW Tryz.prog W m 9 (([q0,q1,q2,q3,q4,q5].drop 4).take (Tryz.prog.cellsOf 9)):=hf 3 _ rfl
 rw [show Tryz.prog.cellsOf 9=1 by kernel_rfl] at g3
 replace g3:TrW Tryz.prog W m 9 [q4]:=g3
 obtain ⟨x3,e3,_,w3⟩:=g3.str Tryz.underlying9
 have w3:x3.length≤140737488355328:=by have:=w3; simp only [show reachBytes=140737488351232 from rfl] at this; omega
 have g4:TrW Tryz.prog W m 66 (([q0,q1,q2,q3,q4,q5].drop 5).take (Tryz.prog.cellsOf 66)):=hf 4 _ rfl
 rw [show Tryz.prog.cellsOf 66=1 by kernel_rfl] at g4
 replace g4:TrW Tryz.prog W m 66 [q5]:=g4
 obtain ⟨x4,l4,e4,r4,c4⟩:=QkP (R:=(FdIs (heapOf W))) (c:=Qd.c) g4 Tryz.underlying66 (show Tryz.prog.cellsOf 79=3 by kernel_rfl) (by omega) (of_decide_eq_true (by kernel_rfl)) (fun m hm cs hc=>QnZ m hc)
 exact ⟨⟨x1,x2,x3,l4⟩,⟨x0,x1,x2,x3,x4⟩,(show [q0,q1,q2,q3,q4,q5]=[q0,q1]++([q2]++([q3]++([q4]++([q5])))) from rfl).trans (by rw [e0,e1,e2,e3,e4]; rfl),⟨rfl,rfl,⟨rfl,w3⟩,r4⟩⟩
theorem Qvf:∀ (n:Nat) {cs:List Value},TrW Tryz.prog W n 54 cs→∃ (v:RuV) (x:Qk),cs=Qk.c x∧RuIs (heapOf W) v x:=by
 intro n
 intro cs h
 obtain ⟨hl,m,rfl,hf⟩:=h.struct Tryz.underlying54
 rw [show Tryz.prog.cellsOf 54=6 by kernel_rfl] at hl
 match cs,hl with
 | [q0,q1,q2,q3,q4,q5],_=>
 have g0:TrW Tryz.prog W m 41 (([q0,q1,q2,q3,q4,q5].drop 0).take (Tryz.prog.cellsOf 41)):=hf 0 _ rfl
 rw [show Tryz.prog.cellsOf 41=2 by kernel_rfl] at g0
 replace g0:TrW Tryz.prog W m 41 [q0,q1]:=g0
 obtain ⟨x0,e0⟩:=QoJ g0
 have g1:TrW Tryz.prog W m 9 (([q0,q1,q2,q3,q4,q5].drop 2).take (Tryz.prog.cellsOf 9)):=hf 1 _ rfl
 rw [show Tryz.prog.cellsOf 9=1 by kernel_rfl] at g1
 replace g1:TrW Tryz.prog W m 9 [q2]:=g1
 obtain ⟨x1,e1,_,w1⟩:=g1.str Tryz.underlying9
 have w1:x1.length≤140737488355328:=by have:=w1; simp only [show reachBytes=140737488351232 from rfl] at this; omega
 have g2:TrW Tryz.prog W m 45 (([q0,q1,q2,q3,q4,q5].drop 3).take (Tryz.prog.cellsOf 45)):=hf 2 _ rfl
 rw [show Tryz.prog.cellsOf 45=1 by kernel_rfl] at g2
 replace g2:TrW Tryz.prog W m 45 [q3]:=g2
 obtain ⟨x2,l2,e2,r2,c2⟩:=QkP (R:=(ExIs (heapOf W))) (c:=Qa.c) g2 Tryz.underlying45 (show Tryz.prog.cellsOf 47=9 by kernel_rfl) (by omega) (of_decide_eq_true (by kernel_rfl)) (fun m hm cs hc=>QsR m hc)
 have g3:TrW Tryz.prog W m 36 (([q0,q1,q2,q3,q4,q5].drop 4).take (Tryz.prog.cellsOf 36)):=hf 3 _ rfl
 rw [show Tryz.prog.cellsOf 36=1 by kernel_rfl] at g3
 replace g3:TrW Tryz.prog W m 36 [q4]:=g3
 obtain ⟨x3,l3,e3,r3,c3⟩:=QkP (R:=(fun (v:Str) (x:Str)=>Nm x v)) (c:=(fun x=>[sv x])) g3 Tryz.underlying36 (show Tryz.prog.cellsOf 9=1 by kernel_rfl) (by omega) (of_decide_eq_true (by kernel_rfl)) (fun m hm cs hc=>by obtain ⟨s,hs,_,hw⟩:=hc.str Tryz.underlying9; exact ⟨s,s,hs,rfl,by simp only [show reachBytes=140737488351232 from rfl] at hw; omega⟩)
 have g4:TrW Tryz.prog W m 52 (([q0,q1,q2,q3,q4,q5].drop 5).take (Tryz.prog.cellsOf 52)):=hf 4 _ rfl
 rw [show Tryz.prog.cellsOf 52=1 by kernel_rfl] at g4
 replace g4:TrW Tryz.prog W m 52 [q5]:=g4
 obtain ⟨x4,l4,e4,r4,c4⟩:=QkP (R:=(LiIs (heapOf W))) (c:=Qc.c) g4 Tryz.underlying52 (show Tryz.prog.cellsOf 56=5 by kernel_rfl) (by omega) (of_decide_eq_true (by kernel_rfl)) (fun m hm cs hc=>QpN m hc)
 exact ⟨⟨x1,l2,l3,l4⟩,⟨x0,x1,x2,x3,x4⟩,(show [q0,q1,q2,q3,q4,q5]=[q0,q1]++([q2]++([q3]++([q4]++([q5])))) from rfl).trans (by rw [e0,e1,e2,e3,e4]; rfl),⟨⟨rfl,w1⟩,r2,r3,r4⟩⟩
theorem Quc:∀ (n:Nat) {cs:List Value},TrW Tryz.prog W n 58 cs→∃ (v:NeV) (x:Ql),cs=Ql.c x∧NeIs (heapOf W) v x:=by
 intro n
 intro cs h
 obtain ⟨hl,m,rfl,hf⟩:=h.struct Tryz.underlying58
 rw [show Tryz.prog.cellsOf 58=4 by kernel_rfl] at hl
 match cs,hl with
 | [q0,q1,q2,q3],_=>
 have g0:TrW Tryz.prog W m 41 (([q0,q1,q2,q3].drop 0).take (Tryz.prog.cellsOf 41)):=hf 0 _ rfl
 rw [show Tryz.prog.cellsOf 41=2 by kernel_rfl] at g0
 replace g0:TrW Tryz.prog W m 41 [q0,q1]:=g0
 obtain ⟨x0,e0⟩:=QoJ g0
 have g1:TrW Tryz.prog W m 9 (([q0,q1,q2,q3].drop 2).take (Tryz.prog.cellsOf 9)):=hf 1 _ rfl
 rw [show Tryz.prog.cellsOf 9=1 by kernel_rfl] at g1
 replace g1:TrW Tryz.prog W m 9 [q2]:=g1
 obtain ⟨x1,e1,_,w1⟩:=g1.str Tryz.underlying9
 have w1:x1.length≤140737488355328:=by have:=w1; simp only [show reachBytes=140737488351232 from rfl] at this; omega
 have g2:TrW Tryz.prog W m 52 (([q0,q1,q2,q3].drop 3).take (Tryz.prog.cellsOf 52)):=hf 2 _ rfl
 rw [show Tryz.prog.cellsOf 52=1 by kernel_rfl] at g2
 replace g2:TrW Tryz.prog W m 52 [q3]:=g2
 obtain ⟨x2,l2,e2,r2,c2⟩:=QkP (R:=(LiIs (heapOf W))) (c:=Qc.c) g2 Tryz.underlying52 (show Tryz.prog.cellsOf 56=5 by kernel_rfl) (by omega) (of_decide_eq_true (by kernel_rfl)) (fun m hm cs hc=>QpN m hc)
 exact ⟨⟨x1,l2⟩,⟨x0,x1,x2⟩,(show [q0,q1,q2,q3]=[q0,q1]++([q2]++([q3])) from rfl).trans (by rw [e0,e1,e2]; rfl),⟨⟨rfl,w1⟩,r2⟩⟩
theorem QsS:∀ (n:Nat) {cs:List Value},TrW Tryz.prog W n 77 cs→∃ (v:Str) (x:Qn),cs=Qn.c x∧ImIs v x:=by
 intro n
 intro cs h
 obtain ⟨hl,m,rfl,hf⟩:=h.struct Tryz.underlying77
 rw [show Tryz.prog.cellsOf 77=3 by kernel_rfl] at hl
 match cs,hl with
 | [q0,q1,q2],_=>
 have g0:TrW Tryz.prog W m 41 (([q0,q1,q2].drop 0).take (Tryz.prog.cellsOf 41)):=hf 0 _ rfl
 rw [show Tryz.prog.cellsOf 41=2 by kernel_rfl] at g0
 replace g0:TrW Tryz.prog W m 41 [q0,q1]:=g0
 obtain ⟨x0,e0⟩:=QoJ g0
 have g1:TrW Tryz.prog W m 9 (([q0,q1,q2].drop 2).take (Tryz.prog.cellsOf 9)):=hf 1 _ rfl
 rw [show Tryz.prog.cellsOf 9=1 by kernel_rfl] at g1
 replace g1:TrW Tryz.prog W m 9 [q2]:=g1
 obtain ⟨x1,e1,_,w1⟩:=g1.str Tryz.underlying9
 have w1:x1.length≤140737488355328:=by have:=w1; simp only [show reachBytes=140737488351232 from rfl] at this; omega
 exact ⟨x1,⟨x0,x1⟩,(show [q0,q1,q2]=[q0,q1]++([q2]) from rfl).trans (by rw [e0,e1]; rfl),⟨rfl,w1⟩⟩
theorem QsT:∀ (n:Nat) {cs:List Value},TrW Tryz.prog W n 28 cs→∃ (v:MoV) (x:Qg),cs=Qg.c x∧MoIs (heapOf W) v x:=by
 intro n
 intro cs h
 obtain ⟨hl,m,rfl,hf⟩:=h.struct Tryz.underlying28
 rw [show Tryz.prog.cellsOf 28=6 by kernel_rfl] at hl
 match cs,hl with
 | [q0,q1,q2,q3,q4,q5],_=>
 have g0:TrW Tryz.prog W m 9 (([q0,q1,q2,q3,q4,q5].drop 0).take (Tryz.prog.cellsOf 9)):=hf 0 _ rfl
 rw [show Tryz.prog.cellsOf 9=1 by kernel_rfl] at g0
 replace g0:TrW Tryz.prog W m 9 [q0]:=g0
 obtain ⟨x0,e0,_,w0⟩:=g0.str Tryz.underlying9
 have w0:x0.length≤140737488355328:=by have:=w0; simp only [show reachBytes=140737488351232 from rfl] at this; omega
 have g1:TrW Tryz.prog W m 22 (([q0,q1,q2,q3,q4,q5].drop 1).take (Tryz.prog.cellsOf 22)):=hf 1 _ rfl
 rw [show Tryz.prog.cellsOf 22=1 by kernel_rfl] at g1
 replace g1:TrW Tryz.prog W m 22 [q1]:=g1
 obtain ⟨x1,l1,e1,r1,c1⟩:=QkP (R:=(ImIs)) (c:=Qn.c) g1 Tryz.underlying22 (show Tryz.prog.cellsOf 77=3 by kernel_rfl) (by omega) (of_decide_eq_true (by kernel_rfl)) (fun m hm cs hc=>QsS m hc)
 have g2:TrW Tryz.prog W m 23 (([q0,q1,q2,q3,q4,q5].drop 2).take (Tryz.prog.cellsOf 23)):=hf 2 _ rfl
 rw [show Tryz.prog.cellsOf 23=1 by kernel_rfl] at g2
 replace g2:TrW Tryz.prog W m 23 [q2]:=g2
 obtain ⟨x2,l2,e2,r2,c2⟩:=QkP (R:=(TdIs (heapOf W))) (c:=Qf.c) g2 Tryz.underlying23 (show Tryz.prog.cellsOf 64=6 by kernel_rfl) (by omega) (of_decide_eq_true (by kernel_rfl)) (fun m hm cs hc=>Qss m hc)
 have g3:TrW Tryz.prog W m 24 (([q0,q1,q2,q3,q4,q5].drop 3).take (Tryz.prog.cellsOf 24)):=hf 3 _ rfl
 rw [show Tryz.prog.cellsOf 24=1 by kernel_rfl] at g3
 replace g3:TrW Tryz.prog W m 24 [q3]:=g3
 obtain ⟨x3,l3,e3,r3,c3⟩:=QkP (R:=(RdIs (heapOf W))) (c:=Qi.c) g3 Tryz.underlying24 (show Tryz.prog.cellsOf 70=6 by kernel_rfl) (by omega) (of_decide_eq_true (by kernel_rfl)) (fun m hm cs hc=>QsU m hc)
 have g4:TrW Tryz.prog W m 25 (([q0,q1,q2,q3,q4,q5].drop 4).take (Tryz.prog.cellsOf 25)):=hf 4 _ rfl
 rw [show Tryz.prog.cellsOf 25=1 by kernel_rfl] at g4
 replace g4:TrW Tryz.prog W m 25 [q4]:=g4
 obtain ⟨x4,l4,e4,r4,c4⟩:=QkP (R:=(RuIs (heapOf W))) (c:=Qk.c) g4 Tryz.underlying25 (show Tryz.prog.cellsOf 54=6 by kernel_rfl) (by omega) (of_decide_eq_true (by kernel_rfl)) (fun m hm cs hc=>Qvf m hc)
 have g5:TrW Tryz.prog W m 26 (([q0,q1,q2,q3,q4,q5].drop 5).take (Tryz.prog.cellsOf 26)):=hf 5 _ rfl
 rw [show Tryz.prog.cellsOf 26=1 by kernel_rfl] at g5
 replace g5:TrW Tryz.prog W m 26 [q5]:=g5
 obtain ⟨x5,l5,e5,r5,c5⟩:=QkP (R:=(NeIs (heapOf W))) (c:=Ql.c) g5 Tryz.underlying26 (show Tryz.prog.cellsOf 58=4 by kernel_rfl) (by omega) (of_decide_eq_true (by kernel_rfl)) (fun m hm cs hc=>Quc m hc)
 exact ⟨⟨x0,l1,l2,l3,l4,l5⟩,⟨x0,x1,x2,x3,x4,x5⟩,(show [q0,q1,q2,q3,q4,q5]=[q0]++([q1]++([q2]++([q3]++([q4]++([q5]))))) from rfl).trans (by rw [e0,e1,e2,e3,e4,e5]; rfl),⟨⟨rfl,w0⟩,r1,r2,r3,r4,r5⟩⟩
theorem Quf {H : Type} {enc : TypeId × Value → H} {base : Nat} {v : Value} {d : DataW H} {p : List MemPlace} (hv : Value.okWide Tryz.prog W .any base 28 v) (h : DataW.Trod enc Tryz.prog W 0 (fun _ => true) true 28 v d p) (hw : ∀ w ∈ d.weights Tryz.prog 28, w ≤ reachBytes) :
 ∃ (a:MoV) (x:Qg),v=.agg (Qg.c x).toArray∧MoIs (heapOf W) a x:=by
 obtain ⟨cs,rfl,hl⟩:=WideShapes.okWide_struct Tryz.underlying28 hv
 obtain ⟨n,hn⟩:=TrW.of h hw
 obtain ⟨a,x,h1,h2⟩:=QsT n hn
 refine ⟨a,x,?_,h2⟩
 simp only [Value.cells] at h1
 rw [← h1]
end
end
section
open Go Go.Proofs
theorem QoT {C:Ctx} {H:Heap} (hT:MaxC C) (hFm:FmtC C) {a:MoV} {x:Qg} (ha:MoIs H a x):Qas C x (fun r _=>r=true) H:=Qp1 hT hFm ha fun _=>rfl
end
end Sx
end
noncomputable section

end

