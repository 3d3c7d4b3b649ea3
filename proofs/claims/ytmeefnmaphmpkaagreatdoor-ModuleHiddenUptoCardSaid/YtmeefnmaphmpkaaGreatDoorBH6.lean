/-
  Texts of this family, one behind the other: Mod7, Mod8, Mod9, Mod10, Mod11, Mod12, Mod13, Mod14, Mod15, Mod16, Mod17, Mod18, Mod19, Mod20, Mod21, Mod22, Mod23, Mod24, Mod25, Mod26, Mod28, Mod29, Mod30, Mod31, Mod32, ModR, MoRHidden, U, RowIHidden.
-/
import Derived.Test.YtmeefnmaphmpkaaGreatDoorBH5
import Derived.Test.YtmeefnmaphmpkaaGreatDoorRows
import Derived.JoinedCond
noncomputable section
set_option linter.unusedVariables false
set_option linter.unusedSimpArgs false
set_option maxRecDepth 10000
namespace Sx
section
open Go Go.Proofs
theorem QjO {A B D:Heap} {bo:Nat} {g:GO} (h:∃ e,B bo=some e):Heap.nw A B (D.put bo g)=Heap.nw A B D:=by
 funext x
 unfold Heap.nw
 cases hh:B x with
 | none=>
  obtain ⟨e,he⟩:=h
  have:x≠bo:=fun e2=>by rw [e2,he] at hh; cases hh
  exact Heap.put_ne _ _ _ this
 | some _=>rfl
theorem QqZ (s:Sl):(bk s).length≤1:=by unfold bk; cases s.p <;> simp
section
variable {A B W D D2:Heap} {bo:Nat} {q:Qa} {o:MoP}
theorem Out.ndf {s r:Sl} (h:Out A B W D bo q o) (hf:Fresh (Heap.off s D) r) (hs:bk s=bk q.Types∨bk s=bk q.Rels∨bk s=bk q.Rules∨bk s=bk q.Nevers) :
 ∀ x ∈ bk r,x ∈ bk s∨(x ∉ bk q.Types∧x ∉ bk q.Rels∧x ∉ bk q.Rules∧x ∉ bk q.Nevers):=fun x hx=>by
 by_cases hxs:x ∈ bk s
 ·exact .inl hxs
 ·refine .inr ?_
  obtain ⟨p,hp,rfl⟩:=QcS.1 hx
  have h0:=hf p hp
  have hn:D p.1=none:=by
   cases hd:D p.1 with
   | none=>rfl
   | some e=>rw [Heap.off_some hd fun p' hp' e'=>hxs (QcS.2 ⟨p',hp',e'⟩)] at h0; cases h0
  refine ⟨fun hm=>?_,fun hm=>?_,fun hm=>?_,fun hm=>?_⟩
  ·obtain ⟨e,he⟩:=h.gt.has _ hm; rw [hn] at he; cases he
  ·obtain ⟨e,he⟩:=h.gr.has _ hm; rw [hn] at he; cases he
  ·obtain ⟨e,he⟩:=h.gu.has _ hm; rw [hn] at he; cases he
  ·obtain ⟨e,he⟩:=h.gn.has _ hm; rw [hn] at he; cases he
theorem Out.turnT (h:Out A B W D bo q o) {r:Sl} (hle:(Heap.off q.Types D).le D2) (hf:Fresh (Heap.off q.Types D) r):Turn q { q with Types:=r } q.Types r D D2:=by
 have hnd:=h.nd
 refine ⟨hle,hf,fun b hb=>List.mem_append_left _ hb,fun b hb=>?_,fun b hb=>List.mem_append_left _ hb⟩
 simp only [List.nodup_append,List.mem_append] at hnd
 obtain ⟨_,⟨_,⟨_,_,n1⟩,n2⟩,n3⟩:=hnd
 simp only [blks,List.mem_append] at hb ⊢
 rcases hb with hb | hb | hb | hb
 ·exact .inl hb
 ·exact .inr ⟨.inr (.inl hb),fun hm=>n3 b hm b (.inl hb) rfl⟩
 ·exact .inr ⟨.inr (.inr (.inl hb)),fun hm=>n3 b hm b (.inr (.inl hb)) rfl⟩
 ·exact .inr ⟨.inr (.inr (.inr hb)),fun hm=>n3 b hm b (.inr (.inr hb)) rfl⟩
theorem Qrj {D Hs : Heap} {s : Sl} {zc cs : List Value} {bytes : Nat} {K : Sl → Heap → Prop} (hs : Hs.le (Heap.off s D)) (h1 : ∀ u ∈ cs, u.oneCell' = true) (k : ∀ D1, D.le D1 → (Heap.off s D).le (Heap.off s D1) → apd zc bytes s cs 1 (fun r H97 => Heap.le Hs H97 ∧ K r H97) D1) :
 nw (cs++[]) (fun b H94=>Heap.le Hs H94∧apS zc bytes s (Sl.of (some (b,0)) 1 1) (fun r H97=>Heap.le Hs H97∧K r H97) H94) D:=by
 intro b n
 rw [List.append_nil]
 have l1:=Heap.le_put n (g:=.row cs) (m:=true)
 exact ⟨(hs.trans (Heap.off_le _ _)).trans l1,_,.inr ⟨rfl,(b,0),rfl,Qhp (Heap.put_same ..) fun j u hj=>by rw [Nat.zero_add]; exact hj⟩,h1,k _ l1 (QgI l1)⟩
/-- one more of Types -/
theorem Out.addTd (h:Out A B W D bo q o) {v:TdP} {x:Qb} {K:Sl→Heap→Prop} (hv:TpO B (offB (blks q) (Heap.nw A B D)) v x) (hb:o.ty.length≤1000000)
 (k:∀ r D2,(Heap.off q.Types D).le D2→(∀ {K:Heap→Prop},(∀ D3,Out A B W D3 bo { q with Types:=r } { o with ty:=o.ty++[v] }→K D3)→st (bo,2) (slv r) K D2)→K r D2):apd (Qb.c Qb.zero) 88 q.Types (Qb.c x) 1 K D:=by
 refine h.gt.add (v:=v) (fun _=>rfl) (by omega) rfl (by omega) (by omega) fun r D2 hadd hle hf=>?_
 have ht:=h.turnT hle hf
 refine k r D2 hle fun {K} k=>⟨_,ht.keeps (fun hm=>h.bx (ht.sub _ hm)) h.at_,by simp [Qa.c],k _ ?_⟩
 have hreg:=Turn.reg h ht
 have hfr:=Turn.fresh h ht
 have hbo:bo ∉ blks { q with Types:=r }:=fun hm=>by
  obtain ⟨e,he⟩:=h.bB
  rw [(hfr _ hm).1] at he; cases he
 have hput:∀ {b:Nat} {e:Bool×GO} {g:GO},b ∈ blks { q with Types:=r }→D2 b=some e→(D2.put bo g) b=some e:=fun {b e g} hm hb=>by
  have hne:b≠bo:=fun e'=>hbo (by rw [← e']; exact hm)
  rw [Heap.put_ne _ _ _ hne]; exact hb
 refine ⟨Heap.dom_put (Turn.dom h ht),h.ab,h.aw,Qbc (Turn.w h ht) h.wo,Heap.put_same ..,h.bB,h.wo,(Qpv (D:=D) (QqZ r) h.nd (h.ndf hf (.inl rfl))).1 rfl,hfr,h.nm,?_,?_,?_,?_⟩
 ·show Gq _ _ _ (offB _ (Heap.nw A B (D2.put bo _))) _ _ _
  rw [QjO h.bB]
  exact (hadd _ (fun i v x=>TpO.le hreg) (TpO.le hreg hv)).mono (fun b hb e he=>hput (List.mem_append_left _ hb) he) (Heap.le.refl _) TpO.le
 ·show Gq _ _ _ (offB _ (Heap.nw A B (D2.put bo _))) _ _ _
  rw [QjO h.bB]
  refine h.gr.mono (fun b hb e he=>hput (List.mem_append_right _ (List.mem_append_left _ hb)) (ht.keeps (fun hm=>?_) he)) hreg RpO.le
  have hnd:=h.nd
  simp only [List.nodup_append,List.mem_append] at hnd
  obtain ⟨_,⟨_,⟨_,_,n1⟩,n2⟩,n3⟩:=hnd
  exact n3 b hm b (.inl hb) rfl
 ·show Gq _ _ _ (offB _ (Heap.nw A B (D2.put bo _))) _ _ _
  rw [QjO h.bB]
  refine h.gu.mono (fun b hb e he=>hput (List.mem_append_right _ (List.mem_append_right _ (List.mem_append_left _ hb))) (ht.keeps (fun hm=>?_) he)) hreg UpO.le
  have hnd:=h.nd
  simp only [List.nodup_append,List.mem_append] at hnd
  obtain ⟨_,⟨_,⟨_,_,n1⟩,n2⟩,n3⟩:=hnd
  exact n3 b hm b (.inr (.inl hb)) rfl
 ·show Gq _ _ _ (offB _ (Heap.nw A B (D2.put bo _))) _ _ _
  rw [QjO h.bB]
  refine h.gn.mono (fun b hb e he=>hput (List.mem_append_right _ (List.mem_append_right _ (List.mem_append_right _ hb))) (ht.keeps (fun hm=>?_) he)) hreg (fun h h'=>NpIs.le h h')
  have hnd:=h.nd
  simp only [List.nodup_append,List.mem_append] at hnd
  obtain ⟨_,⟨_,⟨_,_,n1⟩,n2⟩,n3⟩:=hnd
  exact n3 b hm b (.inr (.inr hb)) rfl
theorem Out.addT (h:Out A B W D bo q o) {v:TdP} {x:Qb} {Hs:Heap} {K:Heap→Prop} (hs:Hs.le (Heap.off q.Types D)) (h1:∀ u ∈ Qb.c x,u.oneCell' = true) (hv:TpO B (offB (blks q) (Heap.nw A B D)) v x) (hb:o.ty.length≤1000000)
 (k:∀ r D3,Out A B W D3 bo { q with Types:=r } { o with ty:=o.ty++[v] }→K D3) :
 nw (Qb.c x++[]) (fun b H94=>Heap.le Hs H94∧apS (Qb.c Qb.zero) 88 q.Types (Sl.of (some (b,0)) 1 1) (fun r H97=>Heap.le Hs H97∧nck (some (bo,0)) fun p98=>st (p98.1,p98.2+2) (slv r) (fun H100=>K H100) H97) H94) D:=
 Qrj hs h1 fun D1 l1 hoff=>(h.up l1).addTd (TpO.le (Qgb l1) hv) hb fun r D2 hle hst=>⟨(hs.trans hoff).trans hle,_,rfl,hst fun D3 hO=>k r D3 hO⟩
theorem Out.turnR (h:Out A B W D bo q o) {r:Sl} (hle:(Heap.off q.Rels D).le D2) (hf:Fresh (Heap.off q.Rels D) r):Turn q { q with Rels:=r } q.Rels r D D2:=by
 have hnd:=h.nd
 refine ⟨hle,hf,fun b hb=>List.mem_append_right _ (List.mem_append_left _ hb),fun b hb=>?_,fun b hb=>List.mem_append_right _ (List.mem_append_left _ hb)⟩
 simp only [List.nodup_append,List.mem_append] at hnd
 obtain ⟨_,⟨_,⟨_,_,n1⟩,n2⟩,n3⟩:=hnd
 simp only [blks,List.mem_append] at hb ⊢
 rcases hb with hb | hb | hb | hb
 ·exact .inr ⟨.inl hb,fun hm=>n3 b hb b (.inl hm) rfl⟩
 ·exact .inl hb
 ·exact .inr ⟨.inr (.inr (.inl hb)),fun hm=>n2 b hm b (.inl hb) rfl⟩
 ·exact .inr ⟨.inr (.inr (.inr hb)),fun hm=>n2 b hm b (.inr hb) rfl⟩
/-- one more of Rels -/
theorem Out.addRd (h:Out A B W D bo q o) {v:RdP} {x:Qd} {K:Sl→Heap→Prop} (hv:RpO B (offB (blks q) (Heap.nw A B D)) v x) (hb:o.re.length≤1000000)
 (k:∀ r D2,(Heap.off q.Rels D).le D2→(∀ {K:Heap→Prop},(∀ D3,Out A B W D3 bo { q with Rels:=r } { o with re:=o.re++[v] }→K D3)→st (bo,3) (slv r) K D2)→K r D2):apd (Qd.c Qd.zero) 64 q.Rels (Qd.c x) 1 K D:=by
 refine h.gr.add (v:=v) (fun _=>rfl) (by omega) rfl (by omega) (by omega) fun r D2 hadd hle hf=>?_
 have ht:=h.turnR hle hf
 refine k r D2 hle fun {K} k=>⟨_,ht.keeps (fun hm=>h.bx (ht.sub _ hm)) h.at_,by simp [Qa.c],k _ ?_⟩
 have hreg:=Turn.reg h ht
 have hfr:=Turn.fresh h ht
 have hbo:bo ∉ blks { q with Rels:=r }:=fun hm=>by
  obtain ⟨e,he⟩:=h.bB
  rw [(hfr _ hm).1] at he; cases he
 have hput:∀ {b:Nat} {e:Bool×GO} {g:GO},b ∈ blks { q with Rels:=r }→D2 b=some e→(D2.put bo g) b=some e:=fun {b e g} hm hb=>by
  have hne:b≠bo:=fun e'=>hbo (by rw [← e']; exact hm)
  rw [Heap.put_ne _ _ _ hne]; exact hb
 refine ⟨Heap.dom_put (Turn.dom h ht),h.ab,h.aw,Qbc (Turn.w h ht) h.wo,Heap.put_same ..,h.bB,h.wo,(Qpv (D:=D) (QqZ r) h.nd (h.ndf hf (.inr (.inl rfl)))).2.1 rfl,hfr,h.nm,?_,?_,?_,?_⟩
 ·show Gq _ _ _ (offB _ (Heap.nw A B (D2.put bo _))) _ _ _
  rw [QjO h.bB]
  refine h.gt.mono (fun b hb e he=>hput (List.mem_append_left _ hb) (ht.keeps (fun hm=>?_) he)) hreg TpO.le
  have hnd:=h.nd
  simp only [List.nodup_append,List.mem_append] at hnd
  obtain ⟨_,⟨_,⟨_,_,n1⟩,n2⟩,n3⟩:=hnd
  exact n3 b hb b (.inl hm) rfl
 ·show Gq _ _ _ (offB _ (Heap.nw A B (D2.put bo _))) _ _ _
  rw [QjO h.bB]
  exact (hadd _ (fun i v x=>RpO.le hreg) (RpO.le hreg hv)).mono (fun b hb e he=>hput (List.mem_append_right _ (List.mem_append_left _ hb)) he) (Heap.le.refl _) RpO.le
 ·show Gq _ _ _ (offB _ (Heap.nw A B (D2.put bo _))) _ _ _
  rw [QjO h.bB]
  refine h.gu.mono (fun b hb e he=>hput (List.mem_append_right _ (List.mem_append_right _ (List.mem_append_left _ hb))) (ht.keeps (fun hm=>?_) he)) hreg UpO.le
  have hnd:=h.nd
  simp only [List.nodup_append,List.mem_append] at hnd
  obtain ⟨_,⟨_,⟨_,_,n1⟩,n2⟩,n3⟩:=hnd
  exact n2 b hm b (.inl hb) rfl
 ·show Gq _ _ _ (offB _ (Heap.nw A B (D2.put bo _))) _ _ _
  rw [QjO h.bB]
  refine h.gn.mono (fun b hb e he=>hput (List.mem_append_right _ (List.mem_append_right _ (List.mem_append_right _ hb))) (ht.keeps (fun hm=>?_) he)) hreg (fun h h'=>NpIs.le h h')
  have hnd:=h.nd
  simp only [List.nodup_append,List.mem_append] at hnd
  obtain ⟨_,⟨_,⟨_,_,n1⟩,n2⟩,n3⟩:=hnd
  exact n2 b hm b (.inr hb) rfl
theorem Out.addR (h:Out A B W D bo q o) {v:RdP} {x:Qd} {Hs:Heap} {K:Heap→Prop} (hs:Hs.le (Heap.off q.Rels D)) (h1:∀ u ∈ Qd.c x,u.oneCell' = true) (hv:RpO B (offB (blks q) (Heap.nw A B D)) v x) (hb:o.re.length≤1000000)
 (k:∀ r D3,Out A B W D3 bo { q with Rels:=r } { o with re:=o.re++[v] }→K D3) :
 nw (Qd.c x++[]) (fun b H94=>Heap.le Hs H94∧apS (Qd.c Qd.zero) 64 q.Rels (Sl.of (some (b,0)) 1 1) (fun r H97=>Heap.le Hs H97∧nck (some (bo,0)) fun p98=>st (p98.1,p98.2+3) (slv r) (fun H100=>K H100) H97) H94) D:=
 Qrj hs h1 fun D1 l1 hoff=>(h.up l1).addRd (RpO.le (Qgb l1) hv) hb fun r D2 hle hst=>⟨(hs.trans hoff).trans hle,_,rfl,hst fun D3 hO=>k r D3 hO⟩
theorem Out.turnU (h:Out A B W D bo q o) {r:Sl} (hle:(Heap.off q.Rules D).le D2) (hf:Fresh (Heap.off q.Rules D) r):Turn q { q with Rules:=r } q.Rules r D D2:=by
 have hnd:=h.nd
 refine ⟨hle,hf,fun b hb=>List.mem_append_right _ (List.mem_append_right _ (List.mem_append_left _ hb)),fun b hb=>?_,fun b hb=>List.mem_append_right _ (List.mem_append_right _ (List.mem_append_left _ hb))⟩
 simp only [List.nodup_append,List.mem_append] at hnd
 obtain ⟨_,⟨_,⟨_,_,n1⟩,n2⟩,n3⟩:=hnd
 simp only [blks,List.mem_append] at hb ⊢
 rcases hb with hb | hb | hb | hb
 ·exact .inr ⟨.inl hb,fun hm=>n3 b hb b (.inr (.inl hm)) rfl⟩
 ·exact .inr ⟨.inr (.inl hb),fun hm=>n2 b hb b (.inl hm) rfl⟩
 ·exact .inl hb
 ·exact .inr ⟨.inr (.inr (.inr hb)),fun hm=>n1 b hm b hb rfl⟩
/-- one more of Rules -/
theorem Out.addUd (h:Out A B W D bo q o) {v:RuP} {x:Qk} {K:Sl→Heap→Prop} (hv:UpO B (offB (blks q) (Heap.nw A B D)) v x) (hb:o.ru.length≤1000000)
 (k:∀ r D2,(Heap.off q.Rules D).le D2→(∀ {K:Heap→Prop},(∀ D3,Out A B W D3 bo { q with Rules:=r } { o with ru:=o.ru++[v] }→K D3)→st (bo,4) (slv r) K D2)→K r D2):apd (Qk.c Qk.zero) 104 q.Rules (Qk.c x) 1 K D:=by
 refine h.gu.add (v:=v) (fun _=>rfl) (by omega) rfl (by omega) (by omega) fun r D2 hadd hle hf=>?_
 have ht:=h.turnU hle hf
 refine k r D2 hle fun {K} k=>⟨_,ht.keeps (fun hm=>h.bx (ht.sub _ hm)) h.at_,by simp [Qa.c],k _ ?_⟩
 have hreg:=Turn.reg h ht
 have hfr:=Turn.fresh h ht
 have hbo:bo ∉ blks { q with Rules:=r }:=fun hm=>by
  obtain ⟨e,he⟩:=h.bB
  rw [(hfr _ hm).1] at he; cases he
 have hput:∀ {b:Nat} {e:Bool×GO} {g:GO},b ∈ blks { q with Rules:=r }→D2 b=some e→(D2.put bo g) b=some e:=fun {b e g} hm hb=>by
  have hne:b≠bo:=fun e'=>hbo (by rw [← e']; exact hm)
  rw [Heap.put_ne _ _ _ hne]; exact hb
 refine ⟨Heap.dom_put (Turn.dom h ht),h.ab,h.aw,Qbc (Turn.w h ht) h.wo,Heap.put_same ..,h.bB,h.wo,(Qpv (D:=D) (QqZ r) h.nd (h.ndf hf (.inr (.inr (.inl rfl))))).2.2.1 rfl,hfr,h.nm,?_,?_,?_,?_⟩
 ·show Gq _ _ _ (offB _ (Heap.nw A B (D2.put bo _))) _ _ _
  rw [QjO h.bB]
  refine h.gt.mono (fun b hb e he=>hput (List.mem_append_left _ hb) (ht.keeps (fun hm=>?_) he)) hreg TpO.le
  have hnd:=h.nd
  simp only [List.nodup_append,List.mem_append] at hnd
  obtain ⟨_,⟨_,⟨_,_,n1⟩,n2⟩,n3⟩:=hnd
  exact n3 b hb b (.inr (.inl hm)) rfl
 ·show Gq _ _ _ (offB _ (Heap.nw A B (D2.put bo _))) _ _ _
  rw [QjO h.bB]
  refine h.gr.mono (fun b hb e he=>hput (List.mem_append_right _ (List.mem_append_left _ hb)) (ht.keeps (fun hm=>?_) he)) hreg RpO.le
  have hnd:=h.nd
  simp only [List.nodup_append,List.mem_append] at hnd
  obtain ⟨_,⟨_,⟨_,_,n1⟩,n2⟩,n3⟩:=hnd
  exact n2 b hb b (.inl hm) rfl
 ·show Gq _ _ _ (offB _ (Heap.nw A B (D2.put bo _))) _ _ _
  rw [QjO h.bB]
  exact (hadd _ (fun i v x=>UpO.le hreg) (UpO.le hreg hv)).mono (fun b hb e he=>hput (List.mem_append_right _ (List.mem_append_right _ (List.mem_append_left _ hb))) he) (Heap.le.refl _) UpO.le
 ·show Gq _ _ _ (offB _ (Heap.nw A B (D2.put bo _))) _ _ _
  rw [QjO h.bB]
  refine h.gn.mono (fun b hb e he=>hput (List.mem_append_right _ (List.mem_append_right _ (List.mem_append_right _ hb))) (ht.keeps (fun hm=>?_) he)) hreg (fun h h'=>NpIs.le h h')
  have hnd:=h.nd
  simp only [List.nodup_append,List.mem_append] at hnd
  obtain ⟨_,⟨_,⟨_,_,n1⟩,n2⟩,n3⟩:=hnd
  exact n1 b hm b hb rfl
theorem Out.addU (h:Out A B W D bo q o) {v:RuP} {x:Qk} {Hs:Heap} {K:Heap→Prop} (hs:Hs.le (Heap.off q.Rules D)) (h1:∀ u ∈ Qk.c x,u.oneCell' = true) (hv:UpO B (offB (blks q) (Heap.nw A B D)) v x) (hb:o.ru.length≤1000000)
 (k:∀ r D3,Out A B W D3 bo { q with Rules:=r } { o with ru:=o.ru++[v] }→K D3) :
 nw (Qk.c x++[]) (fun b H94=>Heap.le Hs H94∧apS (Qk.c Qk.zero) 104 q.Rules (Sl.of (some (b,0)) 1 1) (fun r H97=>Heap.le Hs H97∧nck (some (bo,0)) fun p98=>st (p98.1,p98.2+4) (slv r) (fun H100=>K H100) H97) H94) D:=
 Qrj hs h1 fun D1 l1 hoff=>(h.up l1).addUd (UpO.le (Qgb l1) hv) hb fun r D2 hle hst=>⟨(hs.trans hoff).trans hle,_,rfl,hst fun D3 hO=>k r D3 hO⟩
theorem Out.turnN (h:Out A B W D bo q o) {r:Sl} (hle:(Heap.off q.Nevers D).le D2) (hf:Fresh (Heap.off q.Nevers D) r):Turn q { q with Nevers:=r } q.Nevers r D D2:=by
 have hnd:=h.nd
 refine ⟨hle,hf,fun b hb=>List.mem_append_right _ (List.mem_append_right _ (List.mem_append_right _ hb)),fun b hb=>?_,fun b hb=>List.mem_append_right _ (List.mem_append_right _ (List.mem_append_right _ hb))⟩
 simp only [List.nodup_append,List.mem_append] at hnd
 obtain ⟨_,⟨_,⟨_,_,n1⟩,n2⟩,n3⟩:=hnd
 simp only [blks,List.mem_append] at hb ⊢
 rcases hb with hb | hb | hb | hb
 ·exact .inr ⟨.inl hb,fun hm=>n3 b hb b (.inr (.inr hm)) rfl⟩
 ·exact .inr ⟨.inr (.inl hb),fun hm=>n2 b hb b (.inr hm) rfl⟩
 ·exact .inr ⟨.inr (.inr (.inl hb)),fun hm=>n1 b hb b hm rfl⟩
 ·exact .inl hb
/-- one more of Nevers -/
theorem Out.addNd (h:Out A B W D bo q o) {v:NeP} {x:Qn} {K:Sl→Heap→Prop} (hv:NpIs (offB (blks q) (Heap.nw A B D)) v x) (hb:o.ne.length≤1000000)
 (k:∀ r D2,(Heap.off q.Nevers D).le D2→(∀ {K:Heap→Prop},(∀ D3,Out A B W D3 bo { q with Nevers:=r } { o with ne:=o.ne++[v] }→K D3)→st (bo,5) (slv r) K D2)→K r D2):apd (Qn.c Qn.zero) 56 q.Nevers (Qn.c x) 1 K D:=by
 refine h.gn.add (v:=v) (fun _=>rfl) (by omega) rfl (by omega) (by omega) fun r D2 hadd hle hf=>?_
 have ht:=h.turnN hle hf
 refine k r D2 hle fun {K} k=>⟨_,ht.keeps (fun hm=>h.bx (ht.sub _ hm)) h.at_,by simp [Qa.c],k _ ?_⟩
 have hreg:=Turn.reg h ht
 have hfr:=Turn.fresh h ht
 have hbo:bo ∉ blks { q with Nevers:=r }:=fun hm=>by
  obtain ⟨e,he⟩:=h.bB
  rw [(hfr _ hm).1] at he; cases he
 have hput:∀ {b:Nat} {e:Bool×GO} {g:GO},b ∈ blks { q with Nevers:=r }→D2 b=some e→(D2.put bo g) b=some e:=fun {b e g} hm hb=>by
  have hne:b≠bo:=fun e'=>hbo (by rw [← e']; exact hm)
  rw [Heap.put_ne _ _ _ hne]; exact hb
 refine ⟨Heap.dom_put (Turn.dom h ht),h.ab,h.aw,Qbc (Turn.w h ht) h.wo,Heap.put_same ..,h.bB,h.wo,(Qpv (D:=D) (QqZ r) h.nd (h.ndf hf (.inr (.inr (.inr rfl))))).2.2.2 rfl,hfr,h.nm,?_,?_,?_,?_⟩
 ·show Gq _ _ _ (offB _ (Heap.nw A B (D2.put bo _))) _ _ _
  rw [QjO h.bB]
  refine h.gt.mono (fun b hb e he=>hput (List.mem_append_left _ hb) (ht.keeps (fun hm=>?_) he)) hreg TpO.le
  have hnd:=h.nd
  simp only [List.nodup_append,List.mem_append] at hnd
  obtain ⟨_,⟨_,⟨_,_,n1⟩,n2⟩,n3⟩:=hnd
  exact n3 b hb b (.inr (.inr hm)) rfl
 ·show Gq _ _ _ (offB _ (Heap.nw A B (D2.put bo _))) _ _ _
  rw [QjO h.bB]
  refine h.gr.mono (fun b hb e he=>hput (List.mem_append_right _ (List.mem_append_left _ hb)) (ht.keeps (fun hm=>?_) he)) hreg RpO.le
  have hnd:=h.nd
  simp only [List.nodup_append,List.mem_append] at hnd
  obtain ⟨_,⟨_,⟨_,_,n1⟩,n2⟩,n3⟩:=hnd
  exact n2 b hb b (.inr hm) rfl
 ·show Gq _ _ _ (offB _ (Heap.nw A B (D2.put bo _))) _ _ _
  rw [QjO h.bB]
  refine h.gu.mono (fun b hb e he=>hput (List.mem_append_right _ (List.mem_append_right _ (List.mem_append_left _ hb))) (ht.keeps (fun hm=>?_) he)) hreg UpO.le
  have hnd:=h.nd
  simp only [List.nodup_append,List.mem_append] at hnd
  obtain ⟨_,⟨_,⟨_,_,n1⟩,n2⟩,n3⟩:=hnd
  exact n1 b hb b hm rfl
 ·show Gq _ _ _ (offB _ (Heap.nw A B (D2.put bo _))) _ _ _
  rw [QjO h.bB]
  exact (hadd _ (fun i v x=>(fun h h'=>NpIs.le h h') hreg) ((fun h h'=>NpIs.le h h') hreg hv)).mono (fun b hb e he=>hput (List.mem_append_right _ (List.mem_append_right _ (List.mem_append_right _ hb))) he) (Heap.le.refl _) (fun h h'=>NpIs.le h h')
theorem Out.addN (h:Out A B W D bo q o) {v:NeP} {x:Qn} {Hs:Heap} {K:Heap→Prop} (hs:Hs.le (Heap.off q.Nevers D)) (h1:∀ u ∈ Qn.c x,u.oneCell' = true) (hv:NpIs (offB (blks q) (Heap.nw A B D)) v x) (hb:o.ne.length≤1000000)
 (k:∀ r D3,Out A B W D3 bo { q with Nevers:=r } { o with ne:=o.ne++[v] }→K D3) :
 nw (Qn.c x++[]) (fun b H94=>Heap.le Hs H94∧apS (Qn.c Qn.zero) 56 q.Nevers (Sl.of (some (b,0)) 1 1) (fun r H97=>Heap.le Hs H97∧nck (some (bo,0)) fun p98=>st (p98.1,p98.2+5) (slv r) (fun H100=>K H100) H97) H94) D:=
 Qrj hs h1 fun D1 l1 hoff=>(h.up l1).addNd (NpIs.le (Qgb l1) hv) hb fun r D2 hle hst=>⟨(hs.trans hoff).trans hle,_,rfl,hst fun D3 hO=>k r D3 hO⟩
end
end
section
open Go Go.Proofs
theorem Qvs (x:Qj):∀ u ∈ Qj.c x,u.oneCell' = true:=by
 intro u hu
 simp only [Qj.c,List.mem_cons,List.mem_nil_iff,or_false] at hu
 rcases hu with rfl | rfl <;> rfl
theorem Qum (x:Qb):∀ u ∈ Qb.c x,u.oneCell' = true:=by
 intro u hu
 simp only [Qb.c,List.mem_cons,List.mem_nil_iff,or_false] at hu
 rcases hu with rfl | rfl | rfl | rfl | rfl | rfl <;> rfl
theorem Qui (x:Qd):∀ u ∈ Qd.c x,u.oneCell' = true:=by
 intro u hu
 simp only [Qd.c,List.mem_cons,List.mem_nil_iff,or_false] at hu
 rcases hu with rfl | rfl | rfl | rfl | rfl | rfl <;> rfl
theorem QvO (x:Qk):∀ u ∈ Qk.c x,u.oneCell' = true:=by
 intro u hu
 simp only [Qk.c,List.mem_cons,List.mem_nil_iff,or_false] at hu
 rcases hu with rfl | rfl | rfl | rfl | rfl | rfl <;> rfl
theorem QvI (x:Qn):∀ u ∈ Qn.c x,u.oneCell' = true:=by
 intro u hu
 simp only [Qn.c,List.mem_cons,List.mem_nil_iff,or_false] at hu
 rcases hu with rfl | rfl | rfl | rfl <;> rfl
theorem cat1 {a:Str} (h:a.length≤1000):catOk a ([46]:Str):=by show _ < _; simp only [List.length_cons,List.length_nil]; omega
theorem cat2 {a b:Str} (h:a.length≤1000) (h2:b.length≤1000):catOk (a++([46]:Str)) b:=by show _ < _; simp only [List.length_append,List.length_cons,List.length_nil]; omega
theorem Qpa {a b:Str} (h:a.length≤1000) (h2:b.length≤1000):(dotS a b).length≤140737488355328:=by simp only [dotS,List.length_append,List.length_cons,List.length_nil]; omega
theorem Qpk {nm:Bool} {l:List FdV} (h:fdsOk nm l=true):l.length≤1000∧∀ f ∈ l,tyOk f.t=true:=by
 unfold fdsOk at h
 simp only [Bool.and_eq_true,decide_eq_true_eq,List.all_eq_true] at h
 refine ⟨by omega,fun f hf=>?_⟩
 have:=h.2 f hf
 unfold fdOk at this
 simp only [Bool.and_eq_true] at this
 exact this.2
section
variable {C:Ctx} {A:Heap} {E:Value→Heap→Prop}
theorem uCons {T:Tl} {m:MoP} {bp bm:Nat} {sl:Sl} {x:Qa} (hx:x.Name=m.n) (hi:IpL A x.Imports m.im) (hn:m.n.length≤1000) {b1 b16 b21:Nat} {H0:Heap} {y y1:Qb} {p:Pl}
 (hAH:A.le (H0.del b21)) (h1:(H0.del b21) b1=some (true,.row (Qa.c x))) (h16:(H0.del b21) b16=some (true,.row (Qb.c y))) (hp:y.Pos=psP p) (hP:Pr (H0.del b21) bp bm sl) (hT:TlIs (H0.del b21) bm T)
 (h21:H0 b21=some (true,.row (Qb.c y1))) (hy1:y1.Cons=Sl.nil) {s:Sl} {l:List CnV} (hs:CnL A s l) (hok:∀ c ∈ l,cnOk c=true) (hll:l.length≤1000) {REST:Heap→Prop}
 (k:∀ D l' s',mpO (cnF T m) l=some l'→(H0.del b21).le D→Gr CnIs Qj.c 2 A H0 D s' l'→D b21=some (true,.row (Qb.c { y1 with Cons:=s' }))→REST D)
 (ke:∀ D,(H0.del b21).le D→mpO (cnF T m) l=none→E (flt m.n p 63) D) :
 lp (α:=Int) 0 H0 (fun x42 J43 H44=>
 ift (decide ((x42:Int) < (Sl.len s:Int)))
 (ixa s x42 fun p46=>
 ldT H44 Qj.c (p46.1,p46.2+(x42:Int).toNat*2) fun x51=>
 nw (Qj.c Qj.zero) (fun b53 H54=>
 stT (b53,0) (Qj.c x51) (fun H55=>
 dr H55 fun Hs56=>
 ldL Hs56 ((b21,0).1,(b21,0).2+5) fun x58=>
 ldS Hs56 ((b1,0).1,(b1,0).2+0) fun x60=>
 catOk x60 ([46]:Str)∧
 ldS Hs56 ((b53,0).1,(b53,0).2+0) fun x63=>
 catOk (x60++([46]:Str)) x63∧
 ldT Hs56 Qa.c (b1,0) fun x66=>
 ldL Hs56 ((b53,0).1,(b53,0).2+1) fun x68=>
 ldT Hs56 Qf.c ((b16,0).1,(b16,0).2+0) fun x70=>
 QX C E (some (bp,0)) x66 x68 x70 (fun r73 H74=>
 Heap.le Hs56 H74∧
 nw ((Qj.c (⟨((x60++([46]:Str))++x63),r73⟩:Qj))++[]) (fun b76 H77=>
 Heap.le Hs56 H77∧
 apS (Qj.c Qj.zero) 40 x58 (Sl.of (some (b76,0)) 1 1) (fun r79 H80=>
 Heap.le Hs56 H80∧
 st ((b21,0).1,(b21,0).2+5) (slv r79) (fun H81=>
 J43 (w .i64 (x42+1)) H81) H80) H77) H74) H55) H54) H44)
 (REST H44)):=by
 have hlen:=SlIs.len hs
 have nA:A b21=none:=by
  cases ha:A b21 with
  | none=>rfl
  | some e=>have:=hAH _ _ ha; rw [Heap.del_same] at this; cases this
 have hA0:A.le H0:=hAH.trans (Heap.del_le _ _)
 have hR:∀ {X Y:Heap} {v:CnV} {x:Qj},X.le Y→CnIs X v x→CnIs Y v x:=fun h h'=>CnIs.le h h'
 refine ⟨fun y D=>(H0.del b21).le D∧∃ (i:Nat) (l':List CnV) (s':Sl),y=(i:Int)∧i≤l.length∧mpO (cnF T m) (l.take i)=some l'∧Gr CnIs Qj.c 2 A H0 D s' l'∧D b21=some (true,.row (Qb.c { y1 with Cons:=s' })),fun y _=>l.length - y.toNat,⟨Heap.del_le _ _,0,[],Sl.nil,rfl,Nat.zero_le _,rfl,Gr.nil (fun _ h=>h) hA0,?_⟩,?_⟩
 ·rw [h21,← hy1]
 rintro _ D ⟨hD,i,l',s',rfl,hi',hl',hG,hb⟩
 rw [hlen]
 have hlen':=Qld hl'
 rw [List.length_take,Nat.min_eq_left hi'] at hlen'
 refine ift.of (fun h=>?_) (fun h=>?_)
 ·have hlt : i < l.length := by have := of_decide_eq_true h; omega
  refine hs.ld (hAH.trans hD) (fun _=>rfl) (by omega) rfl hlt fun y2 hy2=>?_
  have hcok:=hok _ (List.getElem_mem hlt)
  have hnone:=Qm0 (f:=cnF T m) (List.getElem_mem hlt)
  have htk:=fun w=>Qpu (w:=w) hlt hl'
  generalize l[i]=c at *
  unfold cnOk at hcok
  rw [Bool.and_eq_true] at hcok
  obtain ⟨hf1,hf2⟩:=Qpk hcok.2
  have hcn:=(Qfb hcok.1).1
  intro b53 n53
  refine nwT rfl ?_
  have l53:=Heap.le_put n53 (g:=.row (Qj.c y2)) (m:=true)
  have h53:(D.put b53 (.row (Qj.c y2))) b53=some (true,.row (Qj.c y2)):=Heap.put_same ..
  have hG2:=hG.up l53 hR
  have hD2:=hD.trans l53
  have hb2:=l53 _ _ hb
  have hsb:∀ q,s'.p=some q→q.1≠b21:=fun q hq e=>by
   have:=hG.fresh q hq
   rw [e,h21] at this; cases this
  have hs53:∀ q,s'.p=some q→q.1≠b53:=fun q hq e=>by
   obtain ⟨e2,h2⟩:=hG.has q hq
   rw [e,n53] at h2; cases h2
  generalize D.put b53 (.row (Qj.c y2))=D2 at *
  have hof:∀ {b:Nat} {e:Bool×GO},(H0.del b21) b=some e→(Heap.off s' D2) b=some e:=fun {b e} hb=>Heap.off_some (hD2 b e hb) fun q hq e'=>by
   have:=hG.fresh q hq
   rw [e'] at this
   have h':=Heap.del_le _ _ _ _ hb
   rw [this] at h'; cases h'
  refine ⟨Heap.off s' D2,Heap.off_le _ _,?_⟩
  refine fL (Heap.off_some hb2 hsb) (j:=5) rfl (fS (hof h1) rfl ⟨?_,fS (Heap.off_some h53 hs53) rfl ⟨?_,bxT (c:=Qa.c) (hof h1) (fL (Heap.off_some h53 hs53) (j:=1) rfl (fPs (x:=y.Pos) (hof h16) rfl rfl ?_))⟩⟩)
  ·rw [hx]; exact cat1 hn
  ·rw [hx,hy2.1.1]; exact cat2 hn (by omega)
  refine QoE hx hi hn hf2 hf1 (hP.le hD2) (hT.le hD2) hG2.al hy2.2 hp (fun r D3 fl hD3 hfl hGr=>?_) (fun D3 hD3 hfl=>ke D3 (hD2.trans hD3) (hnone ?_))
  ·have hG3:=hG2.up hD3 hR
   have hw:cnF T m c=some ⟨dotS m.n c.n,fl⟩:=by unfold cnF; rw [hfl]
   have hfll:=Qld hfl
   have key:=Qp2 (D2:=D3) hA0 hG2.dom hG2.fresh hG2.has
   refine ⟨(Heap.off_le _ _).trans hD3,?_⟩
   rw [hx,hy2.1.1]
   refine hG3.lit hA0 (x:=(⟨dotS m.n c.n,r⟩:Qj)) (v:=⟨dotS m.n c.n,fl⟩) (fun _=>rfl) (by omega) hR rfl (Qvs _) ⟨⟨rfl,Qpa hn (by omega)⟩,(hGr.is (fun _=>rfl) (by omega) (fun h h'=>FdIs.le h h') (by omega)).le key fun _ _ _ h=>FdIs.le key h⟩ (by omega) (by omega) (QgI hD3) fun r2 D4 hG4 h4 hf4=>?_
   have hb4:=h4 _ _ (Heap.off_some (hD3 _ _ hb2) hsb)
   refine ⟨_,hb4,by simp [Qb.c],?_⟩
   rw [Qam (by omega) (by omega)]
   have hD4:(H0.del b21).le D4:=fun b e hb=>h4 b e (QgI hD3 b e (hof hb))
   exact ⟨⟨Heap.del_put hD4,i+1,l'++[⟨dotS m.n c.n,fl⟩],r2,by omega,by omega,htk _ hw,hG4.put h21 nA,Heap.put_same ..⟩,by first | omega | (dsimp only; omega)⟩
  ·unfold cnF; rw [hfl]
 ·have hie : i = l.length := by have := of_decide_eq_false h; omega
  subst hie
  rw [List.take_length] at hl'
  exact k _ _ _ hl' hD hG hb
theorem uTypes {T:Tl} {m:MoP} {bp bm:Nat} {sl:Sl} {x:Qa} (hx:x.Name=m.n) (hi:IpL A x.Imports m.im) (hn:m.n.length≤1000) {b1:Nat} {B W H0:Heap} {bo:Nat} {q:Qa} {o:MoP} (hO:Out A B W H0 bo q o)
 (h1:W b1=some (true,.row (Qa.c x))) (hP:Pr W bp bm sl) (hT:TlIs W bm T) {s:Sl} {l:List TdP} (hs:TpL A s l) (hok:∀ t ∈ l,tdOk t.e=true) (hb:o.ty.length+l.length≤1000000) {REST:Heap→Prop}
 (k:∀ D q' a,mpE (tdF T m) l=.ok a→Out A B W D bo q' { o with ty:=o.ty++a }→REST D)
 (ke:∀ D q' o' p,Out A B W D bo q' o'→mpE (tdF T m) l=.error p→E (flt m.n p 63) D) :
 lp (α:=Int) 0 H0 (fun x5 J6 H7=>
 ift (decide ((x5:Int) < (Sl.len s:Int)))
 (ixa s x5 fun p9=>
 ldT H7 Qb.c (p9.1,p9.2+(x5:Int).toNat*6) fun x14=>
 nw (Qb.c Qb.zero) (fun b16 H17=>
 stT (b16,0) (Qb.c x14) (fun H18=>
 ldT H18 Qb.c (b16,0) fun x19=>
 nw (Qb.c Qb.zero) (fun b21 H22=>
 stT (b21,0) (Qb.c x19) (fun H23=>
 dr H23 fun Hs24=>
 ldS Hs24 ((b1,0).1,(b1,0).2+0) fun x26=>
 catOk x26 ([46]:Str)∧
 ldS Hs24 ((b16,0).1,(b16,0).2+3) fun x29=>
 catOk (x26++([46]:Str)) x29∧
 ldL Hs24 ((b16,0).1,(b16,0).2+4) fun x32=>
 QS C x32 (fun r35 H36=>
 Heap.le Hs24 H36∧
 st ((b21,0).1,(b21,0).2+3) (sv ((x26++([46]:Str))++x29)) (fun H37=>
 st ((b21,0).1,(b21,0).2+4) (slv r35) (fun H38=>
 st ((b21,0).1,(b21,0).2+5) (slv Sl.nil) (fun H39=>
 ldL H39 ((b16,0).1,(b16,0).2+5) fun x40=>
 lp (α:=Int) 0 H39 (fun x42 J43 H44=>
 ift (decide ((x42:Int) < (Sl.len x40:Int)))
 (ixa x40 x42 fun p46=>
 ldT H44 Qj.c (p46.1,p46.2+(x42:Int).toNat*2) fun x51=>
 nw (Qj.c Qj.zero) (fun b53 H54=>
 stT (b53,0) (Qj.c x51) (fun H55=>
 dr H55 fun Hs56=>
 ldL Hs56 ((b21,0).1,(b21,0).2+5) fun x58=>
 ldS Hs56 ((b1,0).1,(b1,0).2+0) fun x60=>
 catOk x60 ([46]:Str)∧
 ldS Hs56 ((b53,0).1,(b53,0).2+0) fun x63=>
 catOk (x60++([46]:Str)) x63∧
 ldT Hs56 Qa.c (b1,0) fun x66=>
 ldL Hs56 ((b53,0).1,(b53,0).2+1) fun x68=>
 ldT Hs56 Qf.c ((b16,0).1,(b16,0).2+0) fun x70=>
 QX C E (some (bp,0)) x66 x68 x70 (fun r73 H74=>
 Heap.le Hs56 H74∧
 nw ((Qj.c (⟨((x60++([46]:Str))++x63),r73⟩:Qj))++[]) (fun b76 H77=>
 Heap.le Hs56 H77∧
 apS (Qj.c Qj.zero) 40 x58 (Sl.of (some (b76,0)) 1 1) (fun r79 H80=>
 Heap.le Hs56 H80∧
 st ((b21,0).1,(b21,0).2+5) (slv r79) (fun H81=>
 J43 (w .i64 (x42+1)) H81) H80) H77) H74) H55) H54) H44)
 (dr H44 fun Hs82=>
 nck (some (bo,0)) fun p84=>
 ldL Hs82 (p84.1,p84.2+2) fun x86=>
 ldT Hs82 Qb.c (b21,0) fun x88=>
 nw ((Qb.c x88)++[]) (fun b91 H92=>
 Heap.le Hs82 H92∧
 apS (Qb.c Qb.zero) 88 x86 (Sl.of (some (b91,0)) 1 1) (fun r94 H95=>
 Heap.le Hs82 H95∧
 nck (some (bo,0)) fun p96=>
 st (p96.1,p96.2+2) (slv r94) (fun H98=>
 J6 (w .i64 (x5+1)) H98) H95) H92) H44))) H38) H37) H36) H23) H22) H18) H17) H7)
 (REST H7)):=by
 have hlen:=SlIs.len hs
 refine ⟨fun y D=>∃ (i:Nat) (a:List TdP) (q':Qa),y=(i:Int)∧i≤l.length∧mpE (tdF T m) (l.take i)=.ok a∧Out A B W D bo q' { o with ty:=o.ty++a },fun y _=>l.length - y.toNat,⟨0,[],q,rfl,Nat.zero_le _,rfl,by rw [List.append_nil]; exact hO⟩,?_⟩
 clear hO
 rintro _ D ⟨i,a,q',rfl,hi',ha,hO⟩
 rw [hlen]
 have hla:=Qck ha
 rw [List.length_take,Nat.min_eq_left hi'] at hla
 refine ift.of (fun h=>?_) (fun h=>?_)
 ·have hlt : i < l.length := by have := of_decide_eq_true h; omega
  refine hs.ld hO.al (fun _=>rfl) (by omega) rfl hlt fun y hy=>?_
  have htd:=hok _ (List.getElem_mem hlt)
  have herr:=fun q=>Qmg (e:=q) hlt ha
  have htk:=fun w=>Qkm (w:=w) hlt ha
  generalize l[i]=v at *
  obtain ⟨e1,e2,e3,e4,e5⟩:=hy
  unfold tdOk TdP.e at htd
  simp only [Bool.and_eq_true,decide_eq_true_eq,List.all_eq_true] at htd
  obtain ⟨⟨⟨⟨⟨t1,t2⟩,t3⟩,t4⟩,t5⟩,t6⟩:=htd
  have hvn:=(Qfb t1).1
  refine boxZ rfl fun b16 D1 n16 l16 h16=>?_
  refine bxT (c:=Qb.c) h16 ?_
  refine boxZ rfl fun b21 D2 n21 l21 h21=>?_
  have hO1:=hO.up l16
  have hO2:=hO1.up l21
  refine ⟨D1,l21,?_⟩
  refine fS (hO1.wle _ _ h1) rfl ⟨?_,fS h16 (j:=3) rfl ⟨?_,fL h16 (j:=4) rfl ?_⟩⟩
  ·rw [hx]; exact cat1 hn
  ·rw [hx,e3.1]; exact cat2 hn (by omega)
  rw [hx,e3.1]
  refine cloneS e4.1 hO2.al (by omega) fun r35 H36 hle36 hG35=>?_
  have h21':=hle36 _ _ h21
  refine ⟨l21.trans hle36,_,h21',by simp [Qb.c],_,Heap.put_same ..,by simp [Qb.c],_,Heap.put_same ..,by simp [Qb.c],?_⟩
  rw [Heap.put_put,Heap.put_put]
  have hA21:A b21=none:=hO1.al.none n21
  have hl36:D1.le H36:=l21.trans hle36
  have hdel:D1.le ((H36.put b21 (.row (Qb.c { y with Name:=dotS m.n v.n,Params:=r35,Cons:=Sl.nil }))).del b21):=Heap.le_del (Qbc hl36 n21) n21
  have hF:(H36.put b21 (.row (Qb.c { y with Name:=dotS m.n v.n,Params:=r35,Cons:=Sl.nil }))) b21=some (true,.row (Qb.c { y with Name:=dotS m.n v.n,Params:=r35,Cons:=Sl.nil })):=Heap.put_same ..
  have hup:∀ (g:GO) (D':Heap),((H36.put b21 (.row (Qb.c { y with Name:=dotS m.n v.n,Params:=r35,Cons:=Sl.nil }))).del b21).le D'→D' b21=some (true,g)→(H36.put b21 g).le D':=fun g D' hd hg b e he=>by
   by_cases hbb:b=b21
   ·rw [hbb,Heap.put_same] at he; rw [hbb,hg]; exact he
   ·rw [Heap.put_ne _ _ _ hbb] at he
    exact hd b e (by rw [Heap.del_ne _ hbb,Heap.put_ne _ _ _ hbb]; exact he)
  have h16F:(H36.put b21 (.row (Qb.c { y with Name:=dotS m.n v.n,Params:=r35,Cons:=Sl.nil }))) b16=some (true,.row (Qb.c y)):=Heap.del_le _ _ _ _ (hdel _ _ h16)
  rw [show Heap.put H36 ((b21,0).1,(b21,0).2+3).1 (GO.row (List.set (List.set (List.set (Qb.c y) ((b21,0).1,(b21,0).2+3).2 (sv (m.n++[46]++v.n))) ((b21,0).1,(b21,0).2+4).2 (slv r35)) ((b21,0).1,(b21,0).2+5).2 (slv Sl.nil)))=H36.put b21 (.row (Qb.c { y with Name:=dotS m.n v.n,Params:=r35,Cons:=Sl.nil })) from rfl]
  have hdomF:∀ b,(H36.put b21 (.row (Qb.c { y with Name:=dotS m.n v.n,Params:=r35,Cons:=Sl.nil }))) b=none→D1 b=none:=fun b hb=>(hdel.trans (Heap.del_le _ _)).none hb
  generalize hF0:H36.put b21 (.row (Qb.c { y with Name:=dotS m.n v.n,Params:=r35,Cons:=Sl.nil }))=F0 at *
  refine fL h16F (j:=5) rfl ?_
  refine uCons (y:=y) (y1:={ y with Name:=dotS m.n v.n,Params:=r35,Cons:=Sl.nil }) hx hi hn (hO1.al.trans hdel) (hdel _ _ (hO1.wle _ _ h1)) (hdel _ _ h16) e1 ((hP.le hO1.wle).le hdel) ((hT.le hO1.wle).le hdel) hF rfl e5 t6 (by omega) (fun D' cs s' hcs hD' hGc hb'=>?_) (fun D' hD' hcs=>ke D' _ _ _ (hO1.up (hdel.trans hD')) (herr _ ?_))
  ·have hO':=hO1.up (hdel.trans hD')
   have hlcs:=Qld hcs
   have hw:tdF T m v=.ok ⟨v.p,v.b,dotS m.n v.n,v.ps,cs⟩:=by unfold tdF; rw [hcs]
   have n21X:b21 ∉ blks q':=fun hm=>by
    obtain ⟨e,he⟩:=hO1.has b21 hm
    rw [n21] at he; cases he
   have nbo:bo≠b21:=fun e=>by have:=hO1.at_; rw [e,n21] at this; cases this
   have hoff:∀ {b:Nat} {e:Bool×GO},b ∉ blks q'→D' b=some e→(Heap.off q'.Types D') b=some e:=fun {b e} hb he=>Heap.off_some he fun p hp e'=>hb (List.mem_append_left _ (QcS.2 ⟨p,hp,e'⟩))
   refine ⟨Heap.off q'.Types D',Heap.off_le _ _,_,rfl,fL (hoff hO'.bx hO'.at_) (j:=2) rfl (bxT (c:=Qb.c) (hoff n21X hb') ?_)⟩
   have key1:(Heap.nw A D2 H36).le (offB (blks q') (Heap.nw A B D')):=(Qko (g:=.row (Qb.c { y with Name:=dotS m.n v.n,Params:=r35,Cons:=s' })) hO2.ab hO2.dom (fun b hb=>⟨hO2.has b hb,hO2.xA b hb⟩) h21 hA21).trans (Qgb (hup _ _ hD' hb'))
   have key2:(Heap.nw A F0 D').le (offB (blks q') (Heap.nw A B D')):=QsK hO2.ab (fun b hb=>hO1.dom b (hdomF b hb)) fun b hb=>⟨by
    obtain ⟨e,he⟩:=hO1.has b hb
    exact ⟨e,Heap.del_le _ _ _ _ (hdel _ _ he)⟩,hO1.xA b hb⟩
   have hRc:∀ {X Y:Heap} {v:CnV} {x:Qj},X.le Y→CnIs X v x→CnIs Y v x:=fun h h'=>CnIs.le h h'
   refine hO'.addT (v:=⟨v.p,v.b,dotS m.n v.n,v.ps,cs⟩) (Heap.le.refl _) (Qum _) ⟨⟨e1,e2,⟨rfl,Qpa hn (by omega)⟩,⟨?_,by obtain ⟨_,_,_,xs,h,_⟩:=hG35; exact h.2.2.1⟩,?_⟩,(hG35.ow.le key1).base hO2.dom,(hGc.ow.le key2).base fun b hb=>hO1.dom b (hdomF b hb)⟩ (by simp only [List.length_append]; omega) fun r D3 hO3=>?_
   ·exact (hG35.is (fun _=>rfl) (by omega) (fun _ h=>h) (by omega)).le key1 fun _ _ _ h=>h
   ·exact (hGc.is (fun _=>rfl) (by omega) hRc (by omega)).le key2 fun _ _ _ h=>hRc key2 h
   ·rw [Qam (by omega) (by omega)]
    have hO4:Out A B W D3 bo _ { o with ty:=(o.ty++a)++[⟨v.p,v.b,dotS m.n v.n,v.ps,cs⟩] }:=hO3
    rw [List.append_assoc] at hO4
    exact ⟨⟨i+1,a++[⟨v.p,v.b,dotS m.n v.n,v.ps,cs⟩],_,by omega,by omega,htk _ hw,hO4⟩,by first | omega | (dsimp only; omega)⟩
  ·unfold tdF; rw [hcs]
 ·have hie : i = l.length := by have := of_decide_eq_false h; omega
  subst hie
  rw [List.take_length] at ha
  exact k _ _ _ ha hO
theorem uRels {T:Tl} {m:MoP} {bp bm:Nat} {sl:Sl} {x:Qa} (hx:x.Name=m.n) (hi:IpL A x.Imports m.im) (hn:m.n.length≤1000) {b1:Nat} {B W H0:Heap} {bo:Nat} {q:Qa} {o:MoP} (hO:Out A B W H0 bo q o)
 (h1:W b1=some (true,.row (Qa.c x))) (hP:Pr W bp bm sl) (hT:TlIs W bm T) {s:Sl} {l:List RdP} (hs:RpL A s l) (hok:∀ t ∈ l,rdOk t.e=true) (hb:o.re.length+l.length≤1000000) {REST:Heap→Prop}
 (k:∀ D q' a,mpE (rdF T m) l=.ok a→Out A B W D bo q' { o with re:=o.re++a }→REST D)
 (ke:∀ D q' o' p,Out A B W D bo q' o'→mpE (rdF T m) l=.error p→E (flt m.n p 63) D) :
 lp (α:=Int) 0 H0 (fun x101 J102 H103=>
 ift (decide ((x101:Int) < (Sl.len s:Int)))
 (ixa s x101 fun p105=>
 ldT H103 Qd.c (p105.1,p105.2+(x101:Int).toNat*6) fun x110=>
 nw (Qd.c Qd.zero) (fun b112 H113=>
 stT (b112,0) (Qd.c x110) (fun H114=>
 dr H114 fun Hs115=>
 ldS Hs115 ((b1,0).1,(b1,0).2+0) fun x117=>
 catOk x117 ([46]:Str)∧
 ldS Hs115 ((b112,0).1,(b112,0).2+4) fun x120=>
 catOk (x117++([46]:Str)) x120∧
 ldT Hs115 Qa.c (b1,0) fun x123=>
 ldL Hs115 ((b112,0).1,(b112,0).2+5) fun x125=>
 ldT Hs115 Qf.c ((b112,0).1,(b112,0).2+0) fun x127=>
 QX C E (some (bp,0)) x123 x125 x127 (fun r130 H131=>
 Heap.le Hs115 H131∧
 st ((b112,0).1,(b112,0).2+4) (sv ((x117++([46]:Str))++x120)) (fun H132=>
 st ((b112,0).1,(b112,0).2+5) (slv r130) (fun H133=>
 dr H133 fun Hs134=>
 nck (some (bo,0)) fun p136=>
 ldL Hs134 (p136.1,p136.2+3) fun x138=>
 ldT Hs134 Qd.c (b112,0) fun x140=>
 nw ((Qd.c x140)++[]) (fun b143 H144=>
 Heap.le Hs134 H144∧
 apS (Qd.c Qd.zero) 64 x138 (Sl.of (some (b143,0)) 1 1) (fun r146 H147=>
 Heap.le Hs134 H147∧
 nck (some (bo,0)) fun p148=>
 st (p148.1,p148.2+3) (slv r146) (fun H150=>
 J102 (w .i64 (x101+1)) H150) H147) H144) H133) H132) H131) H114) H113) H103)
 (REST H103)):=by
 have hlen:=SlIs.len hs
 refine ⟨fun y D=>∃ (i:Nat) (a:List RdP) (q':Qa),y=(i:Int)∧i≤l.length∧mpE (rdF T m) (l.take i)=.ok a∧Out A B W D bo q' { o with re:=o.re++a },fun y _=>l.length - y.toNat,⟨0,[],q,rfl,Nat.zero_le _,rfl,by rw [List.append_nil]; exact hO⟩,?_⟩
 clear hO
 rintro _ D ⟨i,a,q',rfl,hi',ha,hO⟩
 rw [hlen]
 have hla:=Qck ha
 rw [List.length_take,Nat.min_eq_left hi'] at hla
 refine ift.of (fun h=>?_) (fun h=>?_)
 ·have hlt : i < l.length := by have := of_decide_eq_true h; omega
  refine hs.ld hO.al (fun _=>rfl) (by omega) rfl hlt fun y hy=>?_
  have htd:=hok _ (List.getElem_mem hlt)
  have herr:=fun q=>Qmg (e:=q) hlt ha
  have htk:=fun w=>Qkm (w:=w) hlt ha
  generalize l[i]=v at *
  obtain ⟨e1,e2,e3,e4,e5⟩:=hy
  unfold rdOk RdP.e at htd
  rw [Bool.and_eq_true] at htd
  obtain ⟨hf1,hf2⟩:=Qpk htd.2
  have hvn:v.n.length≤32:=(Qfb htd.1).1
  have hf1:v.f.length≤1000:=hf1
  refine boxZ rfl fun b16 D1 n16 l16 h16=>?_
  have hO1:=hO.up l16
  refine ⟨D1,Heap.le.refl _,?_⟩
  refine fS (hO1.wle _ _ h1) rfl ⟨?_,fS h16 (j:=4) rfl ⟨?_,bxT (c:=Qa.c) (hO1.wle _ _ h1) (fL h16 (j:=5) rfl (fPs (x:=y.Pos) h16 rfl rfl ?_))⟩⟩
  ·rw [hx]; exact cat1 hn
  ·rw [hx,e4.1]; exact cat2 hn (by omega)
  rw [hx,e4.1]
  refine QoE hx hi hn hf2 hf1 (hP.le hO1.wle) (hT.le hO1.wle) hO1.al e5 e1 (fun r D2 fl hD2 hfl hGr=>?_) (fun D2 hD2 hfl=>ke D2 _ _ _ (hO1.up hD2) (herr _ ?_))
  ·have hfll:=Qld hfl
   have hw:rdF T m v=.ok ⟨v.p,v.b,v.i,dotS m.n v.n,fl⟩:=by unfold rdF; rw [hfl]
   refine ⟨hD2,_,hD2 _ _ h16,by simp [Qd.c],_,Heap.put_same ..,by simp [Qd.c],?_⟩
   rw [Heap.put_put]
   have hO':=hO.up (Qbc (m:=true) (g:=.row (Qd.c { y with Name:=dotS m.n v.n,Fields:=r })) (l16.trans hD2) n16)
   have hb':(D2.put b16 (.row (Qd.c { y with Name:=dotS m.n v.n,Fields:=r }))) b16=some (true,.row (Qd.c { y with Name:=dotS m.n v.n,Fields:=r })):=Heap.put_same ..
   have key:(Heap.nw A D1 D2).le (offB (blks q') (Heap.nw A B (D2.put b16 (.row (Qd.c { y with Name:=dotS m.n v.n,Fields:=r }))))):=Qko hO1.ab hO1.dom (fun b hb=>⟨hO1.has b hb,hO1.xA b hb⟩) h16 (hO.al.none n16)
   have n16X:b16 ∉ blks q':=fun hm=>by
    obtain ⟨e,he⟩:=hO.has b16 hm
    rw [n16] at he; cases he
   rw [show Heap.put D2 ((b16,0).1,(b16,0).2+4).1 (GO.row (List.set (List.set (Qd.c y) ((b16,0).1,(b16,0).2+4).2 (sv (m.n++[46]++v.n))) ((b16,0).1,(b16,0).2+5).2 (slv r)))=D2.put b16 (.row (Qd.c { y with Name:=dotS m.n v.n,Fields:=r })) from rfl]
   generalize D2.put b16 (.row (Qd.c { y with Name:=dotS m.n v.n,Fields:=r }))=G at *
   have hoff:∀ {b:Nat} {e:Bool×GO},b ∉ blks q'→G b=some e→(Heap.off q'.Rels G) b=some e:=fun {b e} hb he=>Heap.off_some he fun p hp e'=>hb (List.mem_append_right _ (List.mem_append_left _ (QcS.2 ⟨p,hp,e'⟩)))
   refine ⟨Heap.off q'.Rels G,Heap.off_le _ _,_,rfl,fL (hoff hO'.bx hO'.at_) (j:=3) rfl (bxT (c:=Qd.c) (hoff n16X hb') ?_)⟩
   refine hO'.addR (x:={ y with Name:=dotS m.n v.n,Fields:=r }) (v:=⟨v.p,v.b,v.i,dotS m.n v.n,fl⟩) (Heap.le.refl _) (Qui _) ⟨⟨e1,e2,e3,⟨rfl,Qpa hn (by omega)⟩,?_⟩,(hGr.ow.le key).base hO1.dom⟩ (by simp only [List.length_append]; omega) fun r D3 hO3=>?_
   ·exact (hGr.is (fun _=>rfl) (by omega) (fun h h'=>FdIs.le h h') (by omega)).le key fun _ _ _ h=>FdIs.le key h
   ·rw [Qam (by omega) (by omega)]
    have hO4:Out A B W D3 bo _ { o with re:=(o.re++a)++[⟨v.p,v.b,v.i,dotS m.n v.n,fl⟩] }:=hO3
    rw [List.append_assoc] at hO4
    exact ⟨⟨i+1,a++[⟨v.p,v.b,v.i,dotS m.n v.n,fl⟩],_,by omega,by omega,htk _ hw,hO4⟩,by first | omega | (dsimp only; omega)⟩
  ·unfold rdF; rw [hfl]
 ·have hie : i = l.length := by have := of_decide_eq_false h; omega
  subst hie
  rw [List.take_length] at ha
  exact k _ _ _ ha hO
theorem uNevers {T:Tl} {m:MoP} {bp bm:Nat} {sl:Sl} {x:Qa} (hx:x.Name=m.n) (hi:IpL A x.Imports m.im) (hn:m.n.length≤1000) {b1:Nat} {B W H0:Heap} {bo:Nat} {q:Qa} {o:MoP} (hO:Out A B W H0 bo q o)
 (h1:W b1=some (true,.row (Qa.c x))) (hP:Pr W bp bm sl) (hT:TlIs W bm T) {s:Sl} {l:List NeP} (hs:NpL A s l) (hok:∀ t ∈ l,neOk t.e=true∧t.b.length≤12) (hb:o.ne.length+l.length≤1000000) {REST:Heap→Prop}
 (k:∀ D q' a,mpE (neF T m) l=.ok a→Out A B W D bo q' { o with ne:=o.ne++a }→REST D)
 (ke:∀ D q' o' p,Out A B W D bo q' o'→mpE (neF T m) l=.error p→E (flt m.n p 63) D) :
 lp (α:=Int) 0 H0 (fun x235 J236 H237=>
 ift (decide ((x235:Int) < (Sl.len s:Int)))
 (ixa s x235 fun p239=>
 ldT H237 Qn.c (p239.1,p239.2+(x235:Int).toNat*4) fun x244=>
 nw (Qn.c Qn.zero) (fun b246 H247=>
 stT (b246,0) (Qn.c x244) (fun H248=>
 dr H248 fun Hs249=>
 ldS Hs249 ((b1,0).1,(b1,0).2+0) fun x251=>
 catOk x251 ([46]:Str)∧
 ldS Hs249 ((b246,0).1,(b246,0).2+2) fun x254=>
 catOk (x251++([46]:Str)) x254∧
 ldT Hs249 Qa.c (b1,0) fun x257=>
 ldL Hs249 ((b246,0).1,(b246,0).2+3) fun x259=>
 Qax C E (some (bp,0)) x257 x259 (fun r262 H263=>
 Heap.le Hs249 H263∧
 st ((b246,0).1,(b246,0).2+2) (sv ((x251++([46]:Str))++x254)) (fun H264=>
 st ((b246,0).1,(b246,0).2+3) (slv r262) (fun H265=>
 dr H265 fun Hs266=>
 nck (some (bo,0)) fun p268=>
 ldL Hs266 (p268.1,p268.2+5) fun x270=>
 ldT Hs266 Qn.c (b246,0) fun x272=>
 nw ((Qn.c x272)++[]) (fun b275 H276=>
 Heap.le Hs266 H276∧
 apS (Qn.c Qn.zero) 56 x270 (Sl.of (some (b275,0)) 1 1) (fun r278 H279=>
 Heap.le Hs266 H279∧
 nck (some (bo,0)) fun p280=>
 st (p280.1,p280.2+5) (slv r278) (fun H282=>
 J236 (w .i64 (x235+1)) H282) H279) H276) H265) H264) H263) H248) H247) H237)
 (REST H237)):=by
 have hlen:=SlIs.len hs
 refine ⟨fun y D=>∃ (i:Nat) (a:List NeP) (q':Qa),y=(i:Int)∧i≤l.length∧mpE (neF T m) (l.take i)=.ok a∧Out A B W D bo q' { o with ne:=o.ne++a },fun y _=>l.length - y.toNat,⟨0,[],q,rfl,Nat.zero_le _,rfl,by rw [List.append_nil]; exact hO⟩,?_⟩
 clear hO
 rintro _ D ⟨i,a,q',rfl,hi',ha,hO⟩
 rw [hlen]
 have hla:=Qck ha
 rw [List.length_take,Nat.min_eq_left hi'] at hla
 refine ift.of (fun h=>?_) (fun h=>?_)
 ·have hlt : i < l.length := by have := of_decide_eq_true h; omega
  refine hs.ld hO.al (fun _=>rfl) (by omega) rfl hlt fun y hy=>?_
  have htd:=hok _ (List.getElem_mem hlt)
  have herr:=fun q=>Qmg (e:=q) hlt ha
  have htk:=fun w=>Qkm (w:=w) hlt ha
  generalize l[i]=v at *
  obtain ⟨e1,e4,e5⟩:=hy
  obtain ⟨htd,hbl⟩:=htd
  unfold neOk NeP.e at htd
  simp only [Bool.and_eq_true,decide_eq_true_eq,List.all_map,List.all_eq_true,Function.comp_def] at htd
  have hvn:=(Qfb htd.1.1).1
  refine boxZ rfl fun b16 D1 n16 l16 h16=>?_
  have hO1:=hO.up l16
  refine ⟨D1,Heap.le.refl _,?_⟩
  refine fS (hO1.wle _ _ h1) rfl ⟨?_,fS h16 (j:=2) rfl ⟨?_,bxT (c:=Qa.c) (hO1.wle _ _ h1) (fL h16 (j:=3) rfl ?_)⟩⟩
  ·rw [hx]; exact cat1 hn
  ·rw [hx,e4.1]; exact cat2 hn (by omega)
  rw [hx,e4.1]
  refine Qsa hx hi hn htd.2 (by omega) (hP.le hO1.wle) (hT.le hO1.wle) hO1.al e5 (fun r D2 fl hD2 hfl hGr=>?_) (fun D2 q hD2 hfl=>ke D2 _ _ _ (hO1.up hD2) (herr _ ?_))
  ·have hfll:=Qck hfl
   have hw:neF T m v=.ok ⟨v.p,dotS m.n v.n,fl⟩:=by unfold neF; rw [hfl]
   refine ⟨hD2,_,hD2 _ _ h16,by simp [Qn.c],_,Heap.put_same ..,by simp [Qn.c],?_⟩
   rw [Heap.put_put]
   have hO':=hO.up (Qbc (m:=true) (g:=.row (Qn.c { y with Name:=dotS m.n v.n,Body:=r })) (l16.trans hD2) n16)
   have hb':(D2.put b16 (.row (Qn.c { y with Name:=dotS m.n v.n,Body:=r }))) b16=some (true,.row (Qn.c { y with Name:=dotS m.n v.n,Body:=r })):=Heap.put_same ..
   have key:(Heap.nw A D1 D2).le (offB (blks q') (Heap.nw A B (D2.put b16 (.row (Qn.c { y with Name:=dotS m.n v.n,Body:=r }))))):=Qko hO1.ab hO1.dom (fun b hb=>⟨hO1.has b hb,hO1.xA b hb⟩) h16 (hO.al.none n16)
   have n16X:b16 ∉ blks q':=fun hm=>by
    obtain ⟨e,he⟩:=hO.has b16 hm
    rw [n16] at he; cases he
   rw [show Heap.put D2 ((b16,0).1,(b16,0).2+2).1 (GO.row (List.set (List.set (Qn.c y) ((b16,0).1,(b16,0).2+2).2 (sv (m.n++[46]++v.n))) ((b16,0).1,(b16,0).2+3).2 (slv r)))=D2.put b16 (.row (Qn.c { y with Name:=dotS m.n v.n,Body:=r })) from rfl]
   generalize D2.put b16 (.row (Qn.c { y with Name:=dotS m.n v.n,Body:=r }))=G at *
   have hoff:∀ {b:Nat} {e:Bool×GO},b ∉ blks q'→G b=some e→(Heap.off q'.Nevers G) b=some e:=fun {b e} hb he=>Heap.off_some he fun p hp e'=>hb (List.mem_append_right _ (List.mem_append_right _ (List.mem_append_right _ (QcS.2 ⟨p,hp,e'⟩))))
   refine ⟨Heap.off q'.Nevers G,Heap.off_le _ _,_,rfl,fL (hoff hO'.bx hO'.at_) (j:=5) rfl (bxT (c:=Qn.c) (hoff n16X hb') ?_)⟩
   refine hO'.addN (x:={ y with Name:=dotS m.n v.n,Body:=r }) (v:=⟨v.p,dotS m.n v.n,fl⟩) (Heap.le.refl _) (QvI _) ⟨e1,⟨rfl,Qpa hn (by omega)⟩,?_⟩ (by simp only [List.length_append]; omega) fun r D3 hO3=>?_
   ·exact (hGr.is (fun _=>rfl) (by omega) (fun h h'=>LpIs.le h h') (by omega)).le key fun _ _ _ h=>LpIs.le key h
   ·rw [Qam (by omega) (by omega)]
    have hO4:Out A B W D3 bo _ { o with ne:=(o.ne++a)++[⟨v.p,dotS m.n v.n,fl⟩] }:=hO3
    rw [List.append_assoc] at hO4
    exact ⟨⟨i+1,a++[⟨v.p,dotS m.n v.n,fl⟩],_,by omega,by omega,htk _ hw,hO4⟩,by first | omega | (dsimp only; omega)⟩
  ·unfold neF; rw [hfl]
 ·have hie : i = l.length := by have := of_decide_eq_false h; omega
  subst hie
  rw [List.take_length] at ha
  exact k _ _ _ ha hO
theorem uRules {T:Tl} {m:MoP} {bp bm:Nat} {sl:Sl} {x:Qa} (hx:x.Name=m.n) (hi:IpL A x.Imports m.im) (hn:m.n.length≤1000) {b1:Nat} {B W H0:Heap} {bo:Nat} {q:Qa} {o:MoP} (hO:Out A B W H0 bo q o)
 (h1:W b1=some (true,.row (Qa.c x))) (hP:Pr W bp bm sl) (hT:TlIs W bm T) {s:Sl} {l:List RuP} (hs:UpL A s l) (hok:∀ t ∈ l,ruOk t.e=true∧t.b.length≤12) (hb:o.ru.length+l.length≤1000000) {REST:Heap→Prop}
 (k:∀ D q' a,mpE (ruF T m) l=.ok a→Out A B W D bo q' { o with ru:=o.ru++a }→REST D)
 (ke:∀ D q' o' p,Out A B W D bo q' o'→mpE (ruF T m) l=.error p→E (flt m.n p 63) D) :
 lp (α:=Int) 0 H0 (fun x153 J154 H155=>
 ift (decide ((x153:Int) < (Sl.len s:Int)))
 (ixa s x153 fun p157=>
 ldT H155 Qk.c (p157.1,p157.2+(x153:Int).toNat*6) fun x162=>
 nw (Qk.c Qk.zero) (fun b164 H165=>
 stT (b164,0) (Qk.c x162) (fun H166=>
 jn (α:=Unit) (fun x168 H169=>
 dr H169 fun Hs193=>
 ldT Hs193 Qa.c (b1,0) fun x195=>
 ldL Hs193 ((b164,0).1,(b164,0).2+3) fun x197=>
 ldL Hs193 ((b164,0).1,(b164,0).2+4) fun x199=>
 Qaq C E (some (bp,0)) x195 x197 (fun r202 H203=>
 Heap.le Hs193 H203∧
 QS C x199 (fun r205 H206=>
 Heap.le Hs193 H206∧
 st ((b164,0).1,(b164,0).2+3) (slv r202) (fun H207=>
 st ((b164,0).1,(b164,0).2+4) (slv r205) (fun H208=>
 ldT H208 Qa.c (b1,0) fun x209=>
 ldL H208 ((b164,0).1,(b164,0).2+5) fun x211=>
 Qax C E (some (bp,0)) x209 x211 (fun r213 H214=>
 st ((b164,0).1,(b164,0).2+5) (slv r213) (fun H215=>
 dr H215 fun Hs216=>
 nck (some (bo,0)) fun p218=>
 ldL Hs216 (p218.1,p218.2+4) fun x220=>
 ldT Hs216 Qk.c (b164,0) fun x222=>
 nw ((Qk.c x222)++[]) (fun b225 H226=>
 Heap.le Hs216 H226∧
 apS (Qk.c Qk.zero) 104 x220 (Sl.of (some (b225,0)) 1 1) (fun r228 H229=>
 Heap.le Hs216 H229∧
 nck (some (bo,0)) fun p230=>
 st (p230.1,p230.2+4) (slv r228) (fun H232=>
 J154 (w .i64 (x153+1)) H232) H229) H226) H215) H214) H208) H207) H206) H203) H169)
 (fun J167=>ldT H166 Qa.c (b1,0) fun x171=>
 ldS H166 ((b164,0).1,(b164,0).2+2) fun x173=>
 ldT H166 Qf.c ((b164,0).1,(b164,0).2+0) fun x175=>
 Qag C E (some (bp,0)) x171 x173 2 x175 (fun r177 H178=>
 st ((b164,0).1,(b164,0).2+2) (sv r177) (fun H179=>
 ldS H179 ((b164,0).1,(b164,0).2+2) fun x180=>
 ldS H179 ((b1,0).1,(b1,0).2+0) fun x182=>
 catOk x182 ([46]:Str)∧
 Qcc C x180 (x182++([46]:Str)) (fun r185 H186=>
 ift (!r185)
 (ldT H186 Qa.c (b1,0) fun x188=>
 ldT H186 Qf.c ((b164,0).1,(b164,0).2+0) fun x190=>
 QG C E x188 x190 63 (fun H192=>
 J167 () H192) H186)
 (J167 () H186)) H179) H178) H166)) H165) H155)
 (REST H155)):=by
 have hlen:=SlIs.len hs
 refine ⟨fun y D=>∃ (i:Nat) (a:List RuP) (q':Qa),y=(i:Int)∧i≤l.length∧mpE (ruF T m) (l.take i)=.ok a∧Out A B W D bo q' { o with ru:=o.ru++a },fun y _=>l.length - y.toNat,⟨0,[],q,rfl,Nat.zero_le _,rfl,by rw [List.append_nil]; exact hO⟩,?_⟩
 clear hO
 rintro _ D ⟨i,a,q',rfl,hi',ha,hO⟩
 rw [hlen]
 have hla:=Qck ha
 rw [List.length_take,Nat.min_eq_left hi'] at hla
 refine ift.of (fun h=>?_) (fun h=>?_)
 ·have hlt : i < l.length := by have := of_decide_eq_true h; omega
  refine hs.ld hO.al (fun _=>rfl) (by omega) rfl hlt fun y hy=>?_
  have htd:=hok _ (List.getElem_mem hlt)
  have herr:=fun q=>Qmg (e:=q) hlt ha
  have htk:=fun w=>Qkm (w:=w) hlt ha
  generalize l[i]=v at *
  obtain ⟨e1,e2,e3,e4,e5⟩:=hy
  obtain ⟨htd,hbl⟩:=htd
  unfold ruOk RuP.e at htd
  simp only [Bool.and_eq_true,decide_eq_true_eq,List.all_map,List.all_eq_true,Function.comp_def,List.length_map] at htd
  obtain ⟨⟨⟨⟨⟨t1,t2⟩,t3⟩,t4⟩,t5⟩,t6⟩:=htd
  have hvn:=(QlB t1).1
  refine boxZ rfl fun b16 D1 n16 l16 h16=>?_
  have hO1:=hO.up l16
  have hA16:=hO.al.none n16
  have n16X:b16 ∉ blks q':=fun hm=>by
   obtain ⟨e,he⟩:=hO.has b16 hm
   rw [n16] at he; cases he
  refine ⟨fun _ F=>∃ n',meanF T m v.r 2=some n'∧(m.n++[46]).isPrefixOf n' = true∧D.le F∧F b16=some (true,.row (Qk.c { y with Rel:=n' }))∧Nm n' n',?_,?_⟩
  ·refine bxT (c:=Qa.c) (hO1.wle _ _ h1) (fS h16 (j:=2) rfl (fPs (x:=y.Pos) h16 rfl rfl ?_))
   refine Qpr (hP.le hO1.wle) (hT.le hO1.wle) hx hi hO1.al e2.1 e1 (by omega) hn (fun r F hF hr=>?_) (fun F hF hr=>ke F _ _ _ (hO1.up hF) (herr _ ?_))
   ·have hF16:=hF _ _ h16
    have hrl:=QlC (B:=1000) (by omega) hn hr
    refine ⟨_,hF16,by simp [Qk.c],?_⟩
    rw [show Heap.put F ((b16,0).1,(b16,0).2+2).1 (GO.row (List.set (Qk.c y) ((b16,0).1,(b16,0).2+2).2 (sv r)))=F.put b16 (.row (Qk.c { y with Rel:=r })) from rfl]
    have hDG:D.le (F.put b16 (.row (Qk.c { y with Rel:=r }))):=Qbc (l16.trans hF) n16
    have hb':(F.put b16 (.row (Qk.c { y with Rel:=r }))) b16=some (true,.row (Qk.c { y with Rel:=r })):=Heap.put_same ..
    generalize F.put b16 (.row (Qk.c { y with Rel:=r }))=G at *
    have hOG:=hO.up hDG
    refine fS hb' (j:=2) rfl (fS (hOG.wle _ _ h1) rfl ⟨?_,?_⟩)
    ·rw [hx]; exact cat1 hn
    rw [hx]
    apply QfF
    unfold QdI
    refine QjL (ift.of (fun h=>?_) (fun h=>?_))
    ·refine bxT (c:=Qa.c) (hOG.wle _ _ h1) (fPs (x:=y.Pos) hb' rfl rfl ?_)
     refine QdY hx e1 fun D2 hD2=>ke D2 _ _ _ (hOG.up hD2) (herr _ ?_)
     unfold ruF
     rw [hr]
     dsimp only
     rw [if_pos (by simpa using h)]
    ·exact ⟨r,hr,by simpa using h,hDG,hb',rfl,by omega⟩
   ·unfold ruF; rw [hr]
  ·rintro _ F ⟨n',hn',hpre,hDF,hb',hnm⟩
   have hOF:=hO.up hDF
   refine ⟨F,Heap.le.refl _,?_⟩
   refine bxT (c:=Qa.c) (hOF.wle _ _ h1) (fL hb' (j:=3) rfl (fL hb' (j:=4) rfl ?_))
   have hru:∀ q,mpE (exF T m) v.a=.error q→ruF T m v=.error q:=fun q hq=>by
    unfold ruF
    rw [hn']
    dsimp only
    rw [if_neg (by rw [hpre]; decide),hq]
   refine QpV hx hi hn (Qpg t4) (by omega) (hP.le hOF.wle) (hT.le hOF.wle) hOF.al e3 (fun r3 H3 la hF3 hla' hG3=>?_) (fun H3 q hF3 hq=>ke H3 _ _ _ (hOF.up hF3) (herr _ (hru _ hq)))
   refine ⟨hF3,?_⟩
   have hO3:=hOF.up hF3
   refine cloneS e4 hO3.al (by omega) fun r4 H4 h34 hG4=>?_
   have hF4:=hF3.trans h34
   refine ⟨hF4,_,hF4 _ _ hb',by simp [Qk.c],_,Heap.put_same ..,by simp [Qk.c],?_⟩
   rw [Heap.put_put]
   have hD5:D.le (H4.put b16 (.row (Qk.c { y with Rel:=n',Args:=r3,Aggs:=r4 }))):=Qbc (hDF.trans hF4) n16
   have hb5:(H4.put b16 (.row (Qk.c { y with Rel:=n',Args:=r3,Aggs:=r4 }))) b16=some (true,.row (Qk.c { y with Rel:=n',Args:=r3,Aggs:=r4 })):=Heap.put_same ..
   have h45:∀ {b:Nat} {e:Bool×GO},b≠b16→H4 b=some e→(H4.put b16 (.row (Qk.c { y with Rel:=n',Args:=r3,Aggs:=r4 }))) b=some e:=fun {b e} hb he=>by rw [Heap.put_ne _ _ _ hb]; exact he
   rw [show Heap.put H4 ((b16,0).1,(b16,0).2+3).1 (GO.row (List.set (List.set (Qk.c { y with Rel:=n' }) ((b16,0).1,(b16,0).2+3).2 (slv r3)) ((b16,0).1,(b16,0).2+4).2 (slv r4)))=H4.put b16 (.row (Qk.c { y with Rel:=n',Args:=r3,Aggs:=r4 })) from rfl]
   generalize H4.put b16 (.row (Qk.c { y with Rel:=n',Args:=r3,Aggs:=r4 }))=H5 at *
   have hO5:=hO.up hD5
   refine bxT (c:=Qa.c) (hO5.wle _ _ h1) (fL hb5 (j:=5) rfl ?_)
   refine Qsa hx hi hn t5 (by omega) (hP.le hO5.wle) (hT.le hO5.wle) hO5.al e5 (fun r5 H6 lb h56 hlb hG6=>?_) (fun H6 q h56 hq=>ke H6 _ _ _ (hO5.up h56) (herr _ ?_))
   ·have hla2:=Qck hla'
    have hlb2:=Qck hlb
    have hw:ruF T m v=.ok ⟨v.p,n',la,v.g,lb⟩:=by
     unfold ruF
     rw [hn']
     dsimp only
     rw [if_neg (by rw [hpre]; decide),hla']
     dsimp only
     rw [hlb]
    refine ⟨_,h56 _ _ hb5,by simp [Qk.c],?_⟩
    rw [show Heap.put H6 ((b16,0).1,(b16,0).2+5).1 (GO.row (List.set (Qk.c { y with Rel:=n',Args:=r3,Aggs:=r4 }) ((b16,0).1,(b16,0).2+5).2 (slv r5)))=H6.put b16 (.row (Qk.c { y with Rel:=n',Args:=r3,Aggs:=r4,Body:=r5 })) from rfl]
    have hO':=hO.up (Qbc (m:=true) (g:=.row (Qk.c { y with Rel:=n',Args:=r3,Aggs:=r4,Body:=r5 })) (hD5.trans h56) n16)
    have hb7:(H6.put b16 (.row (Qk.c { y with Rel:=n',Args:=r3,Aggs:=r4,Body:=r5 }))) b16=some (true,.row (Qk.c { y with Rel:=n',Args:=r3,Aggs:=r4,Body:=r5 })):=Heap.put_same ..
    have up:∀ {X:Heap},X.le H4→(X.put b16 (.row (Qk.c { y with Rel:=n',Args:=r3,Aggs:=r4,Body:=r5 }))).le (H6.put b16 (.row (Qk.c { y with Rel:=n',Args:=r3,Aggs:=r4,Body:=r5 }))):=fun {X} hX b e he=>by
     by_cases hbb:b=b16
     ·subst hbb; rw [Heap.put_same] at he ⊢; exact he
     ·rw [Heap.put_ne _ _ _ hbb] at he ⊢
      exact h56 b e (h45 hbb (hX b e he))
    have hX:∀ {F:Heap},D.le F→∀ b ∈ blks q',(∃ e,F b=some e)∧A b=none:=fun {F} hF b hb=>⟨by obtain ⟨e,he⟩:=hO.has b hb; exact ⟨e,hF _ _ he⟩,hO.xA b hb⟩
    have hdm:∀ {F:Heap},D.le F→∀ b,F b=none→B b=none:=fun {F} hF b hb=>hO.dom b (hF.none hb)
    have key3:=(Qko (G:=H3) (g:=.row (Qk.c { y with Rel:=n',Args:=r3,Aggs:=r4,Body:=r5 })) hO.ab (hdm hDF) (hX hDF) hb' hA16).trans (Qgb (up h34))
    have key4:=(Qko (G:=H4) (g:=.row (Qk.c { y with Rel:=n',Args:=r3,Aggs:=r4,Body:=r5 })) hO.ab (hdm (hDF.trans hF3)) (hX (hDF.trans hF3)) (hF3 _ _ hb') hA16).trans (Qgb (up (Heap.le.refl _)))
    have key6:=Qko (G:=H6) (g:=.row (Qk.c { y with Rel:=n',Args:=r3,Aggs:=r4,Body:=r5 })) hO.ab (hdm hD5) (hX hD5) hb5 hA16
    generalize H6.put b16 (.row (Qk.c { y with Rel:=n',Args:=r3,Aggs:=r4,Body:=r5 }))=G at *
    have hoff:∀ {b:Nat} {e:Bool×GO},b ∉ blks q'→G b=some e→(Heap.off q'.Rules G) b=some e:=fun {b e} hb he=>Heap.off_some he fun p hp e'=>hb (List.mem_append_right _ (List.mem_append_right _ (List.mem_append_left _ (QcS.2 ⟨p,hp,e'⟩))))
    refine ⟨Heap.off q'.Rules G,Heap.off_le _ _,_,rfl,fL (hoff hO'.bx hO'.at_) (j:=4) rfl (bxT (c:=Qk.c) (hoff n16X hb7) ?_)⟩
    refine hO'.addU (x:={ y with Rel:=n',Args:=r3,Aggs:=r4,Body:=r5 }) (v:=⟨v.p,n',la,v.g,lb⟩) (Heap.le.refl _) (QvO _) ⟨⟨e1,hnm,?_,?_,?_⟩,(hG3.ow.le key3).base (hdm hDF),(hG4.ow.le key4).base (hdm (hDF.trans hF3)),(hG6.ow.le key6).base (hdm hD5)⟩ (by simp only [List.length_append]; omega) fun r D3 hO3=>?_
    ·exact (hG3.is (fun _=>rfl) (by omega) (fun h h'=>EpIs.le h _ _ h') (by omega)).le key3 fun _ _ _ h=>EpIs.le key3 _ _ h
    ·exact (hG4.is (fun _=>rfl) (by omega) (fun _ h=>h) (by omega)).le key4 fun _ _ _ h=>h
    ·exact (hG6.is (fun _=>rfl) (by omega) (fun h h'=>LpIs.le h h') (by omega)).le key6 fun _ _ _ h=>LpIs.le key6 h
    ·rw [Qam (by omega) (by omega)]
     have hO4:Out A B W D3 bo _ { o with ru:=(o.ru++a)++[⟨v.p,n',la,v.g,lb⟩] }:=hO3
     rw [List.append_assoc] at hO4
     exact ⟨⟨i+1,a++[⟨v.p,n',la,v.g,lb⟩],_,by omega,by omega,htk _ hw,hO4⟩,by first | omega | (dsimp only; omega)⟩
   ·unfold ruF
    rw [hn']
    dsimp only
    rw [if_neg (by rw [hpre]; decide),hla']
    dsimp only
    rw [hq]
 ·have hie : i = l.length := by have := of_decide_eq_false h; omega
  subst hie
  rw [List.take_length] at ha
  exact k _ _ _ ha hO
end
end
section
open Go Go.Proofs
theorem moC0 {m:MoV} (h:moC m=0):moD m≤64∧moOk m=true∧moFew m=true:=by
 unfold moC at h
 split at h
 ·cases h
 ·split at h
  ·cases h
  ·split at h
   ·cases h
   ·rename_i h1 h2 h3
    exact ⟨by omega,by simpa using h2,by simpa using h3⟩
/-- what is known of a module that passes -/
structure MoG (m:MoP):Prop where
 n:m.n.length≤32
 im:∀ x ∈ m.im,x.n.length≤32
 ty:∀ t ∈ m.ty,tdOk t.e=true
 re:∀ t ∈ m.re,rdOk t.e=true
 ru:∀ t ∈ m.ru,ruOk t.e=true∧t.b.length≤12
 ne:∀ t ∈ m.ne,neOk t.e=true∧t.b.length≤12
 li:m.im.length≤8
 lt:m.ty.length≤64
 lr:m.re.length≤64
 lu:m.ru.length≤256
 ln:m.ne.length≤256
theorem moG {m:MoP} (h:moC m.e=0):MoG m:=by
 obtain ⟨_,h1,h2⟩:=moC0 h
 unfold moOk moFew MoP.e at *
 simp only [Bool.and_eq_true,decide_eq_true_eq,List.all_map,List.all_eq_true,Function.comp_def,List.length_map,RuP.e,NeP.e] at h1 h2
 obtain ⟨⟨⟨⟨⟨a1,a2⟩,a3⟩,a4⟩,a5⟩,a6⟩:=h1
 obtain ⟨⟨⟨⟨⟨⟨b1,b2⟩,b3⟩,b4⟩,b5⟩,b6⟩,b7⟩:=h2
 exact ⟨(Qfb a1).1,fun x hx=>(Qfb (a2 x hx)).1,a3,a4,fun t ht=>⟨a5 t ht,b6 t ht⟩,fun t ht=>⟨a6 t ht,b7 t ht⟩,b1,b2,b3,b4,b5⟩
section
variable {C:Ctx} {A B W H:Heap} {E:Value→Heap→Prop}
theorem Qvh {T:Tl} {m o:MoP} {bp bm bo:Nat} {sl:Sl} {x q:Qa} {K:Heap→Prop} (hO:Out A B W H bo q o) (hP:Pr W bp bm sl) (hT:TlIs W bm T) (hm:MpIs A m x) (hg:MoG m)
 (hb:o.ty.length≤900000∧o.re.length≤900000∧o.ru.length≤900000∧o.ne.length≤900000)
 (k:∀ D q' o',usedF T o m=.ok o'→Out A B W D bo q' o'→K D) (ke:∀ D q' o' p,Out A B W D bo q' o'→usedF T o m=.error p→E (flt m.n p 63) D):Qc7 C E (some (bp,0)) (some (bo,0)) x K H:=by
 obtain ⟨m1,m2,m3,m4,m5,m6⟩:=hm
 have hn:=hg.n
 have gt:=hg.lt
 have gr:=hg.lr
 have gu:=hg.lu
 have gn:=hg.ln
 apply Qi6
 unfold QeZ
 refine box1N fun b1 H2 n1 e1 l1 h1=>fL h1 (j:=2) rfl ?_
 have hO2:=hO.up l1
 have hWn:W b1=none:=hO.wle.none n1
 have hW1:W.le (W.put b1 (.row (Qa.c x))):=Heap.le_put hWn
 have h1W:(W.put b1 (.row (Qa.c x))) b1=some (true,.row (Qa.c x)):=Heap.put_same ..
 have hne:∀ b,(∃ e,H b=some e)→b≠b1:=fun b ⟨e,he⟩ e'=>by rw [e',n1] at he; cases he
 have hO3:Out A B (W.put b1 (.row (Qa.c x))) H2 bo q o:=hO2.keep (hO2.aw.trans hW1) (by
  rw [e1]
  intro b e hb
  by_cases hbb:b=b1
  ·subst hbb; rw [Heap.put_same] at hb ⊢; exact hb
  ·rw [Heap.put_ne _ _ _ hbb] at hb ⊢; exact hO.wle b e hb) (by rw [Heap.put_ne _ _ _ (hne bo ⟨_,hO.at_⟩)]; exact hO.wo) fun b hb=>by rw [Heap.put_ne _ _ _ (hne b (hO.has b hb))]; exact (hO.fr b hb).2
 have back:∀ {D q' o'},Out A B (W.put b1 (.row (Qa.c x))) D bo q' o'→Out A B W D bo q' o':=fun h=>h.keep hO.aw (hW1.trans h.wle) hO.wo fun b hb=>hW1.none (h.fr b hb).2
 have hP1:=hP.le hW1
 have hT1:=hT.le hW1
 generalize W.put b1 (.row (Qa.c x))=W1 at *
 refine uTypes m1.1 m2.1 (by omega) hO3 h1W hP1 hT1 m3 hg.ty (by omega) (fun D1 q1 a ha hOa=>?_) (fun D q' o' p hO' hp=>ke D q' o' p (back hO') (by unfold usedF; rw [hp]))
 have la:=Qck ha
 refine fL (hOa.wle _ _ h1W) (j:=3) rfl ?_
 refine uRels m1.1 m2.1 (by omega) hOa h1W hP1 hT1 m4 hg.re (by dsimp only; omega) (fun D2 q2 b hb2 hOb=>?_) (fun D q' o' p hO' hp=>ke D q' o' p (back hO') (by unfold usedF; rw [ha]; dsimp only; rw [hp]))
 refine fL (hOb.wle _ _ h1W) (j:=4) rfl ?_
 refine uRules m1.1 m2.1 (by omega) hOb h1W hP1 hT1 m5 hg.ru (by dsimp only; omega) (fun D3 q3 c hc hOc=>?_) (fun D q' o' p hO' hp=>ke D q' o' p (back hO') (by unfold usedF; rw [ha]; dsimp only; rw [hb2]; dsimp only; rw [hp]))
 refine fL (hOc.wle _ _ h1W) (j:=5) rfl ?_
 refine uNevers m1.1 m2.1 (by omega) hOc h1W hP1 hT1 m6 hg.ne (by dsimp only; omega) (fun D4 q4 d hd hOd=>?_) (fun D q' o' p hO' hp=>ke D q' o' p (back hO') (by unfold usedF; rw [ha]; dsimp only; rw [hb2]; dsimp only; rw [hc]; dsimp only; rw [hp]))
 exact k D4 q4 _ (by unfold usedF; rw [ha]; dsimp only; rw [hb2]; dsimp only; rw [hc]; dsimp only; rw [hd]) (back hOd)
end
end
section
open Go Go.Proofs
theorem Qnx (ps:List Str):∀ l:List TyV,freeTys ps l=l.any (freeTy ps)
 | []=>rfl
 | v::l=>by rw [freeTys,Qnx ps l,List.any_cons]
theorem QrF (ps:List Str) (v:TyV):freeTy ps v=if v.n.headD 0=39 then !ps.contains v.n else v.a.any (freeTy ps):=by
 obtain ⟨n,a⟩:=v
 rw [freeTy,Qnx]; rfl
theorem SlIs.nil {α β:Type} {R:α→β→Prop} {c:β→List Value} {A:Heap}:SlIs R c A Sl.nil ([]:List α):=⟨[],.inl rfl,rfl,rfl,by simp,fun i v x h=>by simp at h⟩
theorem Qrb {β:Type} {c:β→List Value} {z:Nat} (hz:∀ x,(c x).length=z):∀ (n:Nat) (xs:List β),(xs.take n).flatMap c=(xs.flatMap c).take (n*z)
 | 0,xs=>by simp
 | n+1,[]=>by simp
 | n+1,x::xs=>by
  rw [List.take_succ_cons,List.flatMap_cons,List.flatMap_cons,Qrb hz n xs,List.take_append,hz,List.take_of_length_le (l:=c x) (by rw [hz,Nat.succ_mul]; omega),Nat.succ_mul,Nat.add_sub_cancel]
/-- a beginning of a list -/
theorem SlIs.pre {α β:Type} {R:α→β→Prop} {c:β→List Value} {z:Nat} {A:Heap} {s:Sl} {l:List α} {i:Nat} {e:Int} {K:Sl→Prop} (h:SlIs R c A s l) (hz:∀ x,(c x).length=z) (hc:s.len≤s.cap) (he:e=(i:Int)) (hi:i≤l.length) (k:∀ t,SlIs R c A t (l.take i)→K t):slL s 0 e (s.cap:Int) z K:=by
 subst he
 obtain ⟨xs,h1,h2,h3,h4,h5⟩:=h
 have r1:=QrP h1 (lo:=0) (hi:=(i:Int)) (mx:=(s.cap:Int)) (z:=z) (by omega) (by omega) (by omega) (by simp)
 rw [show (0:Int).toNat*z=0 by simp,List.drop_zero,show ((i:Int) - 0).toNat=i by omega,← Qrb hz] at r1
 simp only [show ((s.cap:Int) - 0).toNat=s.cap by omega] at r1
 refine ⟨by omega,by omega,by omega,by omega,_,rfl,k _ ⟨xs.take i,?_,?_,?_,?_,?_⟩⟩
 ·simpa using r1
 ·simp only [List.length_take]; omega
 ·simp only [List.length_take]; omega
 ·simp only [List.length_take]; omega
 ·intro j v x hv hx
  rw [List.getElem?_take] at hv hx
  split at hv
  ·rename_i hj
   rw [if_pos hj] at hx
   exact h5 j v x hv hx
  ·cases hv
section
variable {C:Ctx} {A:Heap} {E:Value→Heap→Prop}
theorem QuI:∀ (v:TyV),tyOk v=true→∀ {t:Qg} {H:Heap} {s:Sl} {ps:List Str} {K:Bool→Heap→Prop},A.le H→TyIs A v t→StL A s ps→(∀ D,H.le D→K (freeTy ps v) D)→QfX C t s K H:=by
 refine TyV.rec_ fun v ih hok t H s ps K hA ht hs k=>?_
 obtain ⟨hN,hok⟩:=(Qrs v).1 hok
 obtain ⟨hnl,hne,hal⟩:=Qrr hN
 obtain ⟨ht1,ht2⟩:=Qer.1 ht
 rw [QrF] at k
 apply Qoa
 unfold QkT
 refine box1N fun b1 H2 n1 _ l1 h1=>box1N fun b3 H4 n3 _ l3 h3=>?_
 have h1:=l3 _ _ h1
 have hH4:=l1.trans l3
 refine fS h1 rfl ?_
 rw [ht1.1]
 obtain ⟨c,cs,hc⟩:=List.exists_cons_of_ne_nil hne
 refine ⟨c,by omega,by rw [hc]; rfl,?_⟩
 have hh:v.n.headD 0=c:=by rw [hc]; rfl
 rw [hh] at k
 refine ift.of (fun h=>?_) (fun h=>?_)
 ·have hc9 : c = 39 := by
   have h':(c.toNat:Int)=39:=by simpa using h
   have:c.toNat=39:=by omega
   exact UInt8.toNat_inj.1 (by rw [this]; rfl)
  rw [if_pos hc9] at k
  refine ⟨s,by rw [QaE h3]; rfl,fS h1 rfl ?_⟩
  rw [ht1.1]
  exact contS hs (hA.trans hH4) (k _ hH4)
 ·have hc9 : c ≠ 39 := fun e => by rw [e] at h; exact absurd h (by decide)
  rw [if_neg hc9] at k
  refine fL h1 rfl ?_
  refine cfType (R:=TyIs A) (ok:=freeTy ps) ht2 (hA.trans hH4) ?_ fun D hD=>k D (hH4.trans hD)
  intro w hw y D Φ hD hy hΦ
  refine ⟨203,[],[pv (some (b3,0))],rfl,QmQ,QmJ C y (b3,0) Φ D ?_⟩
  unfold QiV
  refine box1N fun b2 H3 _ _ l2 h2=>bxT (c:=Qg.c) h2 ⟨s,by rw [QaE (l2 _ _ (hD _ _ h3))]; rfl,?_⟩
  exact ih w hw (hok w hw) ((hA.trans hH4).trans (hD.trans l2)) hy hs fun D2 hD2=>hΦ D2 (l2.trans hD2)
theorem QsM {H:Heap} {s q:Sl} {ps:List Str} {l:List FdV} {K:Bool→Heap→Prop} (hA:A.le H) (hl:FdL A q l) (hok:∀ f ∈ l,tyOk f.t=true) (hs:StL A s ps) (k:∀ D,H.le D→K (openF ps l) D):QfY C q s K H:=by
 apply Qob
 unfold QkU
 refine box1N fun b1 H2 n1 _ l1 h1=>?_
 refine cfFieldDef (R:=FdIs A) (ok:=fun f=>freeTy ps f.t) hl (hA.trans l1) ?_ fun D hD=>k D (l1.trans hD)
 intro w hw y D Φ hD hy hΦ
 refine ⟨153,[],[pv (some (b1,0))],rfl,QmR,QmK C y (b1,0) Φ D ?_⟩
 unfold QiW
 refine box1N fun b2 H3 _ _ l2 h2=>fT (c:=Qg.c) (x:=y.Type_) h2 (fun i v hv=>by match i,hv with | 0,hv=>exact hv | 1,hv=>exact hv) ⟨s,by rw [QaE (l2 _ _ (hD _ _ h1))]; rfl,?_⟩
 exact QuI w.t (hok w hw) ((hA.trans l1).trans (hD.trans l2)) hy.2 hs fun D2 hD2=>hΦ D2 (l2.trans hD2)
end
def Kp (bm:Nat) (H D:Heap):Prop:=(H.del bm).le D
section
variable {bm:Nat} {A H D D2:Heap}
theorem Kp.of (h:H.le D):Kp bm H D:=(Heap.del_le _ _).trans h
theorem Kp.refl:Kp bm H H:=Heap.del_le _ _
theorem Kp.at_ (h:Kp bm H D) {b:Nat} {e:Bool×GO} (hb:b≠bm) (he:H b=some e):D b=some e:=h b e (by rw [Heap.del_ne _ hb]; exact he)
theorem Kp.trans (h:Kp bm H D) (h2:Kp bm D D2):Kp bm H D2:=fun b e hb=>by
 have hne:b≠bm:=fun e'=>by rw [e',Heap.del_same] at hb; cases hb
 rw [Heap.del_ne _ hne] at hb
 exact h2.at_ hne (h.at_ hne hb)
theorem Kp.al (h:Kp bm H D) (hA:A.le H) (hn:A bm=none):A.le D:=fun b e hb=>h.at_ (fun e'=>by rw [e',hn] at hb; cases hb) (hA b e hb)
theorem Kp.pr {bp bq:Nat} {sl:Sl} (h:Kp bm H D) (hn:bp≠bm) (hP:Pr H bp bq sl):Pr D bp bq sl:=by
 obtain ⟨m,hP⟩:=hP.at_
 exact ⟨m,h.at_ hn hP⟩
theorem TlIs.has {T:Tl} (h:TlIs H bm T):∃ e,H bm=some e:=by
 obtain ⟨l,⟨es,ck,h1⟩,_⟩:=h
 exact ⟨_,h1.at_⟩
end
theorem Qrh {κ α:Type} [DecidableEq κ] {k k2:κ} {b:α}:∀ {T:List (κ×α)},lkL k T=none→lkL k2 (T++[(k,b)])=if k2=k then some b else lkL k2 T
 | [],_=>by
  by_cases h:k2=k
  ·simp [lkL,h]
  ·simp [lkL,h,Ne.symm h,eq_comm]
 | p::T,hn=>by
  simp only [lkL] at hn
  by_cases hp:p.1=k
  ·rw [if_pos hp] at hn; cases hn
  ·rw [if_neg hp] at hn
   simp only [List.cons_append,lkL,Qrh hn]
   by_cases h2:p.1=k2
   ·rw [if_pos h2,if_pos h2,if_neg fun e=>hp (h2.trans e)]
   ·rw [if_neg h2,if_neg h2]
section
variable {C:Ctx} {A:Heap} {E:Value→Heap→Prop}
theorem QpE {H:Heap} {T:Tl} {bp bm:Nat} {sl:Sl} {x:Qa} {own:Str} {kind:Int} {pub:Bool} {K:Bool→Heap→Prop} (hP:Pr H bp bm sl) (hbm:bp≠bm) (hT:TlIs H bm T)
 (k:∀ D,Kp bm H D→TlIs D bm (tellF T (x.Name,own,kind) pub).2→K (tellF T (x.Name,own,kind) pub).1 D):QaA C (some (bp,0)) x own kind pub K H:=by
 apply Qi5
 unfold QeY
 refine box1N fun b1 H2 n1 _ l1 h1=>fS h1 rfl ?_
 refine boxZ rfl fun b5 H7 n5 l5 h5=>?_
 have hH7:=l1.trans l5
 obtain ⟨e0,hbm0⟩:=hT.has
 have n5m:b5≠bm:=fun e=>by rw [e,l1 _ _ hbm0] at n5; cases n5
 obtain ⟨_,hbp⟩:=(hP.le hH7).at_
 obtain ⟨lT,hm,hl⟩:=hT.le hH7
 refine ⟨_,rfl,some bm,by rw [QaE hbp]; rfl,bxT (c:=Qv.c) h5 ?_⟩
 show lkM kp3 encB false (some bm) ((x.Name,own,kind):Ky) _ H7
 refine hm.is.lk (fun b hb=>?_) (fun hno=>?_)
 ·rw [hl] at hb
  have hk:tellF T (x.Name,own,kind) pub=(false,T):=by unfold tellF; rw [hb]
  rw [hk] at k
  refine ⟨fun _ F=>F=H7,ift.of (fun h=>by simp at h) (fun _=>rfl),?_⟩
  rintro _ _ rfl
  exact k _ (Kp.of hH7) ⟨lT,hm,hl⟩
 ·rw [hl] at hno
  have hk:tellF T (x.Name,own,kind) pub=(true,T++[((x.Name,own,kind),pub)]):=by unfold tellF; rw [hno]
  rw [hk] at k
  refine ⟨fun _ F=>Kp bm H F∧TlIs F bm (T++[((x.Name,own,kind),pub)]),ift.of (fun _=>?_) (fun h=>by simp at h),?_⟩
  ·refine ⟨H7.del bm, Heap.del_le _ _, _, rfl, some bm, by rw [QaE (by rw [Heap.del_ne _ hbm]; exact hbp)]; rfl, bxT (c := Qv.c) (by rw [Heap.del_ne _ n5m]; exact h5) ?_⟩
   refine ⟨bm,lT,rfl,hm,fun g l2 hm2 hl2 _=>⟨Heap.del_put (Heap.del_le _ _),?_,l2,hm2,fun k2=>?_⟩⟩
   ·exact Heap.del_put ((Kp.of hH7:Kp bm H H7))
   ·rw [hl2,Qrh hno,hl]
  ·rintro _ F ⟨h1,h2⟩
   exact k F h1 h2
end
end
section
open Go Go.Proofs
theorem Qcr {α:Type} {l:List α} {i:Nat} (h:i < l.length):l.drop i=l[i]::l.drop (i+1):=List.drop_eq_getElem_cons h
theorem QrL {l:List Str} {i:Nat} (h:i < l.length):decide (l.take (i+1)).Nodup=(decide (l.take i).Nodup && !(l.take i).contains l[i]):=by
 rw [List.take_add_one,List.getElem?_eq_getElem h,Option.toList_some,Bool.eq_iff_iff]
 simp only [decide_eq_true_eq,Bool.and_eq_true,Bool.not_eq_true',List.nodup_append,List.nodup_cons,List.mem_singleton]
 constructor
 ·rintro ⟨h1,_,h2⟩
  refine ⟨h1,?_⟩
  cases hc:(l.take i).contains l[i] with
  | false=>rfl
  | true=>exact absurd rfl (h2 _ (List.contains_iff_mem.1 hc) _ rfl)
 ·rintro ⟨h1,h2⟩
  refine ⟨h1,by simp,fun a ha b hb e=>?_⟩
  subst hb; subst e
  rw [List.contains_iff_mem.2 ha] at h2; cases h2
theorem Qvr {c:CnV} (h:cnOk c=true):∀ f ∈ c.f,tyOk f.t=true:=by
 unfold cnOk at h
 rw [Bool.and_eq_true] at h
 exact (Qpk h.2).2
section
variable {C:Ctx} {A:Heap} {E:Value→Heap→Prop}
theorem QtB {H:Heap} {T:Tl} {m:MoP} {bp bm:Nat} {sl:Sl} {x:Qa} {K:Heap→Prop} (hA:A.le H) (hAm:A bm=none) (hP:Pr H bp bm sl) (hbm:bp≠bm) (hT:TlIs H bm T) (hm:MpIs A m x) (hg:MoG m)
 (k:∀ D T',namesF m T=.ok T'→Kp bm H D→TlIs D bm T'→K D) (ke:∀ D e,namesF m T=.error e→Kp bm H D→E (flt e.1 e.2.1 e.2.2) D):QcK C E (some (bp,0)) x K H:=by
 obtain ⟨m1,m2,m3,m4,m5,m6⟩:=hm
 apply Qik
 unfold QeI
 refine box1N fun b1 H2 n1 _ l1 h1=>fL h1 (j:=2) rfl ?_
 have hA2:=hA.trans l1
 have hP2:=hP.le l1
 have hT2:=hT.le l1
 obtain ⟨e0,hbm0⟩:=hT.has
 have n1m:b1≠bm:=fun e=>by rw [e,hbm0] at n1; cases n1
 have hlt:=SlIs.len m3
 have hbt:=SlIs.bd m3
 have k:∀ D T',namesF m T=.ok T'→Kp bm H2 D→TlIs D bm T'→K D:=fun D T' h1 h2=>k D T' h1 ((Kp.of l1).trans h2)
 have ke:∀ D e,namesF m T=.error e→Kp bm H2 D→E (flt e.1 e.2.1 e.2.2) D:=fun D e h1 h2=>ke D e h1 ((Kp.of l1).trans h2)
 clear hA hP hT
 refine ⟨fun y D=>Kp bm H2 D∧∃ (i:Nat) (T1:Tl),y=(i:Int)∧i≤m.ty.length∧TlIs D bm T1∧namesTy m.n m.ty T=namesTy m.n (m.ty.drop i) T1,fun y _=>m.ty.length - y.toNat,⟨Kp.refl,0,T,rfl,Nat.zero_le _,hT2,by rw [List.drop_zero]⟩,?_⟩
 rintro _ D ⟨hD,i,T1,rfl,hi,hT1,hn⟩
 rw [hlt]
 refine ift.of (fun h=>?_) (fun h=>?_)
 ·have hil : i < m.ty.length := by have := of_decide_eq_true h; omega
  refine jn.inl ?_
  refine m3.ld (hD.al hA2 hAm) (fun _=>rfl) (by omega) rfl hil fun y hy=>?_
  have htd:=hg.ty _ (List.getElem_mem hil)
  rw [Qcr hil] at hn
  generalize m.ty[i]=t at *
  obtain ⟨e1,e2,e3,e4,e5⟩:=hy
  unfold tdOk TdP.e at htd
  simp only [Bool.and_eq_true,decide_eq_true_eq,List.all_eq_true] at htd
  have hcs:∀ c ∈ t.cs,cnOk c=true:=htd.2
  refine boxZ rfl fun b20 D1 n20 l20 h20=>?_
  obtain ⟨e',hbm1⟩:=hT1.has
  have n20m:b20≠bm:=fun e=>by rw [e,hbm1] at n20; cases n20
  have hD1:=hD.trans (Kp.of l20)
  refine bxT (c:=Qa.c) (hD1.at_ n1m h1) (fS h20 (j:=3) rfl (fB h20 (j:=2) rfl ?_))
  rw [e3.1,e2]
  refine QpE (hD1.pr hbm hP2) hbm (hT1.le l20) fun D2 hD2 hT2'=>?_
  rw [m1.1] at hT2' ⊢
  have hDD2:=hD1.trans hD2
  have h20':=hD2.at_ n20m h20
  refine fL h20' (j:=4) rfl ?_
  have lps:=SlIs.len e4.1
  have bps:=SlIs.bd e4.1
  refine ⟨fun y' D'=>D' = D2∧∃ j:Nat,y' = ((tellF T1 (m.n,t.n,0) t.b).1 && decide (t.ps.take j).Nodup,(j:Int))∧j≤t.ps.length,fun y' _=>t.ps.length - y'.2.toNat,⟨rfl,0,by simp,Nat.zero_le _⟩,?_⟩
  rintro _ D3 ⟨hDe,j,rfl,hj⟩
  subst hDe
  rw [lps]
  have hA3:=hDD2.al hA2 hAm
  refine ift.of (fun h=>?_) (fun h=>?_)
  ·have hjl : j < t.ps.length := by have := of_decide_eq_true h; omega
   refine SlIs.at_ e4.1 hA3 (z:=1) (fun _=>rfl) (by omega) rfl hjl fun p y1 hy1 hr=>⟨y1,hr 0 _ rfl,?_⟩
   rw [hy1.1]
   refine ⟨fun b F=>F=D3∧b=((tellF T1 (m.n,t.n,0) t.b).1 && decide (t.ps.take (j+1)).Nodup),?_,?_⟩
   ·rw [QrL hjl]
    refine ift.of (fun h=>?_) (fun h=>?_)
    ·refine fL h20' (j:=4) rfl ?_
     refine SlIs.pre e4.1 (z:=1) (fun _=>rfl) e4.2 rfl (by omega) fun t50 ht50=>?_
     refine contS ht50 hA3 ⟨rfl,?_⟩
     have h:((tellF T1 (m.n,t.n,0) t.b).1 && decide (t.ps.take j).Nodup)=true:=h
     rw [← Bool.and_assoc,h,Bool.true_and]
    ·have h:((tellF T1 (m.n,t.n,0) t.b).1 && decide (t.ps.take j).Nodup)=false:=h
     exact ⟨rfl,by rw [← Bool.and_assoc,h]; rfl⟩
   ·rintro b _ ⟨rfl,rfl⟩
    rw [Qam (by dsimp only; omega) (by dsimp only; omega)]
    exact ⟨⟨rfl,j+1,rfl,by omega⟩,by first | omega | (dsimp only; omega)⟩
  ·have hje : j = t.ps.length := by have := of_decide_eq_false h; omega
   subst hje
   rw [List.take_length]
   refine fL h20' (j:=5) rfl ?_
   have lcs:=SlIs.len e5
   have bcs:=SlIs.bd e5
   have hn':tyNm m.n t T1=csNm m.n t.b ((tellF T1 (m.n,t.n,0) t.b).1 && decide t.ps.Nodup,(tellF T1 (m.n,t.n,0) t.b).2) t.cs:=rfl
   generalize ((tellF T1 (m.n,t.n,0) t.b).1 && decide t.ps.Nodup)=ok0 at *
   generalize ((tellF T1 (m.n,t.n,0) t.b).2)=T2 at *
   refine ⟨fun y' D'=>Kp bm D1 D'∧∃ (j:Nat) (ok:Bool) (T3:Tl),y' = (ok,(j:Int))∧j≤t.cs.length∧TlIs D' bm T3∧tyNm m.n t T1=csNm m.n t.b (ok,T3) (t.cs.drop j),fun y' _=>t.cs.length - y'.2.toNat,⟨hD2,0,ok0,T2,rfl,Nat.zero_le _,hT2',by rw [List.drop_zero]; exact hn'⟩,?_⟩
   clear hD2 hDD2 h20' hT2' hn' hA3
   rintro _ D3 ⟨hD3,j,ok,T3,rfl,hj,hT3,hn'⟩
   have hDD3:=hD1.trans hD3
   have hA3:=hDD3.al hA2 hAm
   have h20':=hD3.at_ n20m h20
   rw [lcs]
   refine ift.of (fun h=>?_) (fun h=>?_)
   ·have hjl : j < t.cs.length := by have := of_decide_eq_true h; omega
    refine e5.ld hA3 (fun _=>rfl) (by omega) rfl hjl fun y1 hy1=>?_
    rw [Qcr hjl] at hn'
    generalize t.cs[j]=c at *
    refine boxZ rfl fun b72 D4 n72 l72 h72=>?_
    have hD4:=hDD3.trans (Kp.of l72)
    refine bxT (c:=Qa.c) (hD4.at_ n1m h1) (fS h72 (j:=0) rfl (fB (l72 _ _ h20') (j:=2) rfl ?_))
    rw [hy1.1.1,e2]
    refine QpE (hD4.pr hbm hP2) hbm (hT3.le l72) fun D5 hD5 hT5=>?_
    rw [m1.1] at hT5 ⊢
    rw [Qam (by dsimp only; omega) (by dsimp only; omega)]
    exact ⟨⟨(hD3.trans (Kp.of l72)).trans hD5,j+1,_,_,rfl,by omega,hT5,hn'⟩,by first | omega | (dsimp only; omega)⟩
   ·have hje : j = t.cs.length := by have := of_decide_eq_false h; omega
    subst hje
    rw [List.drop_length] at hn'
    have hn':tyNm m.n t T1=(ok,T3):=hn'
    have hns:namesTy m.n (t::m.ty.drop (i+1)) T1=if ok=false then .error (m.n,t.p,6) else if t.cs.any (fun c=>openF t.ps c.f)=true then .error (m.n,t.p,63) else namesTy m.n (m.ty.drop (i+1)) T3:=by rw [namesTy,hn']
    rw [hns] at hn
    have err:∀ e,namesTy m.n m.ty T=.error e→namesF m T=.error e:=fun e h=>by unfold namesF; rw [h]
    refine ⟨fun _ F=>F=D3∧ok=true,?_,?_⟩
    ·refine ift.of (fun h => ?_) (fun h => ?_)
     ·have h : ok = false := by simpa using h
      rw [if_pos h] at hn
      refine bxT (c:=Qa.c) (hDD3.at_ n1m h1) (fPs (x:=y.Pos) h20' rfl rfl ?_)
      exact QdY m1.1 e1 fun F hF=>ke F _ (err _ hn) (hDD3.trans (Kp.of hF))
     ·exact ⟨rfl,by simpa using h⟩
    ·rintro _ _ ⟨rfl,hok⟩
     rw [if_neg (by rw [hok]; decide)] at hn
     refine fL h20' (j:=5) rfl ?_
     refine cfConsDef (R:=CnIs A) (ok:=fun c=>openF t.ps c.f) e5 hA3 ?_ fun D4 hD4=>?_
     ·intro c hc y1 D Φ hD hy hΦ
      refine ⟨64,[],[pv (some (b20,0))],rfl,Qhg,QgZ C y1 (b20,0) Φ D ?_⟩
      unfold QdR
      refine box1N fun b2 H3 _ _ l2 h2=>fL h2 rfl (fL (l2 _ _ (hD _ _ h20')) (j:=4) rfl ?_)
      exact QsM (hA3.trans (hD.trans l2)) hy.2 (Qvr (hcs c hc)) e4.1 fun D2 hD2=>hΦ D2 (l2.trans hD2)
     ·have hDD4:=hDD3.trans (Kp.of hD4)
      refine ift.of (fun h=>?_) (fun h=>?_)
      ·rw [if_pos h] at hn
       refine bxT (c:=Qa.c) (hDD4.at_ n1m h1) (fPs (x:=y.Pos) (hD4 _ _ h20') rfl rfl ?_)
       exact QdY m1.1 e1 fun F hF=>ke F _ (err _ hn) (hDD4.trans (Kp.of hF))
      ·rw [if_neg (by rw [h]; decide)] at hn
       rw [Qam (by omega) (by omega)]
       exact ⟨⟨hDD4,i+1,T3,rfl,by omega,hT3.le hD4,hn⟩,by first | omega | (dsimp only; omega)⟩
 ·have hie : i = m.ty.length := by have := of_decide_eq_false h; omega
  subst hie
  rw [List.drop_length] at hn
  have hn:namesTy m.n m.ty T=.ok T1:=hn
  refine fL (hD.at_ n1m h1) (j:=3) rfl ?_
  have hlr:=SlIs.len m4
  have hbr:=SlIs.bd m4
  refine ⟨fun y D=>Kp bm H2 D∧∃ (i:Nat) (T2:Tl),y=(i:Int)∧i≤m.re.length∧TlIs D bm T2∧namesRe m.n m.re T1=namesRe m.n (m.re.drop i) T2,fun y _=>m.re.length - y.toNat,⟨hD,0,T1,rfl,Nat.zero_le _,hT1,by rw [List.drop_zero]⟩,?_⟩
  clear hD hT1
  rintro _ D ⟨hD,i,T2,rfl,hi,hT1,hn2⟩
  rw [hlr]
  refine ift.of (fun h=>?_) (fun h=>?_)
  ·have hil : i < m.re.length := by have := of_decide_eq_true h; omega
   refine jn.inl ?_
   refine m4.ld (hD.al hA2 hAm) (fun _=>rfl) (by omega) rfl hil fun y hy=>?_
   have htd:=hg.re _ (List.getElem_mem hil)
   rw [Qcr hil] at hn2
   generalize m.re[i]=t at *
   obtain ⟨e1,e2,e3,e4,e5⟩:=hy
   unfold rdOk RdP.e at htd
   rw [Bool.and_eq_true] at htd
   have hfo:∀ f ∈ t.f,tyOk f.t=true:=(Qpk htd.2).2
   refine boxZ rfl fun b20 D1 n20 l20 h20=>?_
   obtain ⟨e',hbm1⟩:=hT1.has
   have n20m:b20≠bm:=fun e=>by rw [e,hbm1] at n20; cases n20
   have hD1:=hD.trans (Kp.of l20)
   refine bxT (c:=Qa.c) (hD1.at_ n1m h1) (fS h20 (j:=4) rfl (fB h20 (j:=2) rfl ?_))
   rw [e4.1,e2]
   refine QpE (hD1.pr hbm hP2) hbm (hT1.le l20) fun D2 hD2 hT2'=>?_
   rw [m1.1] at hT2' ⊢
   have hDD2:=hD1.trans hD2
   have h20':=hD2.at_ n20m h20
   have err:∀ e,namesRe m.n m.re T1=.error e→namesF m T=.error e:=fun e h=>by unfold namesF; rw [hn]; dsimp only; rw [h]
   rw [namesRe] at hn2
   refine ift.of (fun h=>?_) (fun h=>?_)
   ·rw [if_pos (by simpa using h)] at hn2
    refine bxT (c:=Qa.c) (hDD2.at_ n1m h1) (fPs (x:=y.Pos) h20' rfl rfl ?_)
    exact QdY m1.1 e1 fun F hF=>ke F _ (err _ hn2) (hDD2.trans (Kp.of hF))
   ·rw [if_neg (by simpa using h)] at hn2
    refine fL h20' (j:=5) rfl ?_
    refine QsM (ps:=[]) (hDD2.al hA2 hAm) e5 hfo SlIs.nil fun D3 hD3=>?_
    have hDD3:=hDD2.trans (Kp.of hD3)
    refine ift.of (fun h=>?_) (fun h=>?_)
    ·rw [if_pos h] at hn2
     refine bxT (c:=Qa.c) (hDD3.at_ n1m h1) (fPs (x:=y.Pos) (hD3 _ _ h20') rfl rfl ?_)
     exact QdY m1.1 e1 fun F hF=>ke F _ (err _ hn2) (hDD3.trans (Kp.of hF))
    ·rw [if_neg (by rw [h]; decide)] at hn2
     rw [Qam (by omega) (by omega)]
     exact ⟨⟨hDD3,i+1,_,rfl,by omega,hT2'.le hD3,hn2⟩,by first | omega | (dsimp only; omega)⟩
  ·have hie : i = m.re.length := by have := of_decide_eq_false h; omega
   subst hie
   rw [List.drop_length] at hn2
   have hn2:namesRe m.n m.re T1=.ok T2:=hn2
   refine fL (hD.at_ n1m h1) (j:=5) rfl ?_
   have hlr:=SlIs.len m6
   have hbr:=SlIs.bd m6
   refine ⟨fun y D=>Kp bm H2 D∧∃ (i:Nat) (T3:Tl),y=(i:Int)∧i≤m.ne.length∧TlIs D bm T3∧namesNe m.n m.ne T2=namesNe m.n (m.ne.drop i) T3,fun y _=>m.ne.length - y.toNat,⟨hD,0,T2,rfl,Nat.zero_le _,hT1,by rw [List.drop_zero]⟩,?_⟩
   clear hD hT1
   rintro _ D ⟨hD,i,T3,rfl,hi,hT1,hn3⟩
   have hF:namesF m T=namesNe m.n m.ne T2:=by unfold namesF; rw [hn]; dsimp only; rw [hn2]
   rw [hlr]
   refine ift.of (fun h=>?_) (fun h=>?_)
   ·have hil : i < m.ne.length := by have := of_decide_eq_true h; omega
    refine jn.inl ?_
    refine m6.ld (hD.al hA2 hAm) (fun _=>rfl) (by omega) rfl hil fun y hy=>?_
    rw [Qcr hil] at hn3
    generalize m.ne[i]=t at *
    obtain ⟨e1,e4,e5⟩:=hy
    refine boxZ rfl fun b20 D1 n20 l20 h20=>?_
    obtain ⟨e',hbm1⟩:=hT1.has
    have n20m:b20≠bm:=fun e=>by rw [e,hbm1] at n20; cases n20
    have hD1:=hD.trans (Kp.of l20)
    refine bxT (c:=Qa.c) (hD1.at_ n1m h1) (fS h20 (j:=2) rfl ?_)
    rw [e4.1]
    refine QpE (hD1.pr hbm hP2) hbm (hT1.le l20) fun D2 hD2 hT2'=>?_
    rw [m1.1] at hT2' ⊢
    have hDD2:=hD1.trans hD2
    have h20':=hD2.at_ n20m h20
    rw [namesNe] at hn3
    refine ift.of (fun h=>?_) (fun h=>?_)
    ·rw [if_pos (by simpa using h)] at hn3
     refine bxT (c:=Qa.c) (hDD2.at_ n1m h1) (fPs (x:=y.Pos) h20' rfl rfl ?_)
     exact QdY m1.1 e1 fun F hF'=>ke F _ (hF.trans hn3) (hDD2.trans (Kp.of hF'))
    ·rw [if_neg (by simpa using h)] at hn3
     rw [Qam (by omega) (by omega)]
     exact ⟨⟨hDD2,i+1,_,rfl,by omega,hT2',hn3⟩,by first | omega | (dsimp only; omega)⟩
   ·have hie : i = m.ne.length := by have := of_decide_eq_false h; omega
    subst hie
    rw [List.drop_length] at hn3
    exact k D T3 (hF.trans hn3) hD hT1
end
end
section
open Go Go.Proofs
theorem Qnp {α:Type} {p q:α→Bool}:∀ {l:List α} {a:α},(∀ x ∈ l,p x=true→q x=true)→a ∈ l→p a=false→q a=true→l.countP p < l.countP q
 | [],a,_,h,_,_=>by cases h
 | x::l,a,hpq,ha,hp,hq=>by
  rw [List.countP_cons,List.countP_cons]
  have hle:l.countP p≤l.countP q:=List.countP_mono_left fun y hy h=>hpq y (List.mem_cons_of_mem _ hy) h
  rcases List.mem_cons.1 ha with rfl | ha
  ·rw [hp,hq]
   simp only [Bool.false_eq_true,if_false,if_true]; omega
  ·have := Qnp (l := l) (fun y hy h => hpq y (List.mem_cons_of_mem _ hy) h) ha hp hq
   have h1:=hpq x (List.mem_cons_self ..)
   cases h2:p x with
   | false=>simp only [Bool.false_eq_true,if_false]; split <;> omega
   | true=>rw [h1 h2]; simp only [if_true]; omega
/-- one can come from a module to another one -/
inductive Rc (l:List MoP) (a:Nat):Nat→Prop
 | refl:Rc l a a
 | step {i j:Nat}:Rc l a i→j ∈ adj l i→Rc l a j
theorem Rc.head {l:List MoP} {a b c:Nat} (h:b ∈ adj l a) (h2:Rc l b c):Rc l a c:=by
 induction h2 with
 | refl=>exact .step .refl h
 | step _ hj ih=>exact .step ih hj
theorem Qo8 {l:List MoP} {a:Nat}:∀ {n j:Nat},comeF l a n j=true→Rc l a j
 | 0,j,h=>by
  simp only [comeF,decide_eq_true_eq] at h
  subst h; exact .refl
 | n+1,j,h=>by
  simp only [comeF,Bool.or_eq_true,List.any_eq_true,Bool.and_eq_true] at h
  rcases h with h | ⟨i,_,h1,h2⟩
  ·exact Qo8 h
  ·exact .step (Qo8 h1) (List.contains_iff_mem.1 h2)
theorem Qq1 {l:List MoP} {a n j:Nat} (h:comeF l a n j=true):comeF l a (n+1) j=true:=by simp only [comeF,h,Bool.true_or]
theorem Qqx {l:List MoP} {a:Nat}:∀ {n:Nat},comeF l a n a=true
 | 0=>by simp [comeF]
 | n+1=>Qq1 Qqx
/-- all imports are found -/
def Fnd (l:List MoP):Prop:=∀ i,∀ j ∈ adj l i,j < l.length
theorem Qt1 {l:List MoP} {i j:Nat} (h:j ∈ adj l i):i < l.length:=by
 unfold adj at h
 cases hi:l[i]? with
 | none=>rw [hi] at h; cases h
 | some m=>exact (List.getElem?_eq_some_iff.1 hi).1
theorem Qoz {l:List MoP} {a:Nat} (hf:Fnd l) (ha:a < l.length):∀ n:Nat,(∀ j,comeF l a (n+1) j=true→comeF l a n j=true)∨n+1≤(List.range l.length).countP (comeF l a n)
 | 0=>.inr (List.countP_pos_iff.2 ⟨a,List.mem_range.2 ha,Qqx⟩)
 | n+1=>by
  by_cases hcl:∀ j,comeF l a (n+1) j=true→comeF l a n j=true
  ·refine .inl fun j h => ?_
   simp only [comeF,Bool.or_eq_true,List.any_eq_true,Bool.and_eq_true] at h
   rcases h with h | ⟨i,hi,h1,h2⟩
   ·simp only [comeF,Bool.or_eq_true,List.any_eq_true,Bool.and_eq_true]; exact h
   ·have h1 : comeF l a n i = true := hcl i (by simp only [comeF, Bool.or_eq_true, List.any_eq_true, Bool.and_eq_true]; exact h1)
    simp only [comeF,Bool.or_eq_true,List.any_eq_true,Bool.and_eq_true]
    exact .inr ⟨i,hi,h1,h2⟩
  ·refine .inr ?_
   have ⟨j,h1,h2⟩:∃ j,comeF l a (n+1) j=true∧comeF l a n j=false:=by
    refine Classical.byContradiction fun hh=>hcl fun j hj=>?_
    cases hc:comeF l a n j with
    | true=>rfl
    | false=>exact absurd ⟨j,hj,hc⟩ hh
   have hjl:j < l.length:=by
    have h1:=h1
    simp only [comeF,Bool.or_eq_true,List.any_eq_true,Bool.and_eq_true,h2,Bool.false_eq_true,false_or] at h1
    obtain ⟨i,_,_,h4⟩:=h1
    exact hf i j (List.contains_iff_mem.1 h4)
   have:=Qnp (l:=List.range l.length) (p:=comeF l a n) (q:=comeF l a (n+1)) (fun x _ h=>Qq1 h) (List.mem_range.2 hjl) h2 h1
   rcases Qoz hf ha n with h | h
   ·exact absurd h hcl
   ·omega
theorem QoK {l:List MoP} {a b:Nat} (hf:Fnd l) (ha:a < l.length):reachF l a b=true↔Rc l a b:=by
 constructor
 ·exact Qo8
 ·intro h
  have hcl:∀ j,comeF l a (l.length+1) j=true→comeF l a l.length j=true:=by
   rcases Qoz hf ha l.length with h | h
   ·exact h
   ·have:=List.countP_le_length (p:=comeF l a l.length) (l:=List.range l.length)
    rw [List.length_range] at this; omega
  unfold reachF
  induction h with
  | refl=>exact Qqx
  | step _ hj ih=>
   refine hcl _ ?_
   simp only [comeF,Bool.or_eq_true,List.any_eq_true,Bool.and_eq_true]
   exact .inr ⟨_,List.mem_range.2 (Qt1 hj),ih,List.contains_iff_mem.2 hj⟩
/-- nothing leads out of what was seen -/
theorem QsV {l:List MoP} {a b:Nat} {S:Nat→Bool} (ha:S a=true) (hS:∀ j,S j=true→j≠b∧∀ k ∈ adj l j,S k=true):¬ Rc l a b:=fun h=>by
 have key:∀ j,Rc l a j→S j=true:=fun j h=>by
  induction h with
  | refl=>exact ha
  | step _ hj ih=>exact (hS _ ih).2 _ hj
 exact (hS _ (key b h)).1 rfl
theorem Qme:∀ {l:List MoP} {s:Str} {i:Nat},i≤l.length→((findN l s < i)↔((l.take i).map MoP.n).contains s=true)
 | [],s,i,h=>by
  have:i=0:=by simpa using h
  subst this; simp
 | m::l,s,0,h=>by simp
 | m::l,s,i+1,h=>by
  have ih:=Qme (l:=l) (s:=s) (i:=i) (by simpa using h)
  rw [List.contains_iff_mem] at ih ⊢
  simp only [findN,List.take_succ_cons,List.map_cons,List.mem_cons]
  by_cases hm:m.n=s
  ·rw [if_pos hm]; exact ⟨fun _=>.inl hm.symm,fun _=>by omega⟩
  ·rw [if_neg hm]
   constructor
   ·intro h; exact .inr (ih.1 (by omega))
   ·rintro (h | h)
    ·exact absurd h.symm hm
    ·have:=ih.2 h; omega
theorem QrD {l:List MoP} {i:Nat} (h:i < l.length):findN l l[i].n≤i:=by
 have:=(Qme (l:=l) (s:=l[i].n) (i:=i+1) (by omega)).2 (by
  rw [List.contains_iff_mem,List.mem_map]
  exact ⟨l[i],List.mem_take_iff_getElem.2 ⟨i,by omega,rfl⟩,rfl⟩)
 omega
theorem Qkj:∀ {l:List MoP} {ns:List Str},singleF ns l=none→(∀ m ∈ l,moC m.e=0)∧(l.map MoP.n).Nodup∧∀ m ∈ l,m.n ∉ ns
 | [],ns,_=>⟨by simp,by simp,by simp⟩
 | m::l,ns,h=>by
  simp only [singleF] at h
  split at h
  ·cases h
  ·rename_i h1
   split at h
   ·cases h
   ·rename_i h2
    obtain ⟨a,b,c⟩:=Qkj h
    rw [List.contains_iff_mem] at h2
    refine ⟨fun x hx=>?_,?_,fun x hx=>?_⟩
    ·rcases List.mem_cons.1 hx with rfl | hx
     ·omega
     ·exact a x hx
    ·rw [List.map_cons,List.nodup_cons]
     refine ⟨fun hm=>?_,b⟩
     obtain ⟨x,hx,e⟩:=List.mem_map.1 hm
     exact c x hx (by simp [e])
    ·rcases List.mem_cons.1 hx with rfl | hx
     ·exact h2
     ·exact fun hm=>c x hx (List.mem_append_left _ hm)
theorem QoF {l:List MoP} {m:Str}:∀ {r:List ImP} {ps:List Str},impA1 l m ps r=none→∀ x ∈ r,findN l x.n < l.length
 | [],ps,_,x,hx=>by cases hx
 | y::r,ps,h,x,hx=>by
  simp only [impA1] at h
  split at h
  ·cases h
  ·rename_i h1
   split at h
   ·cases h
   ·rcases List.mem_cons.1 hx with rfl | hx
    ·omega
    ·exact QoF h x hx
theorem Qnz {l:List MoP}:∀ {r:List MoP},impA l r=none→∀ m ∈ r,∀ x ∈ m.im,findN l x.n < l.length
 | [],_,m,hm=>by cases hm
 | y::r,h,m,hm=>by
  simp only [impA] at h
  split at h
  ·cases h
  ·rename_i h1
   rcases List.mem_cons.1 hm with rfl | hm
   ·exact QoF h1
   ·exact Qnz h m hm
theorem Qtu {l:List MoP} (h:impA l l=none):Fnd l:=fun i j hj=>by
 have hi:=Qt1 hj
 unfold adj at hj
 rw [List.getElem?_eq_getElem hi] at hj
 obtain ⟨x,hx,rfl⟩:=List.mem_map.1 hj
 exact Qnz h _ (List.getElem_mem hi) x hx
end
section
open Go Go.Proofs
theorem Qih {α:Type} {f:MoP→List α}:∀ {l:List MoP} {i:Nat} (h:i < l.length),total f (l.take (i+1))=total f (l.take i)+(f l[i]).length
 | [],i,h=>by simp at h
 | m::l,0,h=>by simp [total]
 | m::l,i+1,h=>by
  have h':i < l.length:=by simpa using h
  have:=Qih (f:=f) h'
  simp only [List.take_succ_cons,total,List.getElem_cons_succ,this]; omega
theorem Qrq {α:Type} {f:MoP→List α} {B:Nat}:∀ {l:List MoP},(∀ m ∈ l,(f m).length≤B)→total f l≤l.length*B
 | [],_=>by simp [total]
 | m::l,h=>by
  have h1:=h m (List.mem_cons_self ..)
  have h2:=Qrq (l:=l) fun x hx=>h x (List.mem_cons_of_mem _ hx)
  simp only [total,List.length_cons,Nat.add_mul]; omega
theorem QqP {H:Heap} {b j:Nat} {cs cs2:List Value} {v:Value} {K:Heap→Prop} (h:H b=some (true,.row cs)) (hj:j < cs.length) (e:cs.set j v=cs2) (k:K (H.put b (.row cs2))):st ((b,0).1,(b,0).2+j) v K H:=by
 subst e
 refine ⟨cs,h,by simpa using hj,?_⟩
 simpa using k
section
variable {C:Ctx} {A H:Heap} {E:Value→Heap→Prop}
theorem Qs3 (hT:MaxC C) {l:List MoP} {bp bm:Nat} {sl:Sl} {K:Heap→Prop} (hP:Pr H bp bm sl) (hs:MpL A sl l) (hA:A.le H) (hd:∀ m ∈ l,moD m.e≤4611686018427387904)
 (k:∀ D,H.le D→singleF [] l=none→K D) (ke:∀ D e,H.le D→singleF [] l=some e→E (flt e.1 e.2.1 e.2.2) D):Qca C E (some (bp,0)) K H:=by
 apply Qhw
 unfold Qeb
 obtain ⟨_,hbp⟩:=hP.at_
 refine ⟨_,rfl,fL hbp (j:=0) rfl ?_⟩
 have hlen:=SlIs.len hs
 have hbd:=SlIs.bd hs
 refine ⟨fun y D=>H.le D∧∃ i:Nat,y=(i:Int)∧i≤l.length∧singleF [] l=singleF ((l.take i).map MoP.n) (l.drop i),fun y _=>l.length - y.toNat,⟨Heap.le.refl _,0,rfl,Nat.zero_le _,by simp⟩,?_⟩
 rintro _ D ⟨hD,i,rfl,hi,hn⟩
 rw [hlen]
 refine ift.of (fun h=>?_) (fun h=>?_)
 ·have hil : i < l.length := by have := of_decide_eq_true h; omega
  refine jn.inl ?_
  refine hs.ld (hA.trans hD) (fun _=>rfl) (by omega) rfl hil fun y hy=>?_
  have hdi:=hd _ (List.getElem_mem hil)
  have hft:=Qme (l:=l) (s:=l[i].n) (i:=i) (by omega)
  have hfl:findN l l[i].n < l.length:=by have:=QrD hil; omega
  have htk:(l.take i).map MoP.n++[l[i].n]=(l.take (i+1)).map MoP.n:=by rw [List.take_add_one,List.getElem?_eq_getElem hil,Option.toList_some,List.map_append]; rfl
  rw [Qcr hil,singleF,htk] at hn
  generalize l[i]=m at *
  refine boxZ rfl fun b20 D1 n20 l20 h20=>?_
  have hD1:=hD.trans l20
  refine ⟨fun _ F=>F=D1∧moC m.e=0,?_,?_⟩
  ·refine bxT (c:=Qa.c) h20 ?_
   refine QqT hT (MpIs.e hy) (hA.trans hD1) hdi ?_
   refine ift.of (fun h=>?_) (fun h=>?_)
   ·rw [if_pos (by simpa using h)] at hn
    exact bxT (c:=Qa.c) h20 (QdY hy.1.1 rfl fun F hF=>ke F _ (hD1.trans hF) hn)
   ·exact ⟨rfl,by simpa using h⟩
  ·rintro _ _ ⟨rfl,hok⟩
   rw [if_neg (by simpa using hok)] at hn
   refine fS h20 (j:=0) rfl ?_
   rw [hy.1.1]
   refine Qpm (hP.le hD1) hs (hA.trans hD1) fun D2 hD2=>?_
   unfold fIx
   rw [if_pos hfl]
   refine ift.of (fun h=>?_) (fun h=>?_)
   ·have : findN l m.n < i := by have := of_decide_eq_true h; omega
    rw [if_pos (hft.1 this)] at hn
    exact bxT (c:=Qa.c) (hD2 _ _ h20) (QdY hy.1.1 rfl fun F hF=>ke F _ (hD1.trans (hD2.trans hF)) hn)
   ·have : ¬ findN l m.n < i := by have := of_decide_eq_false h; omega
    rw [if_neg fun e=>this (hft.2 e)] at hn
    rw [Qam (by omega) (by omega)]
    exact ⟨⟨hD1.trans hD2,i+1,rfl,by omega,hn⟩,by first | omega | (dsimp only; omega)⟩
 ·have hie : i = l.length := by have := of_decide_eq_false h; omega
  subst hie
  rw [List.drop_length] at hn
  exact k D hD hn
theorem Qs7 {l:List MoP} {bp bm:Nat} {sl:Sl} {K:Heap→Prop} (hP:Pr H bp bm sl) (hs:MpL A sl l) (hA:A.le H) (hg:∀ m ∈ l,MoG m) (hl8:l.length≤8)
 (k:∀ D,H.le D→totB l=false→K D) (ke:∀ D,H.le D→totB l=true→E (flt [] (0,0) 3) D):Qcb C E (some (bp,0)) K H:=by
 apply Qhx
 unfold Qec
 refine box1N fun b1 H2 n1 _ l1 h1=>?_
 obtain ⟨_,hbp⟩:=(hP.le l1).at_
 refine ⟨_,rfl,fL hbp (j:=0) rfl ?_⟩
 have hlen:=SlIs.len hs
 have bt:∀ {α:Type} (f:MoP→List α) (i:Nat),(∀ m ∈ l,(f m).length≤256)→total f (l.take i)≤2048:=fun f i hf=>by
  have:=Qrq (f:=f) (B:=256) (l:=l.take i) fun m hm=>hf m (List.mem_of_mem_take hm)
  have h2:(l.take i).length≤8:=by rw [List.length_take]; omega
  have:(l.take i).length*256≤8*256:=Nat.mul_le_mul_right _ h2
  omega
 have g1:∀ m ∈ l,(MoP.ty m).length≤256:=fun m hm=>by have:=(hg m hm).lt; omega
 have g2:∀ m ∈ l,(MoP.re m).length≤256:=fun m hm=>by have:=(hg m hm).lr; omega
 have g3:∀ m ∈ l,(MoP.ru m).length≤256:=fun m hm=>(hg m hm).lu
 have g4:∀ m ∈ l,(MoP.ne m).length≤256:=fun m hm=>(hg m hm).ln
 refine ⟨fun y D=>H.le D∧∃ i:Nat,y=(i:Int)∧i≤l.length∧D b1=some (true,.row [.int .i64 (total MoP.ty (l.take i):Int),.int .i64 (total MoP.ru (l.take i):Int),.int .i64 (total MoP.re (l.take i):Int),.int .i64 (total MoP.ne (l.take i):Int)]),fun y _=>l.length - y.toNat,⟨l1,0,rfl,Nat.zero_le _,h1⟩,?_⟩
 clear h1 hbp
 rintro _ D ⟨hD,i,rfl,hi,h1⟩
 rw [hlen]
 have i1:=bt MoP.ty i g1
 have i2:=bt MoP.re i g2
 have i3:=bt MoP.ru i g3
 have i4:=bt MoP.ne i g4
 refine ift.of (fun h=>?_) (fun h=>?_)
 ·have hil : i < l.length := by have := of_decide_eq_true h; omega
  refine hs.ld (hA.trans hD) (fun _=>rfl) (by omega) rfl hil fun y hy=>?_
  have j1:=g1 _ (List.getElem_mem hil)
  have j2:=g2 _ (List.getElem_mem hil)
  have j3:=g3 _ (List.getElem_mem hil)
  have j4:=g4 _ (List.getElem_mem hil)
  have t1:=Qih (f:=MoP.ty) hil
  have t2:=Qih (f:=MoP.re) hil
  have t3:=Qih (f:=MoP.ru) hil
  have t4:=Qih (f:=MoP.ne) hil
  generalize l[i]=m at *
  obtain ⟨m1,m2,m3,m4,m5,m6⟩:=hy
  intro b18 n18
  refine nwT rfl ?_
  have l18:=Heap.le_put n18 (g:=.row (Qa.c y)) (m:=true)
  have h18:(D.put b18 (.row (Qa.c y))) b18=some (true,.row (Qa.c y)):=Heap.put_same ..
  have hD1:=hD.trans l18
  have h1':=l18 _ _ h1
  have hne:b18≠b1:=fun e=>by rw [e,h1] at n18; cases n18
  generalize D.put b18 (.row (Qa.c y))=D1 at *
  refine ⟨by omega,by omega,fI h1' (j:=(0:Int).toNat*1) rfl (fL h18 (j:=2) rfl ⟨by omega,by omega,QqP h1' (show (0:Int).toNat*1 < 4 by decide) rfl ?_⟩)⟩
  rw [SlIs.len m3,Qam (x:=(total MoP.ty (l.take i):Int)+(m.ty.length:Int)) (by omega) (by omega)]
  refine ⟨by omega,by omega,fI (Heap.put_same ..) (j:=(2:Int).toNat*1) rfl (fL (by rw [Heap.put_ne _ _ _ hne]; exact h18) (j:=3) rfl ⟨by omega,by omega,QqP (Heap.put_same ..) (show (2:Int).toNat*1 < 4 by decide) rfl ?_⟩)⟩
  rw [Heap.put_put,SlIs.len m4,Qam (x:=(total MoP.re (l.take i):Int)+(m.re.length:Int)) (by omega) (by omega)]
  refine ⟨by omega,by omega,fI (Heap.put_same ..) (j:=(1:Int).toNat*1) rfl (fL (by rw [Heap.put_ne _ _ _ hne]; exact h18) (j:=4) rfl ⟨by omega,by omega,QqP (Heap.put_same ..) (show (1:Int).toNat*1 < 4 by decide) rfl ?_⟩)⟩
  rw [Heap.put_put,SlIs.len m5,Qam (x:=(total MoP.ru (l.take i):Int)+(m.ru.length:Int)) (by omega) (by omega)]
  refine ⟨by omega,by omega,fI (Heap.put_same ..) (j:=(3:Int).toNat*1) rfl (fL (by rw [Heap.put_ne _ _ _ hne]; exact h18) (j:=5) rfl ⟨by omega,by omega,QqP (Heap.put_same ..) (show (3:Int).toNat*1 < 4 by decide) rfl ?_⟩)⟩
  rw [Heap.put_put,SlIs.len m6,Qam (x:=(total MoP.ne (l.take i):Int)+(m.ne.length:Int)) (by omega) (by omega),Qam (by omega) (by omega)]
  refine ⟨⟨Qbc hD1 n1,i+1,rfl,by omega,?_⟩,by first | omega | (dsimp only; omega)⟩
  rw [t1,t2,t3,t4]
  exact Heap.put_same ..
 ·have hie : i = l.length := by have := of_decide_eq_false h; omega
  subst hie
  rw [List.take_length] at h1 i1 i2 i3 i4
  refine ⟨by omega,by omega,fI h1 (j:=(0:Int).toNat*1) rfl ?_⟩
  refine ⟨fun b F=>D=F∧b=(decide (64 < total MoP.ty l) || decide (64 < total MoP.re l)),?_,?_⟩
  ·refine ift.of (fun h => ⟨rfl, ?_⟩) (fun h => ⟨by omega, by omega, fI h1 (j := (2 : Int).toNat * 1) rfl ⟨rfl, ?_⟩⟩)
   ·rw [decide_eq_true (show 64 < total MoP.ty l by have:=of_decide_eq_true h; omega)]; rfl
   ·rw [decide_eq_false (show ¬ 64 < total MoP.ty l by have := of_decide_eq_false h; omega), Bool.false_or]
    exact decide_eq_decide.2 (by omega)
  ·rintro b _ ⟨rfl,rfl⟩
   refine ⟨fun b F=>D=F∧b=(decide (64 < total MoP.ty l) || decide (64 < total MoP.re l) || decide (256 < total MoP.ru l)),?_,?_⟩
   ·refine ift.of (fun h => ⟨rfl, by rw [h]; rfl⟩) (fun h => ⟨by omega, by omega, fI h1 (j := (1 : Int).toNat * 1) rfl ⟨rfl, ?_⟩⟩)
    rw [h,Bool.false_or]
    exact decide_eq_decide.2 (by omega)
   ·rintro b _ ⟨rfl,rfl⟩
    refine ⟨fun b F=>D=F∧b=totB l,?_,?_⟩
    ·refine ift.of (fun h => ⟨rfl, by unfold totB; rw [h]; rfl⟩) (fun h => ⟨by omega, by omega, fI h1 (j := (3 : Int).toNat * 1) rfl ⟨rfl, ?_⟩⟩)
     unfold totB
     rw [h,Bool.false_or]
     exact decide_eq_decide.2 (by omega)
    ·rintro b _ ⟨rfl,rfl⟩
     exact ift.of (fun h=>ke _ hD h) (fun h=>k _ hD h)
end
end
section
open Go Go.Proofs
/-- what was seen, in a map -/
def SnIs (H:Heap) (bs:Nat) (S:Nat→Bool):Prop:=∃ l,MapS kI encB H bs l∧∀ j:Nat,lkL (j:Int) l=if S j=true then some true else none
theorem SnIs.le {A B:Heap} {bs:Nat} {S:Nat→Bool} (h:SnIs A bs S) (hle:A.le B):SnIs B bs S:=by
 obtain ⟨l,h1,h2⟩:=h
 exact ⟨l,h1.le hle,h2⟩
theorem SnIs.has {A:Heap} {bs:Nat} {S:Nat→Bool} (h:SnIs A bs S):∃ e,A bs=some e:=by
 obtain ⟨l,⟨es,ck,h1⟩,_⟩:=h
 exact ⟨_,h1.at_⟩
def uns (n:Nat) (S:Nat→Bool):Nat:=(List.range n).countP fun j=>!S j
theorem QvX {n a:Nat} {S S2:Nat→Bool} (h:∀ j,S j=true→S2 j=true) (ha:a < n) (h1:S a=false) (h2:S2 a=true):uns n S2 < uns n S:=
 Qnp (a:=a) (fun j _ hj=>by
  cases hs:S j with
  | false=>rfl
  | true=>simp [h j hs] at hj) (List.mem_range.2 ha) (by simp [h2]) (by simp [h1])
section
variable {C:Ctx} {A:Heap} {E:Value→Heap→Prop}
theorem QrQ {l:List MoP} {bp bm bs:Nat} {sl:Sl} (hs:MpL A sl l) (hf:Fnd l) (hAs:A bs=none) (hbs:bp≠bs) (hl8:l.length≤8) :
 ∀ (u:Nat) {S:Nat→Bool} {a b:Nat} {x y:Int} {H:Heap} {K:Bool→Heap→Prop},uns l.length S < u→a < l.length→S a=false→x=(a:Int)→y=(b:Int)→Pr H bp bm sl→A.le H→SnIs H bs S→
  (∀ D,Kp bs H D→Rc l a b→K true D)→
  (∀ D S',Kp bs H D→SnIs D bs S'→(∀ j,S j=true→S' j=true)→S' a=true→(∀ j,S' j=true→S j=false→j≠b∧∀ k ∈ adj l j,S' k=true)→K false D)→
  Qaz C (some (bp,0)) x y (some bs) K H:=by
 intro u
 induction u with
 | zero=>intro S a b x y H K hu; omega
 | succ u ih=>
 intro S a b x y H K hu ha hSa hx hy hP hA hS kt kf
 subst hx; subst hy
 apply Qg0
 unfold QdS
 obtain ⟨e0,hbs0⟩:=hS.has
 refine box1N fun b1 H2 n1 _ l1 h1=>box1N fun b3 H4 n3 _ l3 h3=>box1N fun b5 H6 n5 _ l5 h5=>?_
 have n1s:b1≠bs:=fun e=>by rw [e,hbs0] at n1; cases n1
 have n3s:b3≠bs:=fun e=>by rw [e,l1 _ _ hbs0] at n3; cases n3
 have n5s:b5≠bs:=fun e=>by rw [e,l3 _ _ (l1 _ _ hbs0)] at n5; cases n5
 have h1:=l5 _ _ (l3 _ _ h1)
 have h3:=l5 _ _ h3
 have hH6:=l1.trans (l3.trans l5)
 refine ⟨(b:Int),by rw [QaE h3]; rfl,ift.of (fun h=>?_) (fun h=>?_)⟩
 ·have e : a = b := by have := eq_of_beq h; omega
  subst e
  exact kt _ (Kp.of hH6) .refl
 ·have hab : a ≠ b := fun e => by rw [e] at h; simp at h
  obtain ⟨lS,hm,hl⟩:=hS.le hH6
  refine ⟨some bs,by rw [QaE h5]; rfl,bs,lS,rfl,hm,fun g l2 hm2 hl2 _=>?_⟩
  have hS12:SnIs (H6.put bs g) bs (fun j=>S j || decide (j=a)):=⟨l2,hm2,fun j=>by
   rw [hl2]
   by_cases hj:j=a
   ·subst hj; simp
   ·rw [if_neg (by omega),hl]; simp [hj]⟩
  have hK12:Kp bs H6 (H6.put bs g):=Heap.del_put (Heap.del_le _ _)
  generalize H6.put bs g=H12 at *
  have h1:=hK12.at_ n1s h1
  have h3:=hK12.at_ n3s h3
  have h5:=hK12.at_ n5s h5
  have hK:=(Kp.of hH6:Kp bs H H6).trans hK12
  have hP12:=hK.pr hbs hP
  have hA12:=hK.al hA hAs
  obtain ⟨_,hbp⟩:=hP12.at_
  refine ⟨some (bp,0),by rw [QaE h1]; rfl,_,rfl,fL hbp (j:=0) rfl ?_⟩
  refine SlIs.at_ hs hA12 (z:=6) (fun _=>rfl) (by omega) rfl ha fun p y hy hr=>⟨y.Imports,hr 1 _ rfl,?_⟩
  have hi:=hy.2.1.1
  have hadj:adj l a=l[a].im.map fun x=>findN l x.n:=by unfold adj; rw [List.getElem?_eq_getElem ha]
  apply QW
  unfold QF
  apply Q8
  unfold QJ
  have kt:∀ D,Kp bs H12 D→Rc l a b→K true D:=fun D h=>kt D (hK.trans h)
  have kf:∀ D S',Kp bs H12 D→SnIs D bs S'→(∀ j,S j=true→S' j=true)→S' a=true→(∀ j,S' j=true→S j=false→j≠b∧∀ k ∈ adj l j,S' k=true)→K false D:=fun D S' h=>kf D S' (hK.trans h)
  clear hr hy hS hP hA hK12 hm hl hm2 hl2
  generalize l[a]=m at *
  refine ixI (A:=A) (K:=fun r D=>K (decide (r ≥ 0)) D) (fun _=>rfl) (by omega) hi (fun i D=>Kp bs H12 D∧∃ S',SnIs D bs S'∧(∀ j,S j=true→S' j=true)∧S' a=true∧(∀ j,S' j=true→S j=false→j≠a→j≠b∧∀ k ∈ adj l j,S' k=true)∧∀ j,j < i→∀ (hj:j < m.im.length),S' (findN l m.im[j].n)=true) (fun i D h=>h.1.al hA12 hAs) ⟨Kp.refl,_,hS12,fun j hj=>by simp [hj],by simp,fun j hj hn hne=>by simp [hn,hne] at hj,fun j hj=>by omega⟩ ?_ ?_
  ·rintro i hil D y ⟨hD,S',hS',g1,g2,g3,g4⟩ hy
   refine ⟨149,[],[pv (some (b1,0)),pv (some (b5,0)),pv (some (b3,0))],rfl,Qgf,Qf1 C y (b1,0) (b5,0) (b3,0) _ D ?_⟩
   unfold Qdg
   refine box1N fun b2 D2 n2 _ l2 h2=>?_
   have hD2:=hD.trans (Kp.of l2)
   have k1:=hD2.at_ n1s h1
   have hkj:findN l m.im[i].n ∈ adj l a:=by rw [hadj]; exact List.mem_map.2 ⟨_,List.getElem_mem hil,rfl⟩
   have hkl:=hf _ _ hkj
   refine ⟨some (bp,0),by rw [QaE k1]; rfl,fS h2 (j:=2) rfl ?_⟩
   rw [hy.2.1]
   refine Qpm (hD2.pr hbs hP12) hs (hD2.al hA12 hAs) fun D3 hD3=>?_
   unfold fIx
   rw [if_pos hkl]
   have hKD3:=hD2.trans (Kp.of hD3)
   have hS3:=(hS'.le l2).le hD3
   obtain ⟨lS,hm,hl⟩:=hS3
   have next:∀ F S2,Kp bs H12 F→SnIs F bs S2→(∀ j,S' j=true→S2 j=true)→S2 (findN l m.im[i].n)=true→(∀ j,S2 j=true→S' j=false→j≠b∧∀ k ∈ adj l j,S2 k=true)→Kp bs H12 F∧∃ S',SnIs F bs S'∧(∀ j,S j=true→S' j=true)∧S' a=true∧(∀ j,S' j=true→S j=false→j≠a→j≠b∧∀ k ∈ adj l j,S' k=true)∧∀ j,j < i+1→∀ (hj:j < m.im.length),S' (findN l m.im[j].n)=true:=fun F S2 hF q1 q2 q3 q4=>by
    refine ⟨hF,S2,q1,fun j hj=>q2 j (g1 j hj),q2 _ g2,fun j hj hn hne=>?_,fun j hj hjl=>?_⟩
    ·cases hs':S' j with
     | false=>exact q4 j hj hs'
     | true=>
      obtain ⟨r1,r2⟩:=g3 j hs' hn hne
      exact ⟨r1,fun k hk=>q2 _ (r2 k hk)⟩
    ·by_cases hji:j=i
     ·subst hji; exact q3
     ·exact q2 _ (g4 j (by omega) hjl)
   refine ⟨some bs,by rw [QaE (hKD3.at_ n5s h5)]; rfl,?_⟩
   have rest:∀ (v is:Bool),v=S' (findN l m.im[i].n)→(fun (x11 is12:Bool)=>jn (α:=Bool) (fun b14 H26=>(fun (r12:Bool) H13=>ift r12 (K (decide (((i:Nat):Int) ≥ 0)) H13) ((Kp bs H12 H13∧∃ S',SnIs H13 bs S'∧(∀ j,S j=true→S' j=true)∧S' a=true∧(∀ j,S' j=true→S j=false→j≠a→j≠b∧∀ k ∈ adj l j,S' k=true)∧∀ j,j < i+1→∀ (hj:j < m.im.length),S' (findN l m.im[j].n)=true))) b14 H26) (fun J15=>ift (!x11) (ldP D3 (b1,0) fun x18=>ldI D3 .i64 (b3,0) fun x20=>ldM D3 (b5,0) fun x22=>Qaz C x18 (findN l m.im[i].n:Int) x20 x22 (fun r24 H25=>J15 r24 H25) D3) (J15 false D3))) v is:=fun v is hv=>by
    refine jn.inl ?_
    refine ift.of (fun h=>?_) (fun h=>?_)
    ·have hSk : S' (findN l m.im[i].n) = false := by rw [← hv]; simpa using h
     refine ⟨some (bp,0),by rw [QaE (hKD3.at_ n1s h1)]; rfl,(b:Int),by rw [QaE (hKD3.at_ n3s h3)]; rfl,some bs,by rw [QaE (hKD3.at_ n5s h5)]; rfl,?_⟩
     refine ih (S:=S') (by have:=QvX (n:=l.length) (a:=a) g1 ha hSa g2; omega) hkl hSk rfl rfl (hKD3.pr hbs hP12) (hKD3.al hA12 hAs) ⟨lS,hm,hl⟩ (fun F hF hrc=>ift.of (fun _=>?_) (fun h=>by cases h)) (fun F S2 hF q1 q2 q3 q4=>ift.of (fun h=>by cases h) (fun _=>?_))
     ·rw [show decide ((i : Int) ≥ 0) = true from decide_eq_true (by omega)]
      exact kt F (hKD3.trans hF) (hrc.head hkj)
     ·exact next F S2 (hKD3.trans hF) q1 q2 q3 q4
    ·refine ift.of (fun h => by cases h) (fun _ => ?_)
     have hSk:S' (findN l m.im[i].n)=true:=by rw [← hv]; simpa using h
     exact next D3 S' hKD3 ⟨lS,hm,hl⟩ (fun _ h=>h) hSk fun j h1 h2=>by rw [h1] at h2; cases h2
   refine hm.is.lk (fun v hv=>?_) (fun hno=>?_)
   ·rw [hl] at hv
    have e:v=S' (findN l m.im[i].n):=by
     split at hv
     ·rename_i hh; injection hv with hv; rw [← hv,hh]
     ·cases hv
    exact rest v true e
   ·rw [hl] at hno
    have e:false=S' (findN l m.im[i].n):=by
     split at hno
     ·cases hno
     ·rename_i hh; simpa using hh
    exact rest false false e
  ·rintro D ⟨hD,S',hS',g1,g2,g3,g4⟩
   have:=kf D S' hD hS' g1 g2 fun j hj hn=>by
    by_cases hja:j=a
    ·subst hja
     refine ⟨hab,fun k hk=>?_⟩
     rw [hadj] at hk
     obtain ⟨x,hx,rfl⟩:=List.mem_map.1 hk
     obtain ⟨i,hi',rfl⟩:=List.getElem_of_mem hx
     exact g4 i hi' hi'
    ·exact g3 j hj hn hja
   exact this
end
end
section
open Go Go.Proofs
theorem SnIs.new {H:Heap} {b:Nat}:SnIs (H.put b (.obj (.map #[] 0))) b (fun _=>false):=⟨[],MapS.new,fun j=>by simp [lkL]⟩
theorem Qr4 {l:List ImP} {s:Str}:(l.any fun y=>decide (y.n=s))=(l.map ImP.n).contains s:=by
 rw [Bool.eq_iff_iff,List.any_eq_true,List.contains_iff_mem,List.mem_map]
 simp only [decide_eq_true_eq]
section
variable {C:Ctx} {A H:Heap} {E:Value→Heap→Prop}
theorem QrG {l:List MoP} {bp bm:Nat} {sl:Sl} {K:Heap→Prop} (hP:Pr H bp bm sl) (hs:MpL A sl l) (hA:A.le H) (hl8:l.length≤8)
 (k:∀ D,H.le D→impA l l=none→impBf l 0 l=none→K D) (ke:∀ D e,H.le D→(impA l l=some e∨impA l l=none∧impBf l 0 l=some e)→E (flt e.1 e.2.1 e.2.2) D):QbU C E (some (bp,0)) K H:=by
 apply QgY
 unfold QdQ
 obtain ⟨_,hbp⟩:=hP.at_
 refine ⟨_,rfl,fL hbp (j:=0) rfl ?_⟩
 have hlen:=SlIs.len hs
 refine ⟨fun y D=>H.le D∧∃ i:Nat,y=(i:Int)∧i≤l.length∧impA l l=impA l (l.drop i),fun y _=>l.length - y.toNat,⟨Heap.le.refl _,0,rfl,Nat.zero_le _,by simp⟩,?_⟩
 rintro _ D ⟨hD,i,rfl,hi,hn⟩
 rw [hlen]
 refine ift.of (fun h=>?_) (fun h=>?_)
 ·have hil : i < l.length := by have := of_decide_eq_true h; omega
  refine hs.ld (hA.trans hD) (fun _=>rfl) (by omega) rfl hil fun y hy=>?_
  rw [Qcr hil,impA] at hn
  generalize l[i]=m at *
  obtain ⟨hy1,hy2,_⟩:=hy
  have lim:=SlIs.len hy2.1
  have bim:=SlIs.bd hy2.1
  refine boxZ rfl fun b16 D1 n16 l16 h16=>?_
  refine fL h16 (j:=1) rfl ?_
  refine ⟨fun y' D'=>D1.le D'∧∃ j:Nat,y' = (j:Int)∧j≤m.im.length∧impA1 l m.n [] m.im=impA1 l m.n ((m.im.take j).map ImP.n) (m.im.drop j),fun y' _=>m.im.length - y'.toNat,⟨Heap.le.refl _,0,rfl,Nat.zero_le _,by simp⟩,?_⟩
  rintro _ D2 ⟨hD2,j,rfl,hj,hn1⟩
  rw [lim]
  have hHD2:=hD.trans (l16.trans hD2)
  refine ift.of (fun h=>?_) (fun h=>?_)
  ·have hjl : j < m.im.length := by have := of_decide_eq_true h; omega
   refine jn.inl ?_
   refine SlIs.ld hy2.1 (hA.trans hHD2) (z:=3) (fun _=>rfl) (by omega) rfl hjl fun x hx=>?_
   have htk:(m.im.take j).map ImP.n++[m.im[j].n]=(m.im.take (j+1)).map ImP.n:=by rw [List.take_add_one,List.getElem?_eq_getElem hjl,Option.toList_some,List.map_append]; rfl
   rw [Qcr hjl,impA1,htk] at hn1
   generalize m.im[j]=v at *
   refine boxZ rfl fun b36 D3 n36 l36 h36=>?_
   have hHD3:=hHD2.trans l36
   have k16:=l36 _ _ (hD2 _ _ h16)
   have err:∀ e,impA1 l m.n [] m.im=some e→impA l l=some e:=fun e he=>by rw [hn,he]
   refine fS h36 (j:=2) rfl ?_
   rw [hx.2.1]
   refine Qpm (hP.le hHD3) hs (hA.trans hHD3) fun D4 hD4=>?_
   have hHD4:=hHD3.trans hD4
   unfold fIx
   refine ift.of (fun h=>?_) (fun h=>?_)
   ·have hno : l.length ≤ findN l v.n := by
     split at h
     ·have:=of_decide_eq_true h; omega
     ·omega
    rw [if_pos hno] at hn1
    refine bxT (c:=Qa.c) (hD4 _ _ k16) (fPs (x:=x.Pos) (hD4 _ _ h36) rfl rfl ?_)
    exact QdY hy1.1 hx.1 fun F hF=>ke F _ (hHD4.trans hF) (.inl (err _ hn1))
   ·have hno : ¬ l.length ≤ findN l v.n := by
     split at h
     ·omega
     ·exact absurd h (by decide)
    rw [if_neg hno] at hn1
    refine fL (hD4 _ _ k16) (j:=1) rfl ?_
    refine SlIs.pre hy2.1 (z:=3) (fun _=>rfl) hy2.2 rfl (by omega) fun t51 ht51=>?_
    refine cfImport (R:=IpIs) (ok:=fun w=>decide (w.n=v.n)) ht51 (hA.trans hHD4) ?_ fun D5 hD5=>?_
    ·intro w hw x2 F Φ hF hx2 hΦ
     refine ⟨59,[],[pv (some (b36,0))],rfl,Qge,Qf0 C x2 (b36,0) Φ F ?_⟩
     unfold Qdf
     refine box1N fun b2 G _ _ l2 h2=>fS h2 (j:=2) rfl (fS (l2 _ _ (hF _ _ (hD4 _ _ h36))) (j:=2) rfl ?_)
     rw [hx2.2.1,hx.2.1,Qr6]
     exact hΦ G l2
    ·rw [Qr4]
     refine ift.of (fun h=>?_) (fun h=>?_)
     ·rw [if_pos h] at hn1
      refine bxT (c:=Qa.c) (hD5 _ _ (hD4 _ _ k16)) (fPs (x:=x.Pos) (hD5 _ _ (hD4 _ _ h36)) rfl rfl ?_)
      exact QdY hy1.1 hx.1 fun F hF=>ke F _ (hHD4.trans (hD5.trans hF)) (.inl (err _ hn1))
     ·rw [if_neg (by rw [h]; decide)] at hn1
      rw [Qam (by omega) (by omega)]
      exact ⟨⟨hD2.trans (l36.trans (hD4.trans hD5)),j+1,rfl,by omega,hn1⟩,by first | omega | (dsimp only; omega)⟩
  ·have hje : j = m.im.length := by have := of_decide_eq_false h; omega
   subst hje
   rw [List.drop_length] at hn1
   have hn1:impA1 l m.n [] m.im=none:=hn1
   rw [hn1] at hn
   rw [Qam (by omega) (by omega)]
   exact ⟨⟨hHD2,i+1,rfl,by omega,hn⟩,by first | omega | (dsimp only; omega)⟩
 ·have hie : i = l.length := by have := of_decide_eq_false h; omega
  subst hie
  rw [List.drop_length] at hn
  have hn:impA l l=none:=hn
  have hf:=Qtu hn
  refine ⟨_,rfl,fL (hD _ _ hbp) (j:=0) rfl ?_⟩
  refine ⟨fun y D=>H.le D∧∃ i:Nat,y=(i:Int)∧i≤l.length∧impBf l 0 l=impBf l i (l.drop i),fun y _=>l.length - y.toNat,⟨hD,0,rfl,Nat.zero_le _,by simp⟩,?_⟩
  clear hD
  rintro _ D ⟨hD,i,rfl,hi,hnB⟩
  rw [hlen]
  refine ift.of (fun h=>?_) (fun h=>?_)
  ·have hil : i < l.length := by have := of_decide_eq_true h; omega
   refine hs.ld (hA.trans hD) (fun _=>rfl) (by omega) rfl hil fun y hy=>?_
   have him:=Qnz hn _ (List.getElem_mem hil)
   rw [Qcr hil,impBf] at hnB
   generalize l[i]=m at *
   obtain ⟨hy1,hy2,_⟩:=hy
   have lim:=SlIs.len hy2.1
   have bim:=SlIs.bd hy2.1
   refine boxZ rfl fun b16 D1 n16 l16 h16=>?_
   refine fL h16 (j:=1) rfl ?_
   refine ⟨fun y' D'=>D1.le D'∧∃ j:Nat,y' = (j:Int)∧j≤m.im.length∧impB1 l m.n i m.im=impB1 l m.n i (m.im.drop j),fun y' _=>m.im.length - y'.toNat,⟨Heap.le.refl _,0,rfl,Nat.zero_le _,by simp⟩,?_⟩
   rintro _ D2 ⟨hD2,j,rfl,hj,hn1⟩
   rw [lim]
   have hHD2:=hD.trans (l16.trans hD2)
   refine ift.of (fun h=>?_) (fun h=>?_)
   ·have hjl : j < m.im.length := by have := of_decide_eq_true h; omega
    refine jn.inl ?_
    refine SlIs.ld hy2.1 (hA.trans hHD2) (z:=3) (fun _=>rfl) (by omega) rfl hjl fun x hx=>?_
    have hfv:=him _ (List.getElem_mem hjl)
    rw [Qcr hjl,impB1] at hn1
    generalize m.im[j]=v at *
    refine boxZ rfl fun b36 D3 n36 l36 h36=>?_
    have hHD3:=hHD2.trans l36
    have k16:=l36 _ _ (hD2 _ _ h16)
    have err:∀ e,impB1 l m.n i m.im=some e→impBf l 0 l=some e:=fun e he=>by rw [hnB,he]
    refine fS h36 (j:=2) rfl ?_
    rw [hx.2.1]
    refine Qpm (hP.le hHD3) hs (hA.trans hHD3) fun D4 hD4=>?_
    have hHD4:=hHD3.trans hD4
    unfold fIx
    rw [if_pos hfv]
    intro bs ns
    have ls:=Heap.le_put ns (g:=.obj (.map #[] 0)) (m:=true)
    have hS:=SnIs.new (H:=D4) (b:=bs)
    generalize D4.put bs (.obj (.map #[] 0))=D5 at *
    have hHD5:=hHD4.trans ls
    have nA:A bs=none:=(hA.trans hHD4).none ns
    have nbp:bp≠bs:=fun e=>by rw [← e,hHD4 _ _ hbp] at ns; cases ns
    have dk:∀ {F},Kp bs D5 F→D4.le F:=fun {F} hF b e hb=>hF.at_ (fun e'=>by rw [e',ns] at hb; cases hb) (ls _ _ hb)
    refine QrQ hs hf nA nbp hl8 (uns l.length (fun _=>false)+1) (S:=fun _=>false) (by omega) hfv rfl rfl rfl (hP.le hHD5) (hA.trans hHD5) hS (fun F hF hrc=>ift.of (fun _=>?_) (fun h=>by cases h)) (fun F S' hF hS' q1 q2 q3=>ift.of (fun h=>by cases h) (fun _=>?_))
    ·rw [if_pos ((QoK hf hfv).2 hrc)] at hn1
     have hF:=dk hF
     refine bxT (c:=Qa.c) (hF _ _ (hD4 _ _ k16)) (fPs (x:=x.Pos) (hF _ _ (hD4 _ _ h36)) rfl rfl ?_)
     exact QdY hy1.1 hx.1 fun G hG=>ke G _ (hHD4.trans (hF.trans hG)) (.inr ⟨hn,err _ hn1⟩)
    ·rw [if_neg fun e => QsV q2 (fun j hj => q3 j hj rfl) ((QoK hf hfv).1 e)] at hn1
     rw [Qam (by omega) (by omega)]
     exact ⟨⟨hD2.trans (l36.trans (hD4.trans (dk hF))),j+1,rfl,by omega,hn1⟩,by first | omega | (dsimp only; omega)⟩
   ·have hje : j = m.im.length := by have := of_decide_eq_false h; omega
    subst hje
    rw [List.drop_length] at hn1
    have hn1:impB1 l m.n i m.im=none:=hn1
    rw [hn1] at hnB
    rw [Qam (by omega) (by omega)]
    exact ⟨⟨hHD2,i+1,rfl,by omega,hnB⟩,by first | omega | (dsimp only; omega)⟩
  ·have hie : i = l.length := by have := of_decide_eq_false h; omega
   subst hie
   rw [List.drop_length] at hnB
   exact k D hD hn hnB
end
end
section
set_option maxRecDepth 100000
open Go Go.Proofs
section
variable {C:Ctx} {H:Heap}
theorem Qu3 {b1 b3 b5:Nat} {m:Str} {p:Pl} {e:Int} {R:Heap→Prop}
 (k:nw (Qs.c Qs.zero) (fun b4 H4=>stT (b4,0) (Qs.c (⟨⟨m,psP p⟩,e⟩:Qs)) (fun H5=>dr H5 fun Hs=>ldT Hs Qe.c ((b4,0).1,(b4,0).2+0) fun x14=>ldI Hs .i64 ((b4,0).1,(b4,0).2+3) fun x16=>stT (b1,0) (Qa.c Qa.zero) (fun H6=>Heap.le Hs H6∧stT (b3,0) (Qe.c x14) (fun H7=>Heap.le Hs H7∧st (b5,0) (.int .i64 x16) (fun H8=>Heap.le Hs H8∧R H8) H7) H6) H5) H4) H) :
 SpecD Tryz.prog C 21 [pv (some (b1,0)),pv (some (b3,0)),pv (some (b5,0))] (.panicking [⟨flt m p e,false,false⟩]) H (fun u H2=>settle u=.returning∧R H2):=by
 refine SpecD.rec_ (u':=.panicking [{ v:=flt m p e,recovered:=true }]) (v:=flt m p e) (fun c₀ fs h=>.inl (Qqc h)) Tryz.func21 rfl Tryz.ntmps21 rfl rfl ?_
 refine GC.block ?_
 refine Zo (Zv (v:=.bool false) (OV.eqlIf (u:=flt m p e) rfl (.inr ⟨_,_,rfl⟩) rfl rfl) (GL.nil (Zd (b:=false) (fun h=>by cases h) fun _=>?_)))
 refine Zo (Zv (OV.typeIs rfl rfl) (Zv (v:=.bool true) (OV.extract (vs:=#[.agg (Qs.c (⟨⟨m,psP p⟩,e⟩:Qs)).toArray,.bool true]) rfl rfl) (Zv (v:=.agg (Qs.c (⟨⟨m,psP p⟩,e⟩:Qs)).toArray) (OV.extract (vs:=#[.agg (Qs.c (⟨⟨m,psP p⟩,e⟩:Qs)).toArray,.bool true]) rfl rfl) (GL.nil (Zd (b:=true) (fun _=>?_) fun h=>by cases h)))))
 refine Zo (GL.alloc (cs:=Qs.c Qs.zero) k trivial rfl rfl rfl ?_)
 intro b4 H4 k
 refine GL.storeT (p:=(b4,0)) (vs:=Qs.c (⟨⟨m,psP p⟩,e⟩:Qs)) k trivial rfl rfl rfl rfl ?_
 intro H5 k
 obtain ⟨Hs,hle,x14,hr14,x16,hr16,k⟩:=k
 refine GL.nil (GC.any (Hs:=Hs) (by kernel_rfl) hle (Zp 0 rfl (OV.build (vs:=[]) (v:=.agg (Qa.c Qa.zero).toArray) rfl (fun _=>by kernel_rfl)) ?_))
 refine Zp 1 rfl (OV.fieldAddr rfl rfl) (Zp 2 rfl (OV.loadT rfl rfl rfl hr14) (Zp 3 rfl (OV.fieldAddr rfl rfl) (Zp 4 rfl (OV.load rfl rfl hr16) (GA.eff 5 rfl (by kernel_rfl) (GL.storeT (p:=(b1,0)) (vs:=Qa.c Qa.zero) k trivial rfl rfl rfl rfl ?_)))))
 rintro H6 ⟨hle6,k⟩
 refine GA.back hle6 (GA.eff 6 rfl (by kernel_rfl) (GL.storeT (p:=(b3,0)) (vs:=Qe.c x14) k trivial rfl rfl rfl rfl ?_))
 rintro H7 ⟨hle7,k⟩
 refine GA.back hle7 (GA.eff 7 rfl (by kernel_rfl) (GL.store (p:=(b5,0)) (v:=.int .i64 x16) k trivial rfl rfl rfl rfl ?_))
 rintro H8 ⟨hle8,k⟩
 refine GA.back hle8 (GA.done (by kernel_rfl) ?_)
 exact fun a w hf hs=>postRn rfl hf hs ⟨rfl,k⟩
theorem Qu4 {b1 b3 b5:Nat} {R:Heap→Prop} (k:R H) :
 SpecD Tryz.prog C 21 [pv (some (b1,0)),pv (some (b3,0)),pv (some (b5,0))] .returning H (fun u H2=>u=.returning∧R H2):=by
 refine SpecD.rec_ (u':=.returning) (v:=.nilIface) (fun c₀ fs h=>.inr ⟨Qqd h,rfl,by rw [← h]⟩) Tryz.func21 rfl Tryz.ntmps21 rfl rfl ?_
 refine GC.block ?_
 refine Zo (Zv (v:=.bool true) (OV.eqlIf (u:=.nilIface) rfl (.inl rfl) rfl rfl) (GL.nil (Zd (b:=true) (fun _=>?_) fun h=>by cases h)))
 refine GC.region (Za ?_)
 exact fun a w hf hs=>postRn rfl hf hs ⟨rfl,k⟩
end
end
section
open Go Go.Proofs
theorem Qql {T:Tl} {o m o':MoP} (h:usedF T o m=.ok o'):o'.ty.length=o.ty.length+m.ty.length∧o'.re.length=o.re.length+m.re.length∧o'.ru.length=o.ru.length+m.ru.length∧o'.ne.length=o.ne.length+m.ne.length∧o'.n=o.n:=by
 unfold usedF at h
 split at h
 ·cases h
 split at h
 ·cases h
 split at h
 ·cases h
 split at h
 ·cases h
 rename_i _ a ha _ b hb _ c hc _ d hd
 injection h with h
 subst h
 simp only [List.length_append,Qck ha,Qck hb,Qck hc,Qck hd,and_self]
section
variable {C:Ctx} {A B W D H:Heap} {E:Value→Heap→Prop}
/-- a block that is none of the program's is written -/
theorem Out.put {bo:Nat} {q:Qa} {o:MoP} (h:Out A B W D bo q o) {b:Nat} {g:GO} (hb:∃ e,B b=some e) (hbo:b≠bo) (hW:W b=none):Out A B W (D.put b g) bo q o:=by
 have hq:∀ {x:Nat} {e:Bool×GO},x ∈ blks q→D x=some e→(D.put b g) x=some e:=fun {x e} hx he=>by
  have:x≠b:=fun e'=>by
   obtain ⟨e2,h2⟩:=hb
   rw [← e',(h.fr x hx).1] at h2; cases h2
  rw [Heap.put_ne _ _ _ this]; exact he
 have hnw:Heap.nw A B (D.put b g)=Heap.nw A B D:=QjO hb
 refine ⟨Heap.dom_put h.dom,h.ab,h.aw,Qbc h.wle hW,?_,h.bB,h.wo,h.nd,h.fr,h.nm,?_,?_,?_,?_⟩
 ·rw [Heap.put_ne _ _ _ (Ne.symm hbo)]; exact h.at_
 all_goals rw [hnw]
 ·exact h.gt.mono (fun x hx e he=>hq (List.mem_append_left _ hx) he) (Heap.le.refl _) TpO.le
 ·exact h.gr.mono (fun x hx e he=>hq (List.mem_append_right _ (List.mem_append_left _ hx)) he) (Heap.le.refl _) RpO.le
 ·exact h.gu.mono (fun x hx e he=>hq (List.mem_append_right _ (List.mem_append_right _ (List.mem_append_left _ hx))) he) (Heap.le.refl _) UpO.le
 ·exact h.gn.mono (fun x hx e he=>hq (List.mem_append_right _ (List.mem_append_right _ (List.mem_append_right _ hx))) he) (Heap.le.refl _) (fun h h'=>NpIs.le h h')
theorem QcH {c vs:List Value} (h:c.length=vs.length):splice c 0 vs=vs:=by
 unfold splice
 rw [List.take_zero,List.nil_append,Nat.zero_add,← h,List.drop_length,List.append_nil]
theorem put_id {D:Heap} {b:Nat} {g:GO} (h:D b=some (true,g)):D.put b g=D:=by
 funext x
 by_cases hx:x=b
 ·subst hx; rw [Heap.put_same,h]
 ·exact Heap.put_ne _ _ _ hx
/-- what is taken: the three results written over -/
theorem QvL {b1 b3 b5:Nat} {c1 c3 c5:List Value} {m:Str} {p:Pl} {e:Int} {K:Qa→Qe→Int→Heap→Prop} (h13:b1≠b3) (h15:b1≠b5) (h35:b3≠b5) (h1:H b1=some (true,.row c1)) (l1:c1.length=6) (h3:H b3=some (true,.row c3)) (l3:c3.length=3) (h5:H b5=some (true,.row c5)) (l5:c5.length=1)
 (k:∀ D,(((H.del b1).del b3).del b5).le D→K Qa.zero ⟨m,psP p⟩ e D) :
 SpecD Tryz.prog C 21 [pv (some (b1,0)),pv (some (b3,0)),pv (some (b5,0))] (.panicking [⟨flt m p e,false,false⟩]) H (fun u H31=>settle u=.returning∧ldT H31 Qa.c (b1,0) fun x32=>ldT H31 Qe.c (b3,0) fun x33=>ldI H31 .i64 (b5,0) fun x34=>K x32 x33 x34 H31):=by
 refine Qu3 ?_
 refine boxZ rfl fun b4 H5 n4 l4 h4=>?_
 have ne:∀ b,(∃ e,H b=some e)→b4≠b:=fun b ⟨e,he⟩ e'=>by rw [e',he] at n4; cases n4
 have d4:(((H5.del b1).del b3).del b5) b4=some (true,.row (Qs.c (⟨⟨m,psP p⟩,e⟩:Qs))):=by
  rw [Heap.del_ne _ (ne _ ⟨_,h5⟩),Heap.del_ne _ (ne _ ⟨_,h3⟩),Heap.del_ne _ (ne _ ⟨_,h1⟩)]; exact h4
 have k1:=l4 _ _ h1
 have k3:=l4 _ _ h3
 have k5:=l4 _ _ h5
 have hk:∀ D,(((H5.del b1).del b3).del b5).le D→(((H.del b1).del b3).del b5).le D:=fun D hD b e he=>by
  have n5:b≠b5:=fun e'=>by rw [e',Heap.del_same] at he; cases he
  rw [Heap.del_ne _ n5] at he
  have n3:b≠b3:=fun e'=>by rw [e',Heap.del_same] at he; cases he
  rw [Heap.del_ne _ n3] at he
  have n1:b≠b1:=fun e'=>by rw [e',Heap.del_same] at he; cases he
  rw [Heap.del_ne _ n1] at he
  exact hD b e (by rw [Heap.del_ne _ n5,Heap.del_ne _ n3,Heap.del_ne _ n1]; exact l4 _ _ he)
 have hl0:(((H5.del b1).del b3).del b5).le H5:=fun b e he=>by
  have n5:b≠b5:=fun e'=>by rw [e',Heap.del_same] at he; cases he
  rw [Heap.del_ne _ n5] at he
  have n3:b≠b3:=fun e'=>by rw [e',Heap.del_same] at he; cases he
  rw [Heap.del_ne _ n3] at he
  exact Heap.del_le _ _ _ _ he
 have hp:∀ {D:Heap} {b:Nat} {g:GO},(b=b1∨b=b3∨b=b5)→(((H5.del b1).del b3).del b5).le D→(((H5.del b1).del b3).del b5).le (D.put b g):=fun {D b g} hb hD x e he=>by
  have n5:x≠b5:=fun e'=>by rw [e',Heap.del_same] at he; cases he
  have he':=he
  rw [Heap.del_ne _ n5] at he
  have n3:x≠b3:=fun e'=>by rw [e',Heap.del_same] at he; cases he
  rw [Heap.del_ne _ n3] at he
  have n1:x≠b1:=fun e'=>by rw [e',Heap.del_same] at he; cases he
  rw [Heap.put_ne _ _ _ (by rcases hb with rfl | rfl | rfl <;> assumption)]
  exact hD x e he'
 refine ⟨(((H5.del b1).del b3).del b5),hl0,fT (c:=Qe.c) (x:=⟨m,psP p⟩) d4 (fun i v hv=>by match i,hv with | 0,hv=>exact hv | 1,hv=>exact hv | 2,hv=>exact hv) (fI d4 (j:=3) rfl ?_)⟩
 refine ⟨c1,k1,by rw [l1]; show 0+6≤6; omega,hp (.inl rfl) hl0,c3,by rw [Heap.put_ne _ _ _ (Ne.symm h13)]; exact k3,by rw [l3]; show 0+3≤3; omega,hp (.inr (.inl rfl)) (hp (.inl rfl) hl0),c5,by rw [Heap.put_ne _ _ _ (Ne.symm h35),Heap.put_ne _ _ _ (Ne.symm h15)]; exact k5,by rw [l5]; show 0 < 1; omega,hp (.inr (.inr rfl)) (hp (.inr (.inl rfl)) (hp (.inl rfl) hl0)),?_⟩
 have s1:splice c1 0 (Qa.c Qa.zero)=Qa.c Qa.zero:=QcH (by rw [l1]; rfl)
 have s3:splice c3 0 (Qe.c ⟨m,psP p⟩)=Qe.c ⟨m,psP p⟩:=QcH (by rw [l3]; rfl)
 have s5:c5.set 0 (.int .i64 e)=[.int .i64 e]:=by
  match c5,l5 with
  | [x],_=>rfl
 rw [s1,s3,s5]
 refine bxT (c:=Qa.c) (by rw [Heap.put_ne _ _ _ h15,Heap.put_ne _ _ _ h13]; exact Heap.put_same ..) (bxT (c:=Qe.c) (by rw [Heap.put_ne _ _ _ h35]; exact Heap.put_same ..) ⟨e,by rw [QaE (Heap.put_same ..)]; rfl,?_⟩)
 exact k _ (hk _ (hp (.inr (.inr rfl)) (hp (.inr (.inl rfl)) (hp (.inl rfl) hl0))))
theorem TlIs.same {A B:Heap} {bm:Nat} {T:Tl} (h:TlIs A bm T) (hb:B bm=A bm):TlIs B bm T:=by
 obtain ⟨l,h1,h2⟩:=h
 exact ⟨l,h1.same hb,h2⟩
/-- modules as one program -/
theorem Ql4 (hT:MaxC C) {l:List MoP} {sl:Sl} {K:Qa→Qe→Int→Heap→Prop} (hs:MpL A sl l) (hA:A.le H) (hd:∀ m ∈ l,moD m.e≤4611686018427387904)
 (k:∀ D B W bo q o,flatF l=.ok o→H.le B→H.le W→Out A B W D bo q o→K q ⟨[],psP (0,0)⟩ 0 D)
 (ke:∀ D e,flatF l=.error e→H.le D→K Qa.zero ⟨e.1,psP e.2.1⟩ e.2.2 D):Qbz C sl K H:=by
 have hlen:=SlIs.len hs
 apply Ql5
 unfold Qh7
 refine box1N fun b1 H2 n1 _ l1 h1=>box1N fun b3 H4 n3 _ l3 h3=>box1N fun b5 H6 n5 _ l5 h5=>?_
 have h1:=l5 _ _ (l3 _ _ h1)
 have n13:b1≠b3:=fun e=>by
  have:H2 b1=none:=by rw [e]; exact n3
  rw [‹H2 b1=some _›] at this; cases this
 have h3':=l5 _ _ h3
 have n15:b1≠b5:=fun e=>by
  have:H4 b1=none:=by rw [e]; exact n5
  rw [l3 _ _ ‹H2 b1=some _›] at this; cases this
 have n35:b3≠b5:=fun e=>by
  have:H4 b3=none:=by rw [e]; exact n5
  rw [h3] at this; cases this
 have h3:=h3'
 have hH6:=l1.trans (l3.trans l5)
 have m1:H b1=none:=n1
 have m3:H b3=none:=l1.none n3
 have m5:H b5=none:=(l1.trans l3).none n5
 have lit:∀ (z:Int),(∀ D,H.le D→K Qa.zero ⟨[],psP (0,0)⟩ z D)→stT (b1,0) (Qa.c (⟨[],Sl.nil,Sl.nil,Sl.nil,Sl.nil,Sl.nil⟩:Qa)) (fun H8=>stT (b3,0) (Qe.c (⟨[],Qf.zero⟩:Qe)) (fun H9=>st (b5,0) (.int .i64 z) (fun H10=>ldT H10 Qa.c (b1,0) fun x11=>ldT H10 Qe.c (b3,0) fun x13=>ldI H10 .i64 (b5,0) fun x15=>K x11 x13 x15 H10) H9) H8) H6:=fun z hk=>by
  refine ⟨_,h1,by show 0+6≤6; omega,_,by rw [Heap.put_ne _ _ _ (Ne.symm n13)]; exact h3,by show 0+3≤3; omega,_,by rw [Heap.put_ne _ _ _ (Ne.symm n35),Heap.put_ne _ _ _ (Ne.symm n15)]; exact h5,by show 0 < 1; omega,?_⟩
  rw [QcH (by rfl),QcH (by rfl)]
  refine bxT (c:=Qa.c) (by rw [Heap.put_ne _ _ _ n15,Heap.put_ne _ _ _ n13]; exact Heap.put_same ..) (bxT (c:=Qe.c) (by rw [Heap.put_ne _ _ _ n35]; exact Heap.put_same ..) ⟨z,by rw [QaE (Heap.put_same ..)]; rfl,hk _ ?_⟩)
  exact Qbc (Qbc (Qbc hH6 m1) m3) m5
 rw [hlen]
 refine ift.of (fun h=>?_) (fun h=>?_)
 ·have hl0 : l.length = 0 := by have := eq_of_beq h; omega
  exact lit 1 fun D hD=>ke D ([],(0,0),1) (by unfold flatF; rw [if_pos hl0]) hD
 have hl0:l.length≠0:=fun e=>by rw [e] at h; exact absurd h (by decide)
 refine ift.of (fun h=>?_) (fun h=>?_)
 ·have hl8 : 8 < l.length := by have := of_decide_eq_true h; omega
  exact lit 3 fun D hD=>ke D ([],(0,0),3) (by unfold flatF; rw [if_neg hl0,if_pos hl8]) hD
 have hl8:¬ 8 < l.length:=by have:=of_decide_eq_false h; omega
 clear lit
 refine ⟨fun v F=>∃ e c1 c3 c5,flatF l=.error e∧v=flt e.1 e.2.1 e.2.2∧H.le F∧F b1=some (true,.row c1)∧c1.length=6∧F b3=some (true,.row c3)∧c3.length=3∧F b5=some (true,.row c5)∧c5.length=1,?_,?_⟩
 ·rintro v F ⟨e,c1,c3,c5,he,rfl,hF,f1,g1,f3,g3,f5,g5⟩
  refine QvL n13 n15 n35 f1 g1 f3 g3 f5 g5 fun D hD=>ke D e he fun b x hb=>hD b x ?_
  rw [Heap.del_ne _ (fun e=>by rw [e,m5] at hb; cases hb),Heap.del_ne _ (fun e=>by rw [e,m3] at hb; cases hb),Heap.del_ne _ (fun e=>by rw [e,m1] at hb; cases hb)]
  exact hF b x hb
 intro bm nm
 have lm:=Heap.le_put nm (g:=.obj (.map #[] 0)) (m:=true)
 have hTl:TlIs (H6.put bm (.obj (.map #[] 0))) bm []:=⟨[],MapS.new,fun _=>rfl⟩
 generalize H6.put bm (.obj (.map #[] 0))=H36 at *
 refine box1N fun bp H38 np _ lp_ hp=>?_
 have hHm:H bm=none:=hH6.none nm
 have hAm:A bm=none:=hA.none hHm
 have n1m:b1≠bm:=fun e=>by rw [← e,h1] at nm; cases nm
 have n3m:b3≠bm:=fun e=>by rw [← e,h3] at nm; cases nm
 have n5m:b5≠bm:=fun e=>by rw [← e,h5] at nm; cases nm
 obtain ⟨em,hem⟩:=hTl.has
 have npm:bp≠bm:=fun e=>by rw [e,hem] at np; cases np
 have k1:=lp_ _ _ (lm _ _ h1)
 have k3:=lp_ _ _ (lm _ _ h3)
 have k5:=lp_ _ _ (lm _ _ h5)
 have np1:bp≠b1:=fun e=>by rw [e,lm _ _ h1] at np; cases np
 have np3:bp≠b3:=fun e=>by rw [e,lm _ _ h3] at np; cases np
 have np5:bp≠b5:=fun e=>by rw [e,lm _ _ h5] at np; cases np
 have hPr:Pr H38 bp bm sl:=⟨_,hp⟩
 have hTl:=hTl.le lp_
 have hH38:=hH6.trans (lm.trans lp_)
 clear l1 l3 l5 lm lp_ hp h1 h3 h5 hH6 np nm hem em
 have fin:∀ {F e},H.le F→flatF l=.error e→(∃ c,F b1=some (true,.row c)∧c.length=6)→F b3=some (true,.row (Qe.c Qe.zero))→F b5=some (true,.row [.int .i64 0])→∃ e' c1 c3 c5,flatF l=.error e'∧flt e.1 e.2.1 e.2.2=flt e'.1 e'.2.1 e'.2.2∧H.le F∧F b1=some (true,.row c1)∧c1.length=6∧F b3=some (true,.row c3)∧c3.length=3∧F b5=some (true,.row c5)∧c5.length=1:=
  fun {F e} hF he ⟨c,hc,hcl⟩ f3 f5=>⟨e,c,_,_,he,rfl,hF,hc,hcl,f3,rfl,f5,rfl⟩
 have hkp:∀ {F},Kp bm H38 F→H.le F:=fun {F} hF b e hb=>hF.at_ (fun e'=>by rw [e',hHm] at hb; cases hb) (hH38 _ _ hb)
 have flat0:flatF l=match singleF [] l with
  | some e=>.error e
  | none => match impA l l with
   | some e=>.error e
   | none => match impBf l 0 l with
    | some e=>.error e
    | none => match namesAll l [] with
     | .error e=>.error e
     | .ok T=>if totB l=true then .error ([],(0,0),3) else usedAll T ⟨(l.head?.map MoP.n).getD [],[],[],[],[],[]⟩ l:=by unfold flatF; rw [if_neg hl0,if_neg hl8] <;> rfl
 refine Qs3 hT hPr hs (hA.trans hH38) hd (fun D1 hD1 hsi=>?_) (fun F e hF he=>fin (hH38.trans hF) (by rw [flat0,he]) ⟨_,hF _ _ k1,rfl⟩ (hF _ _ k3) (hF _ _ k5))
 obtain ⟨q1,q2,_⟩:=Qkj hsi
 have hg:∀ m ∈ l,MoG m:=fun m hm=>moG (q1 m hm)
 rw [hsi] at flat0
 dsimp only at flat0
 refine QrG (hPr.le hD1) hs (hA.trans (hH38.trans hD1)) (by omega) (fun D2 hD2 hia hib=>?_) (fun F e hF he=>fin (hH38.trans (hD1.trans hF)) (by
  rw [flat0]
  rcases he with he | ⟨he,he2⟩
  ·rw [he]
  ·rw [he]; dsimp only; rw [he2]) ⟨_,hF _ _ (hD1 _ _ k1),rfl⟩ (hF _ _ (hD1 _ _ k3)) (hF _ _ (hD1 _ _ k5)))
 rw [hia] at flat0
 dsimp only at flat0
 rw [hib] at flat0
 dsimp only at flat0
 have hD2:=hD1.trans hD2
 clear hD1
 refine ⟨fun y D=>Kp bm H38 D∧∃ (i:Nat) (T:Tl),y=(i:Int)∧i≤l.length∧namesAll l []=namesAll (l.drop i) T∧TlIs D bm T,fun y _=>l.length - y.toNat,⟨Kp.of hD2,0,[],rfl,Nat.zero_le _,by rw [List.drop_zero],hTl.le hD2⟩,?_⟩
 clear hD2
 rintro _ D ⟨hD,i,T,rfl,hi,hn,hTD⟩
 have hAD:=hA.trans (hkp hD)
 refine ift.of (fun h=>?_) (fun h=>?_)
 ·have hil : i < l.length := by have := of_decide_eq_true h; omega
  refine hs.ld hAD (fun _=>rfl) (by omega) rfl hil fun y hy=>?_
  have hgi:=hg _ (List.getElem_mem hil)
  rw [Qcr hil,namesAll] at hn
  generalize l[i]=m at *
  refine boxZ rfl fun b52 D3 n52 l52 h52=>?_
  have hD3:=hD.trans (Kp.of l52)
  refine bxT (c:=Qa.c) h52 ?_
  refine QtB (hAD.trans l52) hAm (hD3.pr npm hPr) npm (hTD.le l52) hy hgi (fun F T' hT' hF hTF=>?_) (fun F e he hF=>?_)
  ·rw [hT'] at hn
   rw [Qam (by omega) (by omega)]
   exact ⟨⟨hD3.trans hF,i+1,T',rfl,by omega,hn,hTF⟩,by first | omega | (dsimp only; omega)⟩
  ·rw [he] at hn
   have hF:=hD3.trans hF
   exact fin (hkp hF) (by rw [flat0,hn]) ⟨_,hF.at_ n1m k1,rfl⟩ (hF.at_ n3m k3) (hF.at_ n5m k5)
 have hie:i=l.length:=by have:=of_decide_eq_false h; omega
 subst hie
 rw [List.drop_length] at hn
 have hn:namesAll l []=.ok T:=hn
 rw [hn] at flat0
 dsimp only at flat0
 refine Qs7 (hD.pr npm hPr) hs hAD hg (by omega) (fun D5 hD5 htot=>?_) (fun F hF htot=>?_)
 rotate_left
 ·have hF:=hD.trans (Kp.of hF)
  exact fin (e:=([],(0,0),3)) (hkp hF) (by rw [flat0,if_pos htot]) ⟨_,hF.at_ n1m k1,rfl⟩ (hF.at_ n3m k3) (hF.at_ n5m k5)
 rw [if_neg (by rw [htot]; decide)] at flat0
 have hD5:=hD.trans (Kp.of hD5)
 have hAD5:=hA.trans (hkp hD5)
 have hl1:0 < l.length:=by omega
 refine SlIs.at_ hs hAD5 (z:=6) (fun _=>rfl) (by omega) (i:=0) rfl hl1 fun p y hy hr=>⟨y.Name,hr 0 _ rfl,?_⟩
 have hhd:(l.head?.map MoP.n).getD []=l[0].n:=by
  match l,hl1 with
  | m::l,_=>rfl
 rw [hhd] at flat0
 have hy0:y.Name=l[0].n:=hy.1.1
 clear hr hy hhd
 generalize l[0].n=n0 at *
 have d1:=hD5.at_ n1m k1
 have d3:=hD5.at_ n3m k3
 have d5:=hD5.at_ n5m k5
 obtain ⟨mp,dp⟩:=(hD5.pr npm hPr).at_
 have dT:=hTD.le ‹D.le D5›
 refine QqP (cs2:=Qa.c ⟨n0,Sl.nil,Sl.nil,Sl.nil,Sl.nil,Sl.nil⟩) d1 (show 0 < 6 by omega) (by rw [hy0]; rfl) ?_
 have hHD5:=hkp hD5
 have hO:Out A (D5.put b1 (.row (Qa.c ⟨n0,Sl.nil,Sl.nil,Sl.nil,Sl.nil,Sl.nil⟩))) (D5.del b1) (D5.put b1 (.row (Qa.c ⟨n0,Sl.nil,Sl.nil,Sl.nil,Sl.nil,Sl.nil⟩))) b1 ⟨n0,Sl.nil,Sl.nil,Sl.nil,Sl.nil,Sl.nil⟩ ⟨n0,[],[],[],[],[]⟩:=by
  have nA1:A b1=none:=hA.none m1
  exact ⟨fun _ h=>h,Qbc hAD5 nA1,Heap.le_del hAD5 nA1,Heap.del_put (Heap.del_le _ _),Heap.put_same ..,⟨_,Heap.put_same ..⟩,Heap.del_same ..,by simp [blks,bk,Sl.nil],fun b hb=>by simp [blks,bk,Sl.nil] at hb,⟨rfl,rfl,rfl⟩,Gq.nil,Gq.nil,Gq.nil,Gq.nil⟩
 have hHB:H.le (D5.put b1 (.row (Qa.c ⟨n0,Sl.nil,Sl.nil,Sl.nil,Sl.nil,Sl.nil⟩))):=Qbc hHD5 m1
 have b3B:∃ e,(D5.put b1 (.row (Qa.c ⟨n0,Sl.nil,Sl.nil,Sl.nil,Sl.nil,Sl.nil⟩))) b3=some e:=⟨_,by rw [Heap.put_ne _ _ _ (Ne.symm n13)]; exact d3⟩
 have b5B:∃ e,(D5.put b1 (.row (Qa.c ⟨n0,Sl.nil,Sl.nil,Sl.nil,Sl.nil,Sl.nil⟩))) b5=some e:=⟨_,by rw [Heap.put_ne _ _ _ (Ne.symm n15)]; exact d5⟩
 generalize D5.put b1 (.row (Qa.c ⟨n0,Sl.nil,Sl.nil,Sl.nil,Sl.nil,Sl.nil⟩))=B at *
 have w3:(D5.del b1) b3=some (true,.row (Qe.c Qe.zero)):=by rw [Heap.del_ne _ (Ne.symm n13)]; exact d3
 have w5:(D5.del b1) b5=some (true,.row [.int .i64 0]):=by rw [Heap.del_ne _ (Ne.symm n15)]; exact d5
 have wP:Pr (D5.del b1) bp bm sl:=⟨mp,by rw [Heap.del_ne _ np1]; exact dp⟩
 have wT:TlIs (D5.del b1) bm T:=dT.same (Heap.del_ne _ (Ne.symm n1m))
 have hHW:H.le (((D5.del b1).del b3).del b5):=fun b x hb=>by
  rw [Heap.del_ne _ (fun e=>by rw [e,m5] at hb; cases hb),Heap.del_ne _ (fun e=>by rw [e,m3] at hb; cases hb),Heap.del_ne _ (fun e=>by rw [e,m1] at hb; cases hb)]
  exact hHD5 b x hb
 have hWW:(((D5.del b1).del b3).del b5).le (D5.del b1):=(Heap.del_le _ _).trans (Heap.del_le _ _)
 have hHW1:=hHW.trans hWW
 generalize D5.del b1=W1 at *
 refine ⟨fun y D=>∃ (i:Nat) (q:Qa) (o:MoP),y=(i:Int)∧i≤l.length∧usedAll T ⟨n0,[],[],[],[],[]⟩ l=usedAll T o (l.drop i)∧Out A B W1 D b1 q o∧o.ty.length≤i*256∧o.re.length≤i*256∧o.ru.length≤i*256∧o.ne.length≤i*256,fun y _=>l.length - y.toNat,⟨0,_,_,rfl,Nat.zero_le _,by rw [List.drop_zero],hO,Nat.zero_le _,Nat.zero_le _,Nat.zero_le _,Nat.zero_le _⟩,?_⟩
 clear hO d1 d3 d5 dp dT hD5 hAD5
 rintro _ D ⟨i,q,o,rfl,hi,hu,hO,u1,u2,u3,u4⟩
 have hi8 : i * 256 ≤ 2048 := by have : i ≤ 8 := by omega
                                 omega
 refine ift.of (fun h=>?_) (fun h=>?_)
 ·have hil : i < l.length := by have := of_decide_eq_true h; omega
  refine hs.ld hO.al (fun _=>rfl) (by omega) rfl hil fun y hy=>?_
  have hgi:=hg _ (List.getElem_mem hil)
  rw [Qcr hil,usedAll] at hu
  generalize l[i]=m at *
  refine boxZ rfl fun b52 D3 n52 l52 h52=>?_
  have hO3:=hO.up l52
  refine bxT (c:=Qa.c) h52 ?_
  refine Qvh hO3 wP wT hy hgi (by omega) (fun F q' o' ho' hO'=>?_) (fun F q' o' p hO' hp=>?_)
  ·rw [ho'] at hu
   obtain ⟨v1,v2,v3,v4,_⟩:=Qql ho'
   have g1:=hgi.lt
   have g2:=hgi.lr
   have g3:=hgi.lu
   have g4:=hgi.ln
   rw [Qam (by omega) (by omega)]
   exact ⟨⟨i+1,q',o',rfl,by omega,hu,hO',by omega,by omega,by omega,by omega⟩,by first | omega | (dsimp only; omega)⟩
  ·rw [hp] at hu
   exact fin (e:=(m.n,p,63)) (hHW1.trans hO'.wle) (by rw [flat0,hu]) ⟨_,hO'.at_,rfl⟩ (hO'.wle _ _ w3) (hO'.wle _ _ w5)
 ·have hie : i = l.length := by have := of_decide_eq_false h; omega
  subst hie
  rw [List.drop_length] at hu
  have hu:usedAll T ⟨n0,[],[],[],[],[]⟩ l=.ok o:=hu
  rw [hu] at flat0
  refine bxT (c:=Qa.c) hO.at_ ⟨_,hO.at_,by show 0+6≤6; omega,?_⟩
  rw [QcH (by rfl),put_id hO.at_]
  have f3:=hO.wle _ _ w3
  have f5:=hO.wle _ _ w5
  have hO2:=hO.keep (W2:=((W1.del b3).del b5)) (hA.trans hHW) (((Heap.del_le _ _).trans (Heap.del_le _ _)).trans hO.wle) (by rw [Heap.del_ne _ n15,Heap.del_ne _ n13]; exact hO.wo) fun b hb=>((Heap.del_le _ _).trans (Heap.del_le _ _)).none (hO.fr b hb).2
  have hO3:=hO2.put (b:=b3) (g:=.row (Qe.c ⟨[],Qf.zero⟩)) b3B (Ne.symm n13) (by rw [Heap.del_ne _ n35]; exact Heap.del_same ..)
  have hO4:=hO3.put (b:=b5) (g:=.row [.int .i64 0]) b5B (Ne.symm n15) (Heap.del_same ..)
  refine ⟨_,f3,by show 0+3≤3; omega,_,by rw [Heap.put_ne _ _ _ (Ne.symm n35)]; exact f5,by show 0 < 1; omega,?_⟩
  rw [QcH (by rfl)]
  refine Qu4 ?_
  refine bxT (c:=Qa.c) hO4.at_ (bxT (c:=Qe.c) (x:=⟨[],Qf.zero⟩) (by rw [Heap.put_ne _ _ _ n35]; exact Heap.put_same ..) ⟨0,by rw [QaE (Heap.put_same ..)]; rfl,?_⟩)
  exact k _ B _ b1 q o flat0 hHB hHW hO4
end
end
section
open Go Go.Proofs
/-- all that is known where modules come to a program -/
structure FlatO (l:List MoP) (T:Tl) (o:MoP):Prop where
 l1:0 < l.length
 l8:l.length≤8
 si:singleF [] l=none
 ia:impA l l=none
 ib:impBf l 0 l=none
 na:namesAll l []=.ok T
 tot:totB l=false
 us:usedAll T ⟨(l.head?.map MoP.n).getD [],[],[],[],[],[]⟩ l=.ok o
theorem QqD {l:List MoP} {o:MoP} (h:flatF l=.ok o):∃ T,FlatO l T o:=by
 unfold flatF at h
 split at h
 ·cases h
 split at h
 ·cases h
 rename_i h0 h8
 cases h1:singleF [] l with
 | some e=>rw [h1] at h; cases h
 | none=>
  rw [h1] at h
  cases h2:impA l l with
  | some e=>rw [h2] at h; cases h
  | none=>
   rw [h2] at h
   cases h3:impBf l 0 l with
   | some e=>rw [h3] at h; cases h
   | none=>
    rw [h3] at h
    cases h4:namesAll l [] with
    | error e=>rw [h4] at h; cases h
    | ok T=>
     rw [h4] at h
     dsimp only at h
     cases h5:totB l with
     | true=>rw [h5] at h; cases h
     | false=>
      rw [h5] at h
      exact ⟨T,by omega,by omega,h1,h2,h3,h4,h5,h⟩
theorem FlatO.mo {l:List MoP} {T:Tl} {o:MoP} (h:FlatO l T o):∀ m ∈ l,MoG m:=fun m hm=>moG ((Qkj h.si).1 m hm)
theorem Qn1 {T:Tl}:∀ {l:List MoP} {o o':MoP},usedAll T o l=.ok o'→o'.ty.length=o.ty.length+total MoP.ty l∧o'.re.length=o.re.length+total MoP.re l∧o'.ru.length=o.ru.length+total MoP.ru l∧o'.ne.length=o.ne.length+total MoP.ne l∧o'.n=o.n
 | [],o,o',h=>by simp only [usedAll] at h; injection h with h; subst h; simp [total]
 | m::l,o,o',h=>by
  simp only [usedAll] at h
  split at h
  ·cases h
  ·rename_i o1 h1
   obtain ⟨a1,a2,a3,a4,a5⟩:=Qql h1
   obtain ⟨b1,b2,b3,b4,b5⟩:=Qn1 h
   simp only [total]
   refine ⟨by omega,by omega,by omega,by omega,by rw [b5,a5]⟩
theorem FlatO.len {l:List MoP} {T:Tl} {o:MoP} (h:FlatO l T o):o.ty.length≤64∧o.re.length≤64∧o.ru.length≤256∧o.ne.length≤256∧o.n.length≤32:=by
 obtain ⟨a1,a2,a3,a4,a5⟩:=Qn1 h.us
 have ht:=h.tot
 unfold totB at ht
 simp only [Bool.or_eq_false_iff,decide_eq_false_iff_not] at ht
 simp only [List.length_nil] at a1 a2 a3 a4
 refine ⟨by omega,by omega,by omega,by omega,?_⟩
 rw [a5]
 have:=h.l1
 cases hl:l with
 | nil=>rw [hl] at this; simp at this
 | cons m l'=>exact (h.mo m (by rw [hl]; exact List.mem_cons_self ..)).n
section
variable {α β:Type} {R:Heap→α→β→Prop} {c:β→List Value} {z:Nat} {A B D Z W:Heap} {s:Sl} {l:List α}
/-- a list that grew, read -/
theorem Gq.is (h:Gq R c z Z D s l) (hb:∀ b ∈ bk s,B b=none) (hZ:Z.le (Heap.nw A B D)) (hz:∀ x,(c x).length=z) (hz0:0 < z) (hR:∀ {X Y:Heap} {v x},X.le Y→R X v x→R Y v x) (hl:l.length≤140737488355328):SlIs (R (Heap.nw A B D)) c (Heap.nw A B D) s l:=by
 have hlen:=h.len hz hz0
 obtain ⟨xs,h1,h2,h3⟩:=h
 refine ⟨xs,?_,by omega,h2,hl,fun i v x hv hx=>hR hZ (h3 i v x hv hx)⟩
 obtain ⟨g1,g2,g3,⟨hp,h0⟩ | ⟨b,sp,hp,hbk,_⟩⟩:=h1
 ·refine .inl ?_
  have:s.len=0:=by omega
  rw [this] at g1
  exact List.length_eq_zero_iff.1 (by omega)
 ·refine .inr ⟨g2, _, hp, Qhp (QnF (hb b (QcS.2 ⟨_, hp, rfl⟩)) hbk) fun j v hj => ?_⟩
  rw [Nat.zero_add,List.getElem?_append_left (List.getElem?_eq_some_iff.1 hj).1]; exact hj
theorem Out.is {bo:Nat} {q:Qa} {o:MoP} {T:Tl} {l:List MoP} (h:Out A B W D bo q o) (hf:FlatO l T o):MpIs (Heap.nw A B D) o q:=by
 obtain ⟨f1,f2,f3,f4,f5⟩:=hf.len
 have hZ:(offB (blks q) (Heap.nw A B D)).le (Heap.nw A B D):=QnG _ _
 have hfr:∀ b ∈ blks q,B b=none:=fun b hb=>(h.fr b hb).1
 refine ⟨⟨h.nm.1,by omega⟩,⟨?_,?_⟩,?_,?_,?_,?_⟩
 ·rw [h.nm.2.1,h.nm.2.2]; exact SlIs.nil
 ·rw [h.nm.2.1]; exact Nat.le_refl _
 ·obtain ⟨xs, g⟩ := h.gt.is (fun b hb => hfr b (List.mem_append_left _ hb)) hZ (fun _ => rfl) (by omega) TpO.le (by omega)
  exact ⟨xs,g.1,g.2.1,g.2.2.1,g.2.2.2.1,fun i v x hv hx=>(g.2.2.2.2 i v x hv hx).1⟩
 ·obtain ⟨xs, g⟩ := h.gr.is (fun b hb => hfr b (List.mem_append_right _ (List.mem_append_left _ hb))) hZ (fun _ => rfl) (by omega) RpO.le (by omega)
  exact ⟨xs,g.1,g.2.1,g.2.2.1,g.2.2.2.1,fun i v x hv hx=>(g.2.2.2.2 i v x hv hx).1⟩
 ·obtain ⟨xs, g⟩ := h.gu.is (fun b hb => hfr b (List.mem_append_right _ (List.mem_append_right _ (List.mem_append_left _ hb)))) hZ (fun _ => rfl) (by omega) UpO.le (by omega)
  exact ⟨xs,g.1,g.2.1,g.2.2.1,g.2.2.2.1,fun i v x hv hx=>(g.2.2.2.2 i v x hv hx).1⟩
 ·exact h.gn.is (fun b hb=>hfr b (List.mem_append_right _ (List.mem_append_right _ (List.mem_append_right _ hb)))) hZ (fun _=>rfl) (by omega) (fun h h'=>NpIs.le h h') (by omega)
theorem Qul {R:α→β→Prop} {b:Nat} {m:Bool} {xs:List β} {cs:List Value} {n:Nat} (hb:A b=some (m,.row cs)) (hc:cs=xs.flatMap c) (hn:n=xs.length) (hl:l.length=xs.length) (h1:l.length≤140737488355328) (hR:∀ (i:Nat) (v:α) (x:β),l[i]? = some v→xs[i]? = some x→R v x):SlIs R c A (Sl.of (some (b,0)) n n) l:=by
 subst hc; subst hn
 exact ⟨xs,.inr ⟨rfl,_,rfl,Qhp hb fun j v hj=>by rw [Nat.zero_add]; exact hj⟩,rfl,hl,h1,hR⟩
/-- a list of one -/
theorem QmG {R:α→β→Prop} {b:Nat} {m:Bool} {v:α} {x:β} (hb:A b=some (m,.row (c x++[]))) (h:R v x):SlIs R c A (Sl.of (some (b,0)) 1 1) [v]:=by
 refine Qul (xs:=[x]) hb (by simp) rfl rfl (by simp) fun i v' x' hv hx=>?_
 cases i with
 | zero=>simp at hv hx; subst hv; subst hx; exact h
 | succ i=>simp at hv
theorem QvP {R:α→β→Prop} {b:Nat} {m:Bool} {v w:α} {x y:β} (hb:A b=some (m,.row (c x++c y++[]))) (h:R v x) (h2:R w y):SlIs R c A (Sl.of (some (b,0)) 2 2) [v,w]:=by
 refine Qul (xs:=[x,y]) hb (by simp) rfl rfl (by simp) fun i v' x' hv hx=>?_
 match i with
 | 0=>simp at hv hx; subst hv; subst hx; exact h
 | 1=>simp at hv hx; subst hv; subst hx; exact h2
 | i+2=>simp at hv
end
end
section
open Go Go.Proofs
def fdA:FdV:=⟨[120],.mk [105,110,116] []⟩
def exA:ExP:=.mk (0,0) 2 [88] V0 []
def gA:MoP:=⟨[103,114,97,112,104],[⟨(0,0),[98,97,115,101]⟩],[],[⟨(0,0),false,false,[112],[fdA]⟩],[⟨(0,0),[112],[exA],[[]],[⟨(0,0),1,[98,97,115,101,46,101],[exA]⟩]⟩],[]⟩
def bA:MoP:=⟨[98,97,115,101],[],[],[⟨(0,0),true,true,[101],[fdA]⟩],[],[]⟩
def oA:MoP:=⟨[103,114,97,112,104],[],[],[⟨(0,0),false,false,[103,114,97,112,104,46,112],[fdA]⟩,⟨(0,0),true,true,[98,97,115,101,46,101],[fdA]⟩],[⟨(0,0),[103,114,97,112,104,46,112],[exA],[[]],[⟨(0,0),1,[98,97,115,101,46,101],[exA]⟩]⟩],[]⟩
theorem flatA:flatF [gA,bA]=.ok oA:=by rfl
theorem Qmf {b:Bool} {X Y:Prop} (h:b=true) (k:X):ift b X Y:=ift.of (fun _=>k) (fun h'=>by rw [h] at h'; cases h')
theorem Qvm {A:Heap}:FdIs A fdA ⟨[120],⟨[105,110,116],Sl.nil⟩⟩:=⟨⟨rfl,by decide⟩,Qer.2 ⟨⟨rfl,by decide⟩,SlIs.nil⟩⟩
theorem Qvv {A:Heap}:EpIs A exA ⟨2,Qf.zero,[88],Qh.zero,Sl.nil⟩:=QgD.2 ⟨rfl,rfl,⟨rfl,by decide⟩,QvZ,V0_B,SlIs.nil⟩
theorem QqY {C:Ctx} {H:Heap} (hT:MaxC C) {K:Bool→Heap→Prop} (k:∀ D,H.le D→K true D):QfW C K H:=by
 apply Qn7
 unfold QkQ
 refine box1N fun b1 H2 n1 _ l1 h1=>box1N fun b3 H4 n3 _ l3 h3=>box1N fun b5 H6 n5 _ l5 h5=>box1N fun b7 H8 n7 _ l7 h7=>box1N fun b9 H10 n9 _ l9 h9=>box1N fun b11 H12 n11 _ l11 h11=>box1N fun b13 H14 n13 _ l13 h13=>box1N fun b15 H16 n15 _ l15 h15=>box1N fun b17 H18 n17 _ l17 h17=>?_
 have hF:H.le H18:=l1.trans (l3.trans (l5.trans (l7.trans (l9.trans (l11.trans (l13.trans (l15.trans l17)))))))
 have h15:=l17 _ _ h15
 have h13:=l17 _ _ (l15 _ _ h13)
 have h11:=l17 _ _ (l15 _ _ (l13 _ _ h11))
 have h9:=l17 _ _ (l15 _ _ (l13 _ _ (l11 _ _ h9)))
 have h7:=l17 _ _ (l15 _ _ (l13 _ _ (l11 _ _ (l9 _ _ h7))))
 have h5:=l17 _ _ (l15 _ _ (l13 _ _ (l11 _ _ (l9 _ _ (l7 _ _ h5)))))
 have h3:=l17 _ _ (l15 _ _ (l13 _ _ (l11 _ _ (l9 _ _ (l7 _ _ (l5 _ _ h3))))))
 have h1:=l17 _ _ (l15 _ _ (l13 _ _ (l11 _ _ (l9 _ _ (l7 _ _ (l5 _ _ (l3 _ _ h1)))))))
 have f1:FdL H18 (Sl.of (some (b1,0)) 1 1) [fdA]:=QmG h1 Qvm
 have e3:EpL H18 (Sl.of (some (b3,0)) 1 1) [exA]:=QmG h3 Qvv
 have i5:IpL H18 (Sl.of (some (b5,0)) 1 1) [⟨(0,0),[98,97,115,101]⟩]:=QmG (R:=IpIs) h5 ⟨rfl,rfl,by decide⟩
 have r7:RpL H18 (Sl.of (some (b7,0)) 1 1) [⟨(0,0),false,false,[112],[fdA]⟩]:=QmG h7 ⟨rfl,rfl,rfl,⟨rfl,by decide⟩,f1⟩
 have s9:StL H18 (Sl.of (some (b9,0)) 1 1) [[]]:=QmG (c:=fun x:Str=>[sv x]) (x:=[]) h9 ⟨rfl,by decide⟩
 have b11':LpL H18 (Sl.of (some (b11,0)) 1 1) [⟨(0,0),1,[98,97,115,101,46,101],[exA]⟩]:=QmG h11 ⟨rfl,rfl,⟨rfl,by decide⟩,e3⟩
 have u13:UpL H18 (Sl.of (some (b13,0)) 1 1) gA.ru:=QmG h13 ⟨rfl,⟨rfl,by decide⟩,e3,s9,b11'⟩
 have r15:RpL H18 (Sl.of (some (b15,0)) 1 1) bA.re:=QmG h15 ⟨rfl,rfl,rfl,⟨rfl,by decide⟩,f1⟩
 have hs:MpL H18 (Sl.of (some (b17,0)) 2 2) [gA,bA]:=QvP h17 ⟨⟨rfl,by decide⟩,⟨i5,Nat.le_refl _⟩,SlIs.nil,r7,u13,SlIs.nil⟩ ⟨⟨rfl,by decide⟩,⟨SlIs.nil,Nat.le_refl _⟩,SlIs.nil,r15,SlIs.nil,SlIs.nil⟩
 clear h1 h3 h5 h7 h9 h11 h13 h15 h17 f1 e3 i5 r7 s9 b11' u13 r15 n1 n3 n5 n7 n9 n11 n13 n15 n17 l1 l3 l5 l7 l9 l11 l13 l15 l17
 refine Ql4 hT hs (Heap.le.refl _) (fun m hm=>by
  simp only [List.mem_cons,List.mem_nil_iff,or_false] at hm
  rcases hm with rfl | rfl <;> decide) (fun D B W bo q o ho hB hW hO=>?_) (fun D e he=>by rw [flatA] at he; cases he)
 have e:o=oA:=by rw [flatA] at ho; injection ho with ho; exact ho.symm
 subst e
 obtain ⟨T,hT'⟩:=QqD ho
 obtain ⟨⟨m1,_⟩,⟨m2,_⟩,m3,m4,m5,m6⟩:=hO.is hT'
 have hHD:=hF.trans (hW.trans hO.wle)
 have hN:(Heap.nw H18 B D).le D:=Qp1 hO.al
 refine box1N fun b23 H24 n23 _ l23 h23=>box1N fun b25 H26 n25 _ l25 h25=>?_
 have n2:b23≠b25:=fun e=>by rw [e] at h23; rw [h23] at n25; cases n25
 have nb:D b25=none:=l23.none n25
 refine ⟨_,l25 _ _ h23,by show 0+6≤6; omega,_,by rw [Heap.put_ne _ _ _ (Ne.symm n2)]; exact h25,by show 0+3≤3; omega,?_⟩
 rw [QcH (by rfl),QcH (by rfl)]
 have g23:((H26.put b23 (.row (Qa.c q))).put b25 (.row (Qe.c ⟨[],psP (0,0)⟩))) b23=some (true,.row (Qa.c q)):=by rw [Heap.put_ne _ _ _ n2]; exact Heap.put_same ..
 have g25:((H26.put b23 (.row (Qa.c q))).put b25 (.row (Qe.c ⟨[],psP (0,0)⟩))) b25=some (true,.row (Qe.c ⟨[],psP (0,0)⟩)):=Heap.put_same ..
 have hDG:D.le ((H26.put b23 (.row (Qa.c q))).put b25 (.row (Qe.c ⟨[],psP (0,0)⟩))):=Qbc (Qbc (l23.trans l25) n23) nb
 show jn _ _
 rw [show (H26.put (b23,0).1 (GO.row (Qa.c q))).put (b25,0).1 (GO.row (Qe.c ⟨[],psP (0,0)⟩))=(H26.put b23 (.row (Qa.c q))).put b25 (.row (Qe.c ⟨[],psP (0,0)⟩)) from rfl]
 generalize (H26.put b23 (.row (Qa.c q))).put b25 (.row (Qe.c ⟨[],psP (0,0)⟩))=G at *
 have hNG:=hN.trans hDG
 refine jn.inl (Qmf rfl (bxT (c:=Qe.c) g25 ?_))
 refine jn.inl (Qmf (QiS.2 rfl) (fS g23 (j:=0) rfl ?_))
 rw [m1]
 refine jn.inl (Qmf rfl (fL g23 (j:=1) rfl ?_))
 refine jn.inl (Qmf (by rw [SlIs.len m2]; rfl) (fL g23 (j:=3) rfl ?_))
 refine jn.inl (Qmf (by rw [SlIs.len m4]; rfl) (fL g23 (j:=3) rfl ?_))
 refine SlIs.at_ m4 hNG (z:=6) (fun _=>rfl) (by omega) (i:=0) rfl (by decide) fun p y hy hr=>⟨y.Name,hr 4 _ rfl,?_⟩
 refine jn.inl (Qmf (by rw [hy.2.2.2.1.1]; rfl) (fL g23 (j:=3) rfl ?_))
 refine SlIs.at_ m4 hNG (z:=6) (fun _=>rfl) (by omega) (i:=1) rfl (by decide) fun p y hy hr=>⟨y.Name,hr 4 _ rfl,?_⟩
 refine jn.inl (Qmf (by rw [hy.2.2.2.1.1]; rfl) (fL g23 (j:=3) rfl ?_))
 refine SlIs.at_ m4 hNG (z:=6) (fun _=>rfl) (by omega) (i:=1) rfl (by decide) fun p y hy hr=>⟨y.Input,hr 3 _ rfl,?_⟩
 refine jn.inl (Qmf (by rw [hy.2.2.1]; rfl) (fL g23 (j:=4) rfl ?_))
 refine jn.inl (Qmf (by rw [SlIs.len m5]; rfl) (fL g23 (j:=4) rfl ?_))
 refine SlIs.at_ m5 hNG (z:=6) (fun _=>rfl) (by omega) (i:=0) rfl (by decide) fun p y hy hr=>⟨y.Rel,hr 2 _ rfl,?_⟩
 refine jn.inl (Qmf (by rw [hy.2.1.1]; rfl) (fL g23 (j:=4) rfl ?_))
 refine SlIs.at_ m5 hNG (z:=6) (fun _=>rfl) (by omega) (i:=0) rfl (by decide) fun p y hy hr=>⟨y.Body,hr 5 _ rfl,?_⟩
 refine SlIs.at_ hy.2.2.2.2 hNG (z:=5) (fun _=>rfl) (by omega) (i:=0) rfl (by decide) fun p y hy hr=>⟨y.Rel,hr 3 _ rfl,?_⟩
 refine jn.inl (Qmf (by rw [hy.2.2.1.1]; rfl) (fL g23 (j:=4) rfl ?_))
 refine SlIs.at_ m5 hNG (z:=6) (fun _=>rfl) (by omega) (i:=0) rfl (by decide) fun p y hy hr=>⟨y.Args,hr 3 _ rfl,?_⟩
 have hk:=k G (hHD.trans hDG)
 dsimp only
 rw [SlIs.len hy.2.2.1]
 exact hk
end
section
open Go Go.Proofs
def szM (m:MoP):Nat:=20+10*(m.im.length+m.ty.length+m.re.length+m.ru.length+m.ne.length)
theorem Qva {l:List MoP}:∀ {m:MoP},m ∈ l→szM m≤sL szM l:=by
 induction l with
 | nil=>intro m h; cases h
 | cons a l ih=>
  intro m h
  simp only [sL]
  rcases List.mem_cons.1 h with rfl | h
  ·omega
  ·have:=ih h; omega
theorem Qs6:∀ l:List MoP,20*l.length≤sL szM l
 | []=>by simp [sL]
 | m::l=>by have:=Qs6 l; simp only [sL,List.length_cons,szM]; omega
theorem QnY {α:Type} {f:α→Nat} (hf:∀ v,1≤f v):∀ l:List α,l.length≤sL f l
 | []=>Nat.zero_le _
 | v::l=>by have:=QnY hf l; have:=hf v; simp only [sL,List.length_cons]; omega
theorem QsE (m:MoP):m.im.length≤moSz m.e∧m.ty.length≤moSz m.e∧m.re.length≤moSz m.e∧m.ru.length≤moSz m.e∧m.ne.length≤moSz m.e:=by
 have h1:=QnY (f:=tdSz) (fun v=>by unfold tdSz; omega) (m.ty.map TdP.e)
 have h2:=QnY (f:=rdSz) (fun v=>by unfold rdSz; omega) (m.re.map RdP.e)
 have h3:=QnY (f:=ruSz) (fun v=>by unfold ruSz; omega) (m.ru.map RuP.e)
 have h4:=QnY (f:=neSz) (fun v=>by unfold neSz; omega) (m.ne.map NeP.e)
 simp only [List.length_map] at h1 h2 h3 h4
 unfold moSz MoP.e
 simp only [List.length_map]
 refine ⟨by omega,by omega,by omega,by omega,by omega⟩
section
variable {C:Ctx} {A H:Heap}
theorem Qtw (hT:MaxC C) (hFm:FmtC C) {l:List MoP} {s:Sl} {K:Bool→Heap→Prop} (hs:MpL A s l) (hA:A.le H) (hz:∀ m ∈ l,moSz m.e≤16777216) (hl:l.length≤16777216)
 (k:∀ b D,H.le D→(b=false→sL szM l < 5000∧∀ m ∈ l,moD m.e≤64)→K b D):Qiv C s K H:=by
 have hlen:=SlIs.len hs
 apply Qn9
 unfold QkS
 refine ⟨fun y D=>H.le D∧∃ (i:Nat) (n:Int),y=(n,(i:Int))∧i≤l.length∧(sL szM (l.take i):Int)≤n∧n≤10000000000000∧∀ m ∈ l.take i,moD m.e≤64,fun y _=>l.length - y.2.toNat,⟨Heap.le.refl _,0,0,rfl,Nat.zero_le _,by simp [sL],by omega,fun m hm=>by simp at hm⟩,?_⟩
 rintro _ D ⟨hD,i,n,rfl,hi,hn,hn2,hd⟩
 rw [hlen]
 refine ift.of (fun h=>?_) (fun h=>?_)
 ·rw [Bool.and_eq_true] at h
  have hil:i < l.length:=by have:=of_decide_eq_true h.1; omega
  have hn5:n < 5000:=of_decide_eq_true h.2
  have hzi:=hz _ (List.getElem_mem hil)
  have hlens:=QsE l[i]
  have hDz:=QvG l[i].e
  have htk:=Qu9 (f:=szM) hil
  have hmt:∀ m ∈ l.take (i+1),m ∈ l.take i∨m=l[i]:=fun m hm=>by
   rw [List.take_add_one,List.getElem?_eq_getElem hil,Option.toList_some] at hm
   rcases List.mem_append.1 hm with h | h
   ·exact .inl h
   ·exact .inr (by simpa using h)
  refine SlIs.ld hs (hA.trans hD) (z:=6) (fun _=>rfl) (by omega) rfl hil fun y hy=>?_
  have hmt2:=fun (x:Qa) (hx:MpIs A l[i] x)=>QuT (MpIs.e hx)
  refine Qtg hT hFm (MpIs.e hy) (hA.trans hD) (by omega) (fun h0=>?_) fun D2 hD2=>?_
  ·have:=hmt2 y hy (moC0 h0).2.1
   omega
  have htl:(if moC l[i].e=0 then moT l[i].e else []).length≤400000000000:=by
   split
   ·rename_i h0
    have:=hmt2 y hy (moC0 h0).2.1
    omega
   ·simp
  have hAD:=hA.trans (hD.trans hD2)
  have hHD:=hD.trans hD2
  generalize (if moC l[i].e=0 then moT l[i].e else [])=tx at *
  refine ift.of (fun h=>k true D2 hHD (fun h=>by cases h)) (fun h=>?_)
  have hdp:moD l[i].e≤64:=by
   have h:moC l[i].e≠65:=by simpa using h
   unfold moC at h
   split at h
   ·exact absurd rfl h
   ·omega
  refine SlIs.at_ hs hAD (z:=6) (fun _=>rfl) (by omega) rfl hil fun p y1 hy1 hr=>⟨y1.Rules,hr 4 _ rfl,?_⟩
  dsimp only
  rw [SlIs.len hy1.2.2.2.2.1]
  refine SlIs.at_ hs hAD (z:=6) (fun _=>rfl) (by omega) rfl hil fun p y1 hy1 hr=>⟨y1.Types,hr 2 _ rfl,?_⟩
  dsimp only
  rw [SlIs.len hy1.2.2.1]
  refine SlIs.at_ hs hAD (z:=6) (fun _=>rfl) (by omega) rfl hil fun p y1 hy1 hr=>⟨y1.Rels,hr 3 _ rfl,?_⟩
  dsimp only
  rw [SlIs.len hy1.2.2.2.1]
  refine SlIs.at_ hs hAD (z:=6) (fun _=>rfl) (by omega) rfl hil fun p y1 hy1 hr=>⟨y1.Nevers,hr 5 _ rfl,?_⟩
  dsimp only
  rw [SlIs.len hy1.2.2.2.2.2]
  refine SlIs.at_ hs hAD (z:=6) (fun _=>rfl) (by omega) rfl hil fun p y1 hy1 hr=>⟨y1.Imports,hr 1 _ rfl,?_⟩
  dsimp only
  rw [SlIs.len hy1.2.1.1]
  unfold szM at htk
  generalize hm:l[i]=m at *
  rw [Qam (x := (m.ru.length : Int) + (m.ty.length : Int)) (by omega) (by omega), Qam (x := (m.ru.length : Int) + (m.ty.length : Int) + (m.re.length : Int)) (by omega) (by omega), Qam (x := (m.ru.length : Int) + (m.ty.length : Int) + (m.re.length : Int) + (m.ne.length : Int)) (by omega) (by omega), Qam (x := (m.ru.length : Int) + (m.ty.length : Int) + (m.re.length : Int) + (m.ne.length : Int) + (m.im.length : Int)) (by omega) (by omega),
   Qam (x:=10*((m.ru.length:Int)+(m.ty.length:Int)+(m.re.length:Int)+(m.ne.length:Int)+(m.im.length:Int))) (by omega) (by omega),Qam (x:=n+20) (by omega) (by omega),Qam (x:=n+20+(tx.length:Int)) (by omega) (by omega),Qam (x:=n+20+(tx.length:Int)+10*((m.ru.length:Int)+(m.ty.length:Int)+(m.re.length:Int)+(m.ne.length:Int)+(m.im.length:Int))) (by omega) (by omega),Qam (by omega) (by omega)]
  refine ⟨⟨hHD,i+1,_,rfl,by omega,?_,by omega,fun m' hm'=>?_⟩,by first | omega | (dsimp only; omega)⟩
  ·change ((sL (fun m : MoP => 20 + 10 * (m.im.length + m.ty.length + m.re.length + m.ru.length + m.ne.length)) (l.take (i + 1)) : Nat) : Int) ≤ _
   have hn:((sL (fun m:MoP=>20+10*(m.im.length+m.ty.length+m.re.length+m.ru.length+m.ne.length)) (l.take i):Nat):Int)≤n:=hn
   have htk:sL (fun m:MoP=>20+10*(m.im.length+m.ty.length+m.re.length+m.ru.length+m.ne.length)) (l.take (i+1))=sL (fun m:MoP=>20+10*(m.im.length+m.ty.length+m.re.length+m.ru.length+m.ne.length)) (l.take i)+(20+10*(m.im.length+m.ty.length+m.re.length+m.ru.length+m.ne.length)):=htk
   omega
  ·rcases hmt m' hm' with h' | h'
   ·exact hd m' h'
   ·rw [h']; exact hdp
 ·refine k _ D hD fun hb => ?_
  have hn5:n < 5000:=by have:=of_decide_eq_false hb; dsimp only at this; omega
  have hie:i=l.length:=by
   rcases Bool.and_eq_false_iff.1 h with h | h
   ·have:=of_decide_eq_false h; dsimp only at this; omega
   ·have:=of_decide_eq_false h; dsimp only at this; omega
  subst hie
  rw [List.take_length] at hn hd
  exact ⟨by omega,hd⟩
end
end
section
open Go Go.Proofs
def plC (l:List Pl):List Value:=l.flatMap fun p=>Qf.c (psP p)
theorem QqJ (a b:List Pl):plC (a++b)=plC a++plC b:=by unfold plC; rw [List.flatMap_append]
theorem Qlj:∀ l:List Pl,(plC l).length=l.length*2
 | []=>rfl
 | p::l=>by have:=Qlj l; unfold plC at this ⊢; rw [List.flatMap_cons,List.length_append,this,List.length_cons,Nat.add_mul]; show 2+_=_; omega
theorem Qu0 (l:List Pl):∀ u ∈ plC l,u.oneCell' = true:=fun u hu=>by
 obtain ⟨p,_,hp⟩:=List.mem_flatMap.1 hu
 simp only [Qf.c,List.mem_cons,List.mem_nil_iff,or_false] at hp
 rcases hp with rfl | rfl <;> rfl
theorem QoC:∀ l:List ExP,exsPl l=l.flatMap exPl
 | []=>rfl
 | v::l=>by rw [exsPl,QoC l,List.flatMap_cons]
theorem Qsj (v:ExP):exPl v=v.p::exsPl v.a:=by obtain ⟨p,k,n,u,a⟩:=v; rfl
theorem Qt9 {α β:Type} {f:α→List β} {l:List α} {i:Nat} (h:i < l.length):(l.take (i+1)).flatMap f=(l.take i).flatMap f++f l[i]:=by
 rw [List.take_add_one,List.getElem?_eq_getElem h,Option.toList_some,List.flatMap_append]; simp
theorem Qq9 {α β:Type} {f:α→List β} {l:List α} {i:Nat} (h:i < l.length):((l.take i).flatMap f).length+(f l[i]).length≤(l.flatMap f).length:=by
 have e:l=l.take (i+1)++l.drop (i+1):=(List.take_append_drop _ _).symm
 have:=congrArg (fun m=>(m.flatMap f).length) e
 rw [List.flatMap_append,List.length_append,Qt9 h,List.length_append] at this
 omega
section
variable {C:Ctx} {A H:Heap}
theorem OwnF.lenP {H0 D:Heap} {s:Sl} {l:List Pl} (h:OwnF H0 D 2 s (plC l)):s.len=l.length:=by have:=h.own.1; rw [Qlj] at this; omega
/-- a loop that adds places -/
theorem lpPl {α:Type} {f:α→List Pl} {l:List α} {pre:List Pl} {s0:Sl} {H D0:Heap} {body:Sl×Int→(Sl×Int→Heap→Prop)→Heap→Prop} (h0:OwnF H D0 2 s0 (plC pre)) (hl:l.length≤140737488355328)
 (step:∀ (s:Sl) (i:Nat) (D:Heap) (J:Sl×Int→Heap→Prop),OwnF H D 2 s (plC (pre++(l.take i).flatMap f))→i≤l.length→(∀ (h:i < l.length) (r:Sl) (D':Heap),OwnF H D' 2 r (plC (pre++(l.take i).flatMap f++f l[i]))→J (r,w .i64 ((i:Int)+1)) D')→body (s,(i:Int)) J D):lp (α:=Sl×Int) (s0,0) D0 body:=by
 refine ⟨fun y D=>∃ i:Nat,y.2=(i:Int)∧i≤l.length∧OwnF H D 2 y.1 (plC (pre++(l.take i).flatMap f)),fun y _=>l.length - y.2.toNat,⟨0,rfl,Nat.zero_le _,by simpa using h0⟩,?_⟩
 rintro ⟨s,_⟩ D ⟨i,rfl,hi,hO⟩
 refine step s i D _ hO hi fun h r D' hr=>?_
 rw [Qam (by omega) (by omega)]
 refine ⟨⟨i+1,rfl,by omega,?_⟩,by first | omega | (dsimp only; omega)⟩
 rw [Qt9 h,← List.append_assoc]; exact hr
/-- a place more -/
theorem apP {H0 D:Heap} {s:Sl} {l:List Pl} {p:Pl} {q:Qf} {K:Sl→Heap→Prop} (h:OwnF H0 D 2 s (plC l)) (hq:q=psP p) (hb:l.length≤4294967296) (k:∀ r D2,OwnF H0 D2 2 r (plC (l++[p]))→K r D2):apd (Qf.c Qf.zero) 16 s (Qf.c q++[]) 1 K D:=by
 subst hq
 have:=h.lenP
 refine QmX (zc:=Qf.c Qf.zero) h (by rw [List.append_nil]; rfl) (by omega) (by omega) fun r D2 hr _=>k r D2 ?_
 rw [QqJ]
 have e:plC [p]=Qf.c (psP p)++[]:=by simp [plC]
 rw [e]; exact hr
/-- places more -/
theorem apPs {H0 D1 D:Heap} {s t:Sl} {l m:List Pl} {K:Sl→Heap→Prop} (h:OwnF H0 D 2 s (plC l)) (ht:OwnF D1 D 2 t (plC m)) (hb:l.length+m.length≤4294967296) (k:∀ r D2,OwnF H0 D2 2 r (plC (l++m))→K r D2):apS (Qf.c Qf.zero) 16 s t K D:=by
 have e1:=h.lenP
 have e2:=ht.lenP
 refine QmW (zc:=Qf.c Qf.zero) h ht.own.rdsl (by rw [Qlj,e2]; rfl) (Qu0 _) (by omega) (by omega) fun r D2 hr _=>k r D2 ?_
 rw [QqJ]; exact hr
theorem QoA:∀ (u:Nat) {l:List ExP} {s:Sl} {H:Heap} {K:Sl→Heap→Prop},(exsPl l).length < u→(exsPl l).length≤4294967296→EpL A s l→A.le H→(∀ r D,OwnF H D 2 r (plC (exsPl l))→K r D)→Qev C s K H:=by
 intro u
 induction u with
 | zero=>intro l s H K h; omega
 | succ u ih=>
 intro l s H K hu hb hs hA k
 have hlen:=SlIs.len hs
 have hbd:=SlIs.bd hs
 rw [QoC] at hu hb k
 apply Qn8
 unfold QkR
 refine lpPl (f:=exPl) (pre:=[]) (l:=l) (OwnF.nil H 2) hbd fun s1 i D J hO hi hJ=>?_
 rw [hlen]
 refine ift.of (fun h=>?_) (fun h=>?_)
 ·have hil : i < l.length := by have := of_decide_eq_true h; omega
  have hJ:=hJ hil
  have hle:=Qq9 (f:=exPl) hil
  have hAD:=hA.trans hO.le
  rw [List.nil_append] at hO hJ
  rw [Qsj] at hJ hle
  simp only [List.length_cons] at hle
  refine SlIs.at_ hs hAD (z:=9) (fun _=>rfl) (by omega) rfl hil fun p y hy hr=>⟨y.Pos,QeG fun j v hj=>?_,?_⟩
  ·have := hr (1 + j) v (by match j, hj with | 0, hj => exact hj | 1, hj => exact hj)
   rw [← Nat.add_assoc] at this; exact this
  refine apP hO (QgD.1 hy).1 (by omega) fun r12 D2 hO2=>?_
  have hAD2:=hA.trans hO2.le
  refine SlIs.at_ hs hAD2 (z:=9) (fun _=>rfl) (by omega) rfl hil fun p y hy hr=>⟨y.Args,hr 8 _ rfl,?_⟩
  refine ih (l:=l[i].a) (by omega) (by omega) (QgD.1 hy).2.2.2.2.2 hAD2 fun r21 D3 hO3=>?_
  refine apPs (hO2.up hO3.le) hO3 (by simp only [List.length_append,List.length_cons,List.length_nil]; omega) fun r23 D4 hO4=>hJ _ _ ?_
  rw [List.append_assoc] at hO4; exact hO4
 ·have hie : i = l.length := by have := of_decide_eq_false h; omega
  subst hie
  rw [List.take_length,List.nil_append] at hO
  exact k _ _ hO
theorem QpS {l:List LiP} {s:Sl} {K:Sl→Heap→Prop} (hb:(boPl l).length≤4294967296) (hs:LpL A s l) (hA:A.le H) (k:∀ r D,OwnF H D 2 r (plC (boPl l))→K r D):QgE C s K H:=by
 have hlen:=SlIs.len hs
 have hbd:=SlIs.bd hs
 unfold boPl at hb k
 apply QoU
 unfold QlN
 refine lpPl (f:=fun x=>x.p::exsPl x.a) (pre:=[]) (l:=l) (OwnF.nil H 2) hbd fun s1 i D J hO hi hJ=>?_
 rw [hlen]
 refine ift.of (fun h=>?_) (fun h=>?_)
 ·have hil : i < l.length := by have := of_decide_eq_true h; omega
  have hJ:=hJ hil
  have hle:=Qq9 (f:=fun x:LiP=>x.p::exsPl x.a) hil
  have hAD:=hA.trans hO.le
  rw [List.nil_append] at hO hJ
  simp only [List.length_cons] at hle
  refine SlIs.at_ hs hAD (z:=5) (fun _=>rfl) (by omega) rfl hil fun p y hy hr=>⟨y.Pos,QeG fun j v hj=>?_,?_⟩
  ·have := hr (1 + j) v (by match j, hj with | 0, hj => exact hj | 1, hj => exact hj)
   rw [← Nat.add_assoc] at this; exact this
  refine apP hO hy.1 (by omega) fun r12 D2 hO2=>?_
  have hAD2:=hA.trans hO2.le
  refine SlIs.at_ hs hAD2 (z:=5) (fun _=>rfl) (by omega) rfl hil fun p y hy hr=>⟨y.Args,hr 4 _ rfl,?_⟩
  refine QoA _ (l:=l[i].a) (Nat.lt_succ_self _) (by omega) hy.2.2.2 hAD2 fun r21 D3 hO3=>?_
  refine apPs (hO2.up hO3.le) hO3 (by simp only [List.length_append,List.length_cons,List.length_nil]; omega) fun r23 D4 hO4=>hJ _ _ ?_
  rw [List.append_assoc] at hO4; exact hO4
 ·have hie : i = l.length := by have := of_decide_eq_false h; omega
  subst hie
  rw [List.take_length,List.nil_append] at hO
  exact k _ _ hO
end
end
section
open Go Go.Proofs
theorem Qnw {α β : Type} {f : α → β} : ∀ l : List α, l.flatMap (fun v => [f v]) = l.map f
 | []=>rfl
 | v::l=>by rw [List.flatMap_cons,Qnw l]; rfl
theorem QuZ:∀ {l m:List Pl},(∀ (i:Nat) (h:i < l.length) (h':i < m.length),Qf.c (psP l[i])=Qf.c (psP m[i]))→l.length=m.length→l=m:=fun {l m} h hl=>by
 refine List.ext_getElem hl fun i h1 h2=>?_
 have:=h i h1 h2
 simp only [Qf.c,psP,List.cons.injEq,Value.int.injEq,true_and,and_true] at this
 exact Prod.ext this.1 this.2
theorem Qug {l:List Pl} {i j:Nat} {v:Value} (h:i < l.length) (hj:(Qf.c (psP l[i]))[j]? = some v):(plC l)[i*2+j]? = some v:=by
 have hj2:j < 2:=(List.getElem?_eq_some_iff.1 hj).1
 have e:l=l.take i++l[i]::l.drop (i+1):=by rw [← Qcr h,List.take_append_drop]
 have e2:plC l=plC (l.take i)++(Qf.c (psP l[i])++plC (l.drop (i+1))):=by
  have:plC (l[i]::l.drop (i+1))=Qf.c (psP l[i])++plC (l.drop (i+1)):=by unfold plC; rw [List.flatMap_cons]
  rw [← this,← QqJ,← e]
 rw [e2,List.getElem?_append_right (by rw [Qlj,List.length_take]; omega),Qlj,List.length_take,Nat.min_eq_left (by omega),Nat.add_sub_cancel_left,List.getElem?_append_left (by show j < 2; exact hj2)]
 exact hj
section
variable {C:Ctx} {A H:Heap}
theorem Qp8 {m:MoP} {x:Qa} {K:Sl→Heap→Prop} (hm:MpIs A m x) (hA:A.le H) (hb:(moPl m).length≤4294967296) (k:∀ r D,OwnF H D 2 r (plC (moPl m))→K r D):Qfa C x K H:=by
 obtain ⟨_,_,m3,m4,m5,m6⟩:=hm
 unfold moPl at hb k
 simp only [List.length_append,List.length_map] at hb
 apply Qm5
 unfold Qj3
 refine box1N fun b1 H2 n1 _ l1 h1=>?_
 have k:∀ r D,OwnF H2 D 2 r (plC (m.ty.map TdP.p++m.re.map RdP.p++m.ru.flatMap (fun r=>r.p::(exsPl r.a++boPl r.b))++m.ne.flatMap (fun n=>n.p::boPl n.b)))→K r D:=fun r D h=>k r D (by
  have:=h.down l1
  rwa [List.append_assoc,List.append_assoc] at this)
 have hA2:=hA.trans l1
 have e3:=SlIs.len m3
 have e4:=SlIs.len m4
 have e5:=SlIs.len m5
 have e6:=SlIs.len m6
 refine lpPl (f:=fun t:TdP=>[t.p]) (pre:=[]) (l:=m.ty) (OwnF.nil H2 2) (SlIs.bd m3) fun s1 i D J hO hi hJ=>?_
 have g1:=hO.le _ _ h1
 rw [List.nil_append] at hO hJ
 refine fL g1 (j:=2) rfl ?_
 dsimp only
 rw [e3]
 refine ift.of (fun h=>?_) (fun h=>?_)
 ·have hil : i < m.ty.length := by have := of_decide_eq_true h; omega
  refine fL g1 (j:=2) rfl (SlIs.at_ m3 (hA2.trans hO.le) (z:=6) (fun _=>rfl) (by omega) rfl hil fun p y hy hr=>⟨y.Pos,QeG fun j v hj=>?_,?_⟩)
  ·have := hr (0 + j) v (by match j, hj with | 0, hj => exact hj | 1, hj => exact hj)
   rw [← Nat.add_assoc] at this; exact this
  refine apP hO hy.1 ?_ fun r D2 hO2=>hJ hil _ _ hO2
  rw [Qnw,List.length_map,List.length_take]; omega
 have hie:i=m.ty.length:=by have:=of_decide_eq_false h; omega
 subst hie
 rw [List.take_length,Qnw] at hO
 clear hJ g1 h hi
 refine lpPl (f:=fun t:RdP=>[t.p]) (l:=m.re) hO (SlIs.bd m4) fun s1 i D J hO hi hJ=>?_
 have g1:=hO.le _ _ h1
 refine fL g1 (j:=3) rfl ?_
 dsimp only
 rw [e4]
 refine ift.of (fun h=>?_) (fun h=>?_)
 ·have hil : i < m.re.length := by have := of_decide_eq_true h; omega
  refine fL g1 (j:=3) rfl (SlIs.at_ m4 (hA2.trans hO.le) (z:=6) (fun _=>rfl) (by omega) rfl hil fun p y hy hr=>⟨y.Pos,QeG fun j v hj=>?_,?_⟩)
  ·have := hr (0 + j) v (by match j, hj with | 0, hj => exact hj | 1, hj => exact hj)
   rw [← Nat.add_assoc] at this; exact this
  refine apP hO hy.1 ?_ fun r D2 hO2=>hJ hil _ _ hO2
  rw [Qnw,List.length_append,List.length_map,List.length_map,List.length_take]; omega
 have hie:i=m.re.length:=by have:=of_decide_eq_false h; omega
 subst hie
 rw [List.take_length,Qnw] at hO
 clear hJ g1 h hi
 refine lpPl (f:=fun r:RuP=>r.p::(exsPl r.a++boPl r.b)) (l:=m.ru) hO (SlIs.bd m5) fun s1 i D J hO hi hJ=>?_
 have g1:=hO.le _ _ h1
 refine fL g1 (j:=4) rfl ?_
 dsimp only
 rw [e5]
 refine ift.of (fun h=>?_) (fun h=>?_)
 ·have hil : i < m.ru.length := by have := of_decide_eq_true h; omega
  have hle:=Qq9 (f:=fun r:RuP=>r.p::(exsPl r.a++boPl r.b)) hil
  have hJ:=hJ hil
  simp only [List.length_cons,List.length_append] at hle
  refine fL g1 (j:=4) rfl (SlIs.at_ m5 (hA2.trans hO.le) (z:=6) (fun _=>rfl) (by omega) rfl hil fun p y hy hr=>⟨y.Pos,QeG fun j v hj=>?_,?_⟩)
  ·have := hr (0 + j) v (by match j, hj with | 0, hj => exact hj | 1, hj => exact hj)
   rw [← Nat.add_assoc] at this; exact this
  refine apP hO hy.1 (by simp only [List.length_append,List.length_map]; omega) fun r D2 hO2=>?_
  refine fL (hO2.le _ _ h1) (j:=4) rfl (SlIs.at_ m5 (hA2.trans hO2.le) (z:=6) (fun _=>rfl) (by omega) rfl hil fun p y hy hr=>⟨y.Args,hr 3 _ rfl,?_⟩)
  refine QoA _ (l:=m.ru[i].a) (Nat.lt_succ_self _) (by omega) hy.2.2.1 (hA2.trans hO2.le) fun r2 D3 hO3=>?_
  refine apPs (hO2.up hO3.le) hO3 (by simp only [List.length_append,List.length_map,List.length_cons,List.length_nil]; omega) fun r3 D4 hO4=>?_
  refine fL (hO4.le _ _ h1) (j:=4) rfl (SlIs.at_ m5 (hA2.trans hO4.le) (z:=6) (fun _=>rfl) (by omega) rfl hil fun p y hy hr=>⟨y.Body,hr 5 _ rfl,?_⟩)
  refine QpS (l:=m.ru[i].b) (by omega) hy.2.2.2.2 (hA2.trans hO4.le) fun r4 D5 hO5=>?_
  refine apPs (hO4.up hO5.le) hO5 (by simp only [List.length_append,List.length_map,List.length_cons,List.length_nil]; omega) fun r5 D6 hO6=>hJ _ _ ?_
  simp only [List.append_assoc,List.singleton_append] at hO6 ⊢
  exact hO6
 have hie:i=m.ru.length:=by have:=of_decide_eq_false h; omega
 subst hie
 rw [List.take_length] at hO
 clear hJ g1 h hi
 refine lpPl (f:=fun n:NeP=>n.p::boPl n.b) (l:=m.ne) hO (SlIs.bd m6) fun s1 i D J hO hi hJ=>?_
 have g1:=hO.le _ _ h1
 refine fL g1 (j:=5) rfl ?_
 dsimp only
 rw [e6]
 refine ift.of (fun h=>?_) (fun h=>?_)
 ·have hil : i < m.ne.length := by have := of_decide_eq_true h; omega
  have hle:=Qq9 (f:=fun n:NeP=>n.p::boPl n.b) hil
  have hJ:=hJ hil
  simp only [List.length_cons] at hle
  refine fL g1 (j:=5) rfl (SlIs.at_ m6 (hA2.trans hO.le) (z:=4) (fun _=>rfl) (by omega) rfl hil fun p y hy hr=>⟨y.Pos,QeG fun j v hj=>?_,?_⟩)
  ·have := hr (0 + j) v (by match j, hj with | 0, hj => exact hj | 1, hj => exact hj)
   rw [← Nat.add_assoc] at this; exact this
  refine apP hO hy.1 (by simp only [List.length_append,List.length_map]; omega) fun r D2 hO2=>?_
  refine fL (hO2.le _ _ h1) (j:=5) rfl (SlIs.at_ m6 (hA2.trans hO2.le) (z:=4) (fun _=>rfl) (by omega) rfl hil fun p y hy hr=>⟨y.Body,hr 3 _ rfl,?_⟩)
  refine QpS (l:=m.ne[i].b) (by omega) hy.2.2 (hA2.trans hO2.le) fun r2 D3 hO3=>?_
  refine apPs (hO2.up hO3.le) hO3 (by simp only [List.length_append,List.length_map,List.length_cons,List.length_nil]; omega) fun r3 D4 hO4=>hJ _ _ ?_
  simp only [List.append_assoc,List.singleton_append] at hO4 ⊢
  exact hO4
 have hie:i=m.ne.length:=by have:=of_decide_eq_false h; omega
 subst hie
 rw [List.take_length] at hO
 exact k _ _ hO
/-- the same, places too -/
theorem QtO {m n:MoP} {x y:Qa} {K:Bool→Heap→Prop} (hm:MpIs A m x) (hn:MpIs A n y) (hA:A.le H) (hb:(moPl m).length≤4294967296) (hb2:(moPl n).length≤4294967296) (k:∀ b D,H.le D→(m.e=n.e→moPl m=moPl n→b=true)→(b=true→m.e=n.e∧moPl m=moPl n)→K b D):Qd3 C x y K H:=by
 apply QoV
 unfold QlO
 refine box1N fun b1 H2 n1 _ l1 h1=>box1N fun b3 H4 n3 _ l3 h3=>?_
 have h1:=l3 _ _ h1
 have l13:=l1.trans l3
 refine bxT (c:=Qa.c) h1 (bxT (c:=Qa.c) h3 ?_)
 refine Qtk (MpIs.e hm) (MpIs.e hn) (hA.trans l13) ?_
 refine ift.of (fun h=>?_) (fun h=>?_)
 ·have hne:m.e≠n.e:=nsm.1 h
  exact k false _ l13 (fun e=>absurd e hne) (fun h=>by cases h)
 have he:m.e=n.e:=by
  refine Classical.byContradiction fun hne=>?_
  rw [(nsm (v:=m.e) (w:=n.e)).2 hne] at h; cases h
 refine ⟨H4,Heap.le.refl _,bxT (c:=Qa.c) h1 (bxT (c:=Qa.c) h3 ?_)⟩
 refine Qp8 hm (hA.trans l13) hb fun r19 D1 hO1=>⟨hO1.le,?_⟩
 refine Qp8 hn ((hA.trans l13).trans hO1.le) hb2 fun r22 D2 hO2=>⟨hO1.le.trans hO2.le,?_⟩
 have e1:=hO1.lenP
 have e2:=hO2.lenP
 have hHD2:=l13.trans (hO1.le.trans hO2.le)
 rw [e1,e2]
 refine ift.of (fun h=>?_) (fun h=>?_)
 ·have hne : moPl m ≠ moPl n := fun e => by rw [e] at h; simp at h
  exact k false _ hHD2 (fun _ e=>absurd e hne) (fun h=>by cases h)
 have hll:(moPl m).length=(moPl n).length:=by
  have:((moPl m).length:Int)=((moPl n).length:Int):=by simpa using h
  omega
 refine ⟨fun x D=>D=D2∧∃ i:Nat,x=(i:Int)∧i≤(moPl m).length∧∀ j (h:j < (moPl m).length) (h':j < (moPl n).length),j < i→Qf.c (psP (moPl m)[j])=Qf.c (psP (moPl n)[j]),fun x _=>(moPl m).length - x.toNat,⟨rfl,0,rfl,Nat.zero_le _,fun j _ _ h=>by omega⟩,?_⟩
 rintro _ D ⟨hDe,i,rfl,hi,hE⟩
 subst hDe
 have r1:=hO1.own.rdsl
 have r2:=hO2.own.rdsl
 refine ift.of (fun h=>?_) (fun h=>?_)
 ·have hil : i < (moPl m).length := by have := of_decide_eq_true h; omega
  have hil2:i < (moPl n).length:=by omega
  have ne1:plC (moPl m)≠[]:=fun e=>by have:=Qlj (moPl m); rw [e] at this; simp at this; omega
  have ne2:plC (moPl n)≠[]:=fun e=>by have:=Qlj (moPl n); rw [e] at this; simp at this; omega
  refine Qre (Qgl hO2.le r1) (by omega) (by omega) ne1 fun p hp hr=>⟨psP (moPl m)[i],QeG fun j v hj=>?_,?_⟩
  ·have:=QjZ hr _ _ (Qug hil hj)
   rw [← Nat.add_assoc] at this; exact this
  refine Qre r2 (by omega) (by omega) ne2 fun p hp hr=>⟨psP (moPl n)[i],QeG fun j v hj=>?_,?_⟩
  ·have:=QjZ hr _ _ (Qug hil2 hj)
   rw [← Nat.add_assoc] at this; exact this
  refine ift.of (fun h=>?_) (fun h=>?_)
  ·refine k false _ hHD2 (fun _ e => ?_) (fun h => by cases h)
   have:csEq (Qf.c (psP (moPl m)[i])) (Qf.c (psP (moPl n)[i]))=true:=QiS.2 (by
    have:(moPl m)[i]=(moPl n)[i]:=by simp only [e]
    rw [this])
   rw [this] at h; cases h
  ·have hq : Qf.c (psP (moPl m)[i]) = Qf.c (psP (moPl n)[i]) := QiS.1 (by simpa using h)
   rw [Qam (by omega) (by omega)]
   refine ⟨⟨rfl,i+1,rfl,by omega,fun j h1 h2 hj=>?_⟩,by first | omega | (dsimp only; omega)⟩
   by_cases hji:j=i
   ·subst hji; exact hq
   ·exact hE j h1 h2 (by omega)
 ·have hie : i = (moPl m).length := by have := of_decide_eq_false h; omega
  subst hie
  exact k true _ hHD2 (fun _ _=>rfl) (fun _=>⟨he,QuZ (fun j h1 h2=>hE j h1 h2 h1) hll⟩)
end
end
section
open Go Go.Proofs
section
variable {T:Tl} {m:MoP}
end
theorem QiE {α β:Type} {f:β→Nat} {g:α→Nat} {h:α→β} (e:∀ v,f (h v)=g v):∀ l:List α,mxL f (l.map h)=mxL g l
 | []=>rfl
 | v::l=>by rw [List.map_cons,mxL,mxL,e v,QiE e l]
end
section
open Go Go.Proofs
theorem QuE:∀ v:ExP,(exPl v).length=exSz v.e:=by
 refine ExP.rec_ fun v ih=>?_
 rw [Qsj,ExP.e_eq,Qpc,List.length_cons]
 have:∀ l:List ExP,(∀ w ∈ l,(exPl w).length=exSz w.e)→(exsPl l).length=sL exSz (l.map ExP.e):=by
  intro l
  induction l with
  | nil=>intro _; rfl
  | cons v l ih2=>
   intro h
   simp only [exsPl,List.length_append,List.map_cons,sL]
   rw [h v (List.mem_cons_self ..),ih2 fun w hw=>h w (List.mem_cons_of_mem _ hw)]
 have h:=this v.a ih
 show (exsPl v.a).length+1=sL exSz (v.a.map ExP.e)+1
 omega
theorem Qph:∀ l:List ExP,(exsPl l).length=sL exSz (l.map ExP.e)
 | []=>rfl
 | v::l=>by simp only [exsPl,List.length_append,List.map_cons,sL,QuE v,Qph l]
theorem Qqv:∀ l:List LiP,(boPl l).length=sL liSz (l.map LiP.e)
 | []=>rfl
 | v::l=>by
  have:=Qqv l
  unfold boPl at this ⊢
  simp only [List.flatMap_cons,List.length_append,List.length_cons,List.map_cons,sL,this,liSz,LiP.e,Qph]
theorem QuS (m:MoP):(moPl m).length≤moSz m.e:=by
 have h1:=QnY (f:=tdSz) (fun v=>by unfold tdSz; omega) (m.ty.map TdP.e)
 have h2:=QnY (f:=rdSz) (fun v=>by unfold rdSz; omega) (m.re.map RdP.e)
 have h3:∀ l:List RuP,(l.flatMap (fun r=>r.p::(exsPl r.a++boPl r.b))).length=sL ruSz (l.map RuP.e):=by
  intro l
  induction l with
  | nil=>rfl
  | cons r l ih=>
   simp only [List.flatMap_cons,List.length_append,List.length_cons,List.map_cons,sL,ih,ruSz,RuP.e,Qph,Qqv]
 have h4:∀ l:List NeP,(l.flatMap (fun n=>n.p::boPl n.b)).length=sL neSz (l.map NeP.e):=by
  intro l
  induction l with
  | nil=>rfl
  | cons r l ih=>
   simp only [List.flatMap_cons,List.length_append,List.length_cons,List.map_cons,sL,ih,neSz,NeP.e,Qqv]
 simp only [List.length_map] at h1 h2
 unfold moPl moSz MoP.e
 simp only [List.length_append,List.length_map,h3,h4]
 omega
section
variable {T:Tl} {m:MoP}
mutual
theorem Qvw:∀ {v w:ExP},exF T m v=.ok w→exPl w=exPl v
 | .mk p k n u a,w,h=>by
  rw [exF] at h
  split at h
  ·cases h
  ·split at h
   ·cases h
   ·rename_i a' ha
    injection h with h
    subst h
    rw [exPl,exPl,Qpf ha]
theorem Qpf:∀ {l r:List ExP},exsF T m l=.ok r→exsPl r=exsPl l
 | [],r,h=>by rw [exsF] at h; injection h with h; subst h; rfl
 | v::l,r,h=>by
  rw [exsF] at h
  split at h
  ·cases h
  ·rename_i w hw
   split at h
   ·cases h
   ·rename_i r' hr
    injection h with h
    subst h
    rw [exsPl,exsPl,Qvw hw,Qpf hr]
end
theorem Qps {ε α β γ:Type} {f:α→Except ε β} {g:α→List γ} {h:β→List γ} (e:∀ v w,f v=.ok w→h w=g v):∀ {l:List α} {r:List β},mpE f l=.ok r→r.flatMap h=l.flatMap g
 | [],r,hh=>by simp only [mpE] at hh; injection hh with hh; subst hh; rfl
 | v::l,r,hh=>by
  simp only [mpE] at hh
  split at hh
  ·cases hh
  ·rename_i w hw
   split at hh
   ·cases hh
   ·rename_i r' hr
    injection hh with hh
    subst hh
    rw [List.flatMap_cons,List.flatMap_cons,e v w hw,Qps e hr]
theorem QvC {v w:LiP} (h:liF T m v=.ok w):w.p::exsPl w.a=v.p::exsPl v.a:=by
 unfold liF at h
 split at h
 ·cases h
 ·split at h
  ·cases h
  ·rename_i a ha
   injection h with h
   subst h
   rw [← Qpe] at ha
   dsimp only
   rw [Qpf ha]
theorem Qt3 {l r:List LiP} (h:mpE (liF T m) l=.ok r):boPl r=boPl l:=Qps (fun v w h=>QvC h) h
theorem QvN {v w:RuP} (h:ruF T m v=.ok w):w.p::(exsPl w.a++boPl w.b)=v.p::(exsPl v.a++boPl v.b):=by
 unfold ruF at h
 split at h
 ·cases h
 ·split at h
  ·cases h
  ·split at h
   ·cases h
   ·rename_i a ha
    split at h
    ·cases h
    ·rename_i b hb
     injection h with h
     subst h
     rw [← Qpe] at ha
     dsimp only
     rw [Qpf ha,Qt3 hb]
theorem QvH {v w:NeP} (h:neF T m v=.ok w):w.p::boPl w.b=v.p::boPl v.b:=by
 unfold neF at h
 split at h
 ·cases h
 ·rename_i b hb
  injection h with h
  subst h
  dsimp only
  rw [Qt3 hb]
theorem Qt0 {o o':MoP} (h:usedF T o m=.ok o'):(moPl o').length=(moPl o).length+(moPl m).length:=by
 unfold usedF at h
 split at h
 ·cases h
 split at h
 ·cases h
 split at h
 ·cases h
 split at h
 ·cases h
 rename_i _ a ha _ b hb _ c hc _ d hd
 injection h with h
 subst h
 have e3:=Qps (h:=fun r:RuP=>r.p::(exsPl r.a++boPl r.b)) (g:=fun r:RuP=>r.p::(exsPl r.a++boPl r.b)) (fun v w h=>QvN h) hc
 have e4:=Qps (h:=fun n:NeP=>n.p::boPl n.b) (g:=fun n:NeP=>n.p::boPl n.b) (fun v w h=>QvH h) hd
 have l1:=Qck ha
 have l2:=Qck hb
 unfold moPl
 simp only [List.map_append,List.flatMap_append,List.length_append,List.length_map,e3,e4,l1,l2]
 omega
end
theorem QoR {T : Tl} : ∀ {l : List MoP} {o o' : MoP}, usedAll T o l = .ok o' → (moPl o').length = (moPl o).length + sL (fun m => (moPl m).length) l
 | [],o,o',h=>by simp only [usedAll] at h; injection h with h; subst h; simp [sL]
 | m::l,o,o',h=>by
  simp only [usedAll] at h
  split at h
  ·cases h
  ·rename_i o1 h1
   have e1:=Qt0 h1
   have e2:=QoR h
   simp only [sL]; omega
theorem FlatO.pl {l:List MoP} {T:Tl} {o:MoP} (h:FlatO l T o) (hz:∀ m ∈ l,moSz m.e≤268435456):(moPl o).length≤4294967296:=by
 have e:=QoR h.us
 have h8:=h.l8
 have:∀ l:List MoP,(∀ m ∈ l,moSz m.e≤268435456)→sL (fun m=>(moPl m).length) l≤l.length*268435456:=by
  intro l
  induction l with
  | nil=>intro _; simp [sL]
  | cons m l ih=>
   intro hh
   have h1:=QuS m
   have h2:=hh m (List.mem_cons_self ..)
   have h3:=ih fun x hx=>hh x (List.mem_cons_of_mem _ hx)
   simp only [sL,List.length_cons,Nat.add_mul]; omega
 have h3:=this l hz
 have h4:l.length*268435456≤8*268435456:=Nat.mul_le_mul_right _ h8
 have h5:(moPl ⟨(l.head?.map MoP.n).getD [],[],[],[],[],[]⟩).length=0:=rfl
 omega
end
section
open Go Go.Proofs
section
variable {α β:Type} {c:β→List Value} {z:Nat} {D D2:Heap} {s:Sl} {xs:List β}
theorem Qsr (hz:∀ x,(c x).length=z):∀ {xs:List β} {i j:Nat} {v:Value} {x':β} (hi:i < xs.length),j < z→(c xs[i]).set j v=c x'→(xs.flatMap c).set (i*z+j) v=(xs.set i x').flatMap c
 | [],i,j,v,x',hi,_,_=>by simp at hi
 | a::xs,0,j,v,x',_,hj,e=>by
  have e:(c a).set j v=c x':=e
  rw [List.set_cons_zero,List.flatMap_cons,List.flatMap_cons,Nat.zero_mul,Nat.zero_add,List.set_append_left _ _ (by rw [hz]; exact hj),e]
 | a::xs,i+1,j,v,x',hi,hj,e=>by
  have hi':i < xs.length:=by simpa using hi
  have e:(c xs[i]).set j v=c x':=e
  rw [List.set_cons_succ,List.flatMap_cons,List.flatMap_cons,List.set_append_right _ _ (by rw [hz,Nat.succ_mul]; omega),hz,show (i+1)*z+j - z=i*z+j by rw [Nat.succ_mul]; omega,Qsr hz hi' hj e]
theorem QnV (h:Own D z s (xs.flatMap c)) (hz:∀ x,(c x).length=z) (hz0:0 < z):s.len=xs.length:=by
 have:=h.1
 rw [Qci hz] at this
 have:=Nat.eq_of_mul_eq_mul_right hz0 this
 omega
theorem Qfc {cs:List Value} (h:Own D z s cs) (hb:∀ b,s.p=some (b,0)→D2 b=D b):Own D2 z s cs:=by
 obtain ⟨hl,hx,hc,h0 | ⟨b,sp,hp,hbk,h1⟩⟩:=h
 ·exact ⟨hl,hx,hc,.inl h0⟩
 ·exact ⟨hl,hx,hc,.inr ⟨b,sp,hp,by rw [hb b hp]; exact hbk,h1⟩⟩
theorem Qv5 {cs:List Value} (h:Own D z s cs) (hl:0 < s.len):∃ b g,s.p=some (b,0)∧s.x=none∧D b=some (true,g):=by
 obtain ⟨_,hx,hc,⟨_,h0⟩ | ⟨b,sp,hp,hbk,h1⟩⟩:=h
 ·omega
 ·exact ⟨b,_,hp,hx,hbk⟩
/-- a cell of an element of one's own list is written -/
theorem QvR {b i j:Nat} {v:Value} {x':β} {K:Heap→Prop} (h:Own D z s (xs.flatMap c)) (hp:s.p=some (b,0)) (hz:∀ x,(c x).length=z) (hi:i < xs.length) (hj:j < z) (e:(c xs[i]).set j v=c x') (k:∀ g,Own (D.put b g) z s ((xs.set i x').flatMap c)→K (D.put b g)):st (b,0+i*z+j) v K D:=by
 obtain ⟨hl,hx,hc,⟨hp',_⟩ | ⟨b',sp,hp',hbk,h1⟩⟩:=h
 ·rw [hp'] at hp; cases hp
 ·rw [hp] at hp'
  injection hp' with hp'
  injection hp' with hb _
  subst hb
  have hle:i*z+j < (xs.flatMap c).length:=by
   rw [Qci hz]
   have:(i+1)*z≤xs.length*z:=Nat.mul_le_mul_right _ hi
   rw [Nat.succ_mul] at this; omega
  refine ⟨_,hbk,by rw [List.length_append]; omega,?_⟩
  rw [Nat.zero_add,List.set_append_left _ _ hle,Qsr hz hi hj e]
  refine k _ ⟨?_,hx,hc,.inr ⟨b,sp,hp,Heap.put_same ..,?_⟩⟩
  ·rw [Qci hz,List.length_set,← Qci hz,hl]
  ·rw [List.length_append,Qci hz,List.length_set,← Qci hz,← List.length_append]; exact h1
end
section
variable {C:Ctx} {A H:Heap}
end
end
section
open Go Go.Proofs
theorem QuX {s:Sl} {D:Heap} {b:Nat} {e:Bool×GO} (h:(Heap.off s D) b=some e):∀ p,s.p=some p→p.1≠b:=fun p hp e'=>by
 unfold Heap.off at h
 rw [if_pos (by rw [hp,← e']; rfl)] at h
 cases h
theorem Qra {β:Type} {c:β→List Value} (h:∀ x,∀ u ∈ c x,u.oneCell' = true) (xs:List β):∀ u ∈ xs.flatMap c,u.oneCell' = true:=fun u hu=>by
 obtain ⟨x,_,hx⟩:=List.mem_flatMap.1 hu
 exact h x u hx
section
variable {C:Ctx} {H:Heap}
end
end
section
open Go Go.Proofs
def hiT (t:TdP):TdP:={ t with b:=false }
def hiR (r:RdP):RdP:={ r with b:=false }
def hiM (m:MoP):MoP:={ m with ty:=m.ty.map hiT,re:=m.re.map hiR }
def hiL (T:Tl):Tl:=T.map fun p=>(p.1,false)
def exMap {ε α β:Type} (f:α→β):Except ε α→Except ε β
 | .error e=>.error e
 | .ok a=>.ok (f a)
theorem QuN {k : Ky} : ∀ {T : Tl}, lkL k (hiL T) = (lkL k T).map fun _ => false
 | []=>rfl
 | p::T=>by
  have ih:=QuN (k:=k) (T:=T)
  unfold hiL at ih ⊢
  simp only [List.map_cons,lkL]
  by_cases h:p.1=k
  ·rw [if_pos h,if_pos h]; rfl
  ·rw [if_neg h,if_neg h]; exact ih
theorem QpD {T:Tl} {k:Ky} {b:Bool}:tellF (hiL T) k false=((tellF T k b).1,hiL (tellF T k b).2):=by
 unfold tellF
 rw [QuN]
 cases lkL k T with
 | none=>simp [hiL]
 | some x=>rfl
theorem Qvt {m:Str} {b:Bool}:∀ {l:List CnV} {a:Bool} {T:Tl},csNm m false (a,hiL T) l=((csNm m b (a,T) l).1,hiL (csNm m b (a,T) l).2)
 | [],a,T=>rfl
 | c::l,a,T=>by
  rw [csNm,csNm]
  dsimp only
  rw [QpD (b:=b)]
  dsimp only
  rw [Qvt (b:=b)]
theorem Qwa {m:Str} {t:TdP} {T:Tl}:tyNm m (hiT t) (hiL T)=((tyNm m t T).1,hiL (tyNm m t T).2):=by
 unfold tyNm
 show csNm m false ((tellF (hiL T) (m,t.n,0) false).1 && decide t.ps.Nodup,(tellF (hiL T) (m,t.n,0) false).2) t.cs=_
 rw [QpD (b:=t.b)]
 dsimp only
 rw [Qvt (b:=t.b)]
theorem Quf {m:Str}:∀ {l:List TdP} {T:Tl},namesTy m (l.map hiT) (hiL T)=exMap hiL (namesTy m l T)
 | [],T=>rfl
 | t::l,T=>by
  rw [List.map_cons,namesTy,namesTy,Qwa]
  dsimp only
  show (if (tyNm m t T).1=false then Except.error (m,t.p,6) else if t.cs.any (fun c=>openF t.ps c.f)=true then Except.error (m,t.p,63) else namesTy m (l.map hiT) (hiL (tyNm m t T).2))=_
  split
  ·rfl
  ·split
   ·rfl
   ·exact Quf
theorem Que {m:Str}:∀ {l:List RdP} {T:Tl},namesRe m (l.map hiR) (hiL T)=exMap hiL (namesRe m l T)
 | [],T=>rfl
 | t::l,T=>by
  rw [List.map_cons,namesRe,namesRe]
  show (if (tellF (hiL T) (m,t.n,2) false).1=false then Except.error (m,t.p,6) else if openF [] t.f=true then Except.error (m,t.p,63) else namesRe m (l.map hiR) (tellF (hiL T) (m,t.n,2) false).2)=_
  rw [QpD (b:=t.b)]
  dsimp only
  split
  ·rfl
  ·split
   ·rfl
   ·exact Que
theorem Qud {m:Str}:∀ {l:List NeP} {T:Tl},namesNe m l (hiL T)=exMap hiL (namesNe m l T)
 | [],T=>rfl
 | t::l,T=>by
  rw [namesNe,namesNe,QpD (b:=false)]
  dsimp only
  split
  ·rfl
  ·exact Qud
theorem Qv2 {m:MoP} {T:Tl}:namesF (hiM m) (hiL T)=exMap hiL (namesF m T):=by
 unfold namesF
 show (match namesTy m.n (m.ty.map hiT) (hiL T) with | .error e=>Except.error e | .ok T1=>match namesRe m.n (m.re.map hiR) T1 with | .error e=>Except.error e | .ok T2=>namesNe m.n m.ne T2)=_
 rw [Quf]
 cases namesTy m.n m.ty T with
 | error e=>rfl
 | ok T1=>
  dsimp only [exMap]
  rw [Que]
  cases namesRe m.n m.re T1 with
  | error e=>rfl
  | ok T2=>exact Qud
theorem QsH:∀ {l:List MoP} {T:Tl},namesAll (l.map hiM) (hiL T)=exMap hiL (namesAll l T)
 | [],T=>rfl
 | m::l,T=>by
  rw [List.map_cons,namesAll,namesAll,Qv2]
  cases namesF m T with
  | error e=>rfl
  | ok T1=>exact QsH
section
variable {T:Tl} {m:MoP}
theorem Qpq (hm:m.im=[]) {s:Str} {k:Int}:meanF (hiL T) (hiM m) s k=meanF T m s k:=by
 unfold meanF
 show (match lkL (((cutN m.n s).1,(cutN m.n s).2,k):Ky) (hiL T) with | none=>none | some b=>if (decide ((cutN m.n s).1=m.n) || (b && impd (hiM m) (cutN m.n s).1))=true then some (dotS (cutN m.n s).1 (cutN m.n s).2) else none)=_
 rw [QuN]
 have e1:∀ s,impd (hiM m) s=false:=fun s=>by unfold impd hiM; rw [hm]; rfl
 have e2:∀ s,impd m s=false:=fun s=>by unfold impd; rw [hm]; rfl
 cases lkL (((cutN m.n s).1,(cutN m.n s).2,k):Ky) T with
 | none=>rfl
 | some b=>simp only [Option.map_some,e1,e2,Bool.and_false]
theorem Qv9 (hm:m.im=[]) {n:Str}:tnF (hiL T) (hiM m) n=tnF T m n:=by unfold tnF; rw [Qpq hm]
mutual
theorem Quo (hm:m.im=[]):∀ v,tyF (hiL T) (hiM m) v=tyF T m v
 | .mk n a=>by rw [tyF,tyF,Qv9 hm,Qs9 hm a]
theorem Qs9 (hm:m.im=[]):∀ l,tysF (hiL T) (hiM m) l=tysF T m l
 | []=>rfl
 | v::l=>by rw [tysF,tysF,Quo hm v,Qs9 hm l]
end
theorem Qvx (hm:m.im=[]):fdF (hiL T) (hiM m)=fdF T m:=by funext f; unfold fdF; rw [Quo hm]
theorem Qv1 (hm:m.im=[]):cnF (hiL T) (hiM m)=cnF T m:=by funext f; unfold cnF; rw [Qvx hm]; rfl
theorem Qv8 (hm:m.im=[]) (t:TdP):tdF (hiL T) (hiM m) (hiT t)=exMap hiT (tdF T m t):=by
 unfold tdF
 rw [Qv1 hm]
 show (match mpO (cnF T m) t.cs with | none=>Except.error t.p | some cs=>Except.ok (⟨t.p,false,dotS m.n t.n,t.ps,cs⟩:TdP))=_
 cases mpO (cnF T m) t.cs <;> rfl
theorem Qv6 (hm:m.im=[]) (t:RdP):rdF (hiL T) (hiM m) (hiR t)=exMap hiR (rdF T m t):=by
 unfold rdF
 rw [Qvx hm]
 show (match mpO (fdF T m) t.f with | none=>Except.error t.p | some f=>Except.ok (⟨t.p,false,t.i,dotS m.n t.n,f⟩:RdP))=_
 cases mpO (fdF T m) t.f <;> rfl
theorem QsG {ε α β:Type} {f g:α→Except ε β} {h:α→α} {h2:β→β} (e:∀ v,f (h v)=exMap h2 (g v)):∀ l:List α,mpE f (l.map h)=exMap (List.map h2) (mpE g l)
 | []=>rfl
 | v::l=>by
  rw [List.map_cons,mpE,mpE,e v,QsG e l]
  cases g v with
  | error q=>rfl
  | ok w=>cases mpE g l <;> rfl
mutual
theorem Qt6 (hm:m.im=[]):∀ v,exF (hiL T) (hiM m) v=exF T m v
 | .mk p k n v a=>by
  rw [exF,exF,Qsn hm a]
  unfold enF
  rw [Qpq hm]
theorem Qsn (hm:m.im=[]):∀ l,exsF (hiL T) (hiM m) l=exsF T m l
 | []=>rfl
 | v::l=>by rw [exsF,exsF,Qt6 hm v,Qsn hm l]
end
theorem Qt8 (hm:m.im=[]):exF (hiL T) (hiM m)=exF T m:=funext (Qt6 hm)
theorem QvE (hm:m.im=[]):liF (hiL T) (hiM m)=liF T m:=by funext x; unfold liF lnF; rw [Qt8 hm,Qpq hm]
theorem Qv7 (hm:m.im=[]):ruF (hiL T) (hiM m)=ruF T m:=by funext x; unfold ruF; rw [Qt8 hm,Qpq hm,QvE hm]; rfl
theorem Qv3 (hm:m.im=[]):neF (hiL T) (hiM m)=neF T m:=by funext x; unfold neF; rw [QvE hm]; rfl
theorem Qvg (hm:m.im=[]) {o:MoP}:usedF (hiL T) (hiM o) (hiM m)=exMap hiM (usedF T o m):=by
 unfold usedF
 have e1:mpE (tdF (hiL T) (hiM m)) (hiM m).ty=exMap (List.map hiT) (mpE (tdF T m) m.ty):=QsG (Qv8 hm) m.ty
 have e2:mpE (rdF (hiL T) (hiM m)) (hiM m).re=exMap (List.map hiR) (mpE (rdF T m) m.re):=QsG (Qv6 hm) m.re
 have e3:mpE (ruF (hiL T) (hiM m)) (hiM m).ru=mpE (ruF T m) m.ru:=by rw [Qv7 hm]; rfl
 have e4:mpE (neF (hiL T) (hiM m)) (hiM m).ne=mpE (neF T m) m.ne:=by rw [Qv3 hm]; rfl
 rw [e1,e2,e3,e4]
 cases mpE (tdF T m) m.ty with
 | error q=>rfl
 | ok a=>
  cases mpE (rdF T m) m.re with
  | error q=>rfl
  | ok b=>
   cases mpE (ruF T m) m.ru with
   | error q=>rfl
   | ok c=>
    cases mpE (neF T m) m.ne with
    | error q=>rfl
    | ok d=>
     show Except.ok (⟨o.n,o.im,o.ty.map hiT++a.map hiT,o.re.map hiR++b.map hiR,o.ru++c,o.ne++d⟩:MoP)=Except.ok (⟨o.n,o.im,(o.ty++a).map hiT,(o.re++b).map hiR,o.ru++c,o.ne++d⟩:MoP)
     rw [List.map_append,List.map_append]
end
theorem Qtc {T:Tl}:∀ {l:List MoP} {o:MoP},(∀ m ∈ l,m.im=[])→usedAll (hiL T) (hiM o) (l.map hiM)=exMap hiM (usedAll T o l)
 | [],o,_=>rfl
 | m::l,o,h=>by
  rw [List.map_cons,usedAll,usedAll,Qvg (h m (List.mem_cons_self ..))]
  cases usedF T o m with
  | error q=>rfl
  | ok o1=>exact Qtc fun x hx=>h x (List.mem_cons_of_mem _ hx)
theorem QvF (m:MoP):moC (hiM m).e=moC m.e:=by
 have e1:moD (hiM m).e=moD m.e:=by
  unfold moD MoP.e hiM
  dsimp only
  rw [List.map_map, List.map_map, QiE (g := fun t : TdP => tdD t.e) (f := tdD) (h := TdP.e ∘ hiT) (fun v => rfl), QiE (g := fun t : TdP => tdD t.e) (f := tdD) (h := TdP.e) (fun v => rfl),
   QiE (g:=fun r:RdP=>fdsD r.f) (f:=fun r:RdV=>fdsD r.f) (h:=RdP.e ∘ hiR) (fun v=>rfl),QiE (g:=fun r:RdP=>fdsD r.f) (f:=fun r:RdV=>fdsD r.f) (h:=RdP.e) (fun v=>rfl)]
 have e2:moOk (hiM m).e=moOk m.e:=by
  unfold moOk MoP.e hiM
  simp only [List.all_map,Function.comp_def]
  rfl
 have e3:moFew (hiM m).e=moFew m.e:=by
  unfold moFew MoP.e hiM
  simp only [List.length_map]
 unfold moC
 rw [e1,e2,e3]
theorem Qqh:∀ {l:List MoP} {ns:List Str},singleF ns (l.map hiM)=singleF ns l
 | [],ns=>rfl
 | m::l,ns=>by
  rw [List.map_cons,singleF,singleF,QvF]
  show (if moC m.e≠0 then _ else if ns.contains m.n=true then _ else singleF (ns++[m.n]) (l.map hiM))=_
  rw [Qqh]
  rfl
theorem QqF {k:List MoP}:∀ {l:List MoP},(∀ m ∈ l,m.im=[])→impA k l=none
 | [],_=>rfl
 | m::l,h=>by
  rw [impA,h m (List.mem_cons_self ..)]
  exact QqF fun x hx=>h x (List.mem_cons_of_mem _ hx)
theorem QqG {k:List MoP}:∀ {l:List MoP} {i:Nat},(∀ m ∈ l,m.im=[])→impBf k i l=none
 | [],i,_=>rfl
 | m::l,i,h=>by
  rw [impBf,h m (List.mem_cons_self ..)]
  exact QqG fun x hx=>h x (List.mem_cons_of_mem _ hx)
theorem Ql2 {α β:Type} {f:MoP→List α} {g:MoP→List β} (h:∀ m,(f (hiM m)).length=(g m).length):∀ l:List MoP,total f (l.map hiM)=total g l
 | []=>rfl
 | m::l=>by simp only [List.map_cons,total,h,Ql2 h l]
/-- to the same program, but for what is Pub -/
theorem QuH {l:List MoP} (h:∀ m ∈ l,m.im=[]):flatF (l.map hiM)=exMap hiM (flatF l):=by
 have h':∀ m ∈ l.map hiM,m.im=[]:=fun m hm=>by
  obtain ⟨x,hx,rfl⟩:=List.mem_map.1 hm
  exact h x hx
 have e5:totB (l.map hiM)=totB l:=by
  unfold totB
  rw [Ql2 (f:=MoP.ty) (g:=MoP.ty) (fun m=>by simp [hiM]),Ql2 (f:=MoP.re) (g:=MoP.re) (fun m=>by simp [hiM]),Ql2 (f:=MoP.ru) (g:=MoP.ru) (fun m=>rfl),Ql2 (f:=MoP.ne) (g:=MoP.ne) (fun m=>rfl)]
 have e6:((l.map hiM).head?.map MoP.n).getD []=(l.head?.map MoP.n).getD []:=by cases l <;> rfl
 have e4:namesAll (l.map hiM) []=exMap hiL (namesAll l []):=QsH (T:=[])
 unfold flatF
 rw [List.length_map,Qqh,QqF h',QqF h,QqG h',QqG h,e4,e5,e6]
 split
 ·rfl
 split
 ·rfl
 cases singleF [] l with
 | some e=>rfl
 | none=>
  cases namesAll l [] with
  | error e=>rfl
  | ok T=>
   dsimp only [exMap]
   split
   ·rfl
   ·exact Qtc (o:=⟨(l.head?.map MoP.n).getD [],[],[],[],[],[]⟩) h
end
section
open Go Go.Proofs
section
variable {β:Type} {c:β→List Value} {g:β→β} {D0:Heap} {r:Sl} {xs:List β}
theorem QuY {D:Heap} {b:Nat} {gg:GO} {X:Heap} (hp:r.p=some (b,0)) (h:(Heap.off r X).le D):(Heap.off r X).le (D.put b gg):=fun q e he=>by
 have:q≠b:=fun e'=>by
  subst e'
  unfold Heap.off at he
  rw [if_pos (by rw [hp]; rfl)] at he
  cases he
 rw [Heap.put_ne _ _ _ this]; exact h q e he
/-- all of a list's elements: a cell of each written -/
theorem falLp {bx jj:Nat} {cs:List Value} {REST:Heap→Prop} (hz:∀ x,(c x).length=6) (hg:∀ x,(c x).set 2 (.bool false)=c (g x)) (hb:D0 bx=some (true,.row cs)) (hj:cs[jj]? = some (slv r)) (hO:Own D0 6 r (xs.flatMap c)) (hxl:xs.length≤1000000000) (hn:∀ p,r.p=some p→p.1≠bx)
 (k:∀ D,(Heap.off r D0).le D→Own D 6 r ((xs.map g).flatMap c)→REST D) :
 lp (α:=Int) 0 D0 (fun x44 J45 H46=>ldL H46 ((bx,0).1,(bx,0).2+jj) fun x47=>ift (decide ((x44:Int) < (Sl.len x47:Int))) (ldL H46 ((bx,0).1,(bx,0).2+jj) fun x50=>ixa x50 x44 fun p52=>st ((p52.1,p52.2+(x44:Int).toNat*6).1,(p52.1,p52.2+(x44:Int).toNat*6).2+2) (.bool false) (fun H57=>J45 (w .i64 (x44+1)) H57) H46) (REST H46)):=by
 have e0:=QnV hO hz (by omega)
 refine ⟨fun y D=>(Heap.off r D0).le D∧∃ (i:Nat) (ys:List β),y=(i:Int)∧i≤xs.length∧Own D 6 r (ys.flatMap c)∧ys=(xs.take i).map g++xs.drop i,fun y _=>xs.length - y.toNat,⟨Heap.off_le _ _,0,xs,rfl,Nat.zero_le _,hO,by simp⟩,?_⟩
 rintro _ D ⟨hD,i,ys,rfl,hi,hOy,hys⟩
 have hbx:=hD _ _ (Heap.off_some hb hn)
 have hyl:ys.length=xs.length:=by rw [hys,List.length_append,List.length_map,List.length_take,List.length_drop]; omega
 refine fL hbx hj ?_
 show ift (decide ((i:Int) < (r.len:Int))) _ _
 rw [e0]
 refine ift.of (fun h=>?_) (fun h=>?_)
 ·have hil : i < xs.length := by have := of_decide_eq_true h; omega
  have hiy:i < ys.length:=by omega
  refine fL hbx hj ?_
  obtain ⟨b,g',hp,hx0,hg'⟩:=Qv5 hOy (by omega)
  refine ⟨_,hp,hx0,by omega,by omega,?_⟩
  have hyi:ys[i]=xs[i]:=by
   have:ys[i]? = xs[i]?:=by
    rw [hys,List.getElem?_append_right (by rw [List.length_map,List.length_take]; omega),List.length_map,List.length_take,Nat.min_eq_left (by omega),Nat.sub_self,List.getElem?_drop,Nat.add_zero]
   rw [List.getElem?_eq_getElem hiy,List.getElem?_eq_getElem hil] at this
   injection this
  refine QvR (i:=i) (x':=g xs[i]) hOy hp hz hiy (by omega) (by rw [hyi]; exact hg _) fun gg hO'=>?_
  rw [Qam (by omega) (by omega)]
  refine ⟨⟨QuY hp hD,i+1,_,by omega,by omega,hO',?_⟩,by first | omega | (dsimp only; omega)⟩
  rw [hys]
  refine List.ext_getElem? fun j=>?_
  rw [List.getElem?_set]
  have hl1:((xs.take i).map g).length=i:=by rw [List.length_map,List.length_take]; omega
  have hl2:((xs.take (i+1)).map g).length=i+1:=by rw [List.length_map,List.length_take]; omega
  by_cases hji:i=j
  ·subst hji
   rw [if_pos rfl,if_pos (by rw [List.length_append,hl1,List.length_drop]; omega),List.getElem?_append_left (by omega),List.getElem?_map,List.getElem?_take,if_pos (by omega),List.getElem?_eq_getElem hil]
   rfl
  ·rw [if_neg hji]
   by_cases hjl:j < i
   ·rw [List.getElem?_append_left (by omega),List.getElem?_append_left (by omega),List.getElem?_map,List.getElem?_map,List.getElem?_take,List.getElem?_take,if_pos hjl,if_pos (by omega)]
   ·rw [List.getElem?_append_right (by omega), List.getElem?_append_right (by omega), hl1, hl2, List.getElem?_drop, List.getElem?_drop]
    congr 1; omega
 ·have hie : i = xs.length := by have := of_decide_eq_false h; omega
  subst hie
  rw [List.take_length,List.drop_length,List.append_nil] at hys
  subst hys
  exact k D hD hOy
end
def hidT (x:Qb):Qb:={ x with Pub:=false }
def hidR (x:Qd):Qd:={ x with Pub:=false }
theorem TpIs.hi {A:Heap} {v:TdP} {x:Qb} (h:TpIs A v x):TpIs A (hiT v) (hidT x):=⟨h.1,rfl,h.2.2⟩
theorem RpIs.hi {A:Heap} {v:RdP} {x:Qd} (h:RpIs A v x):RpIs A (hiR v) (hidR x):=⟨h.1,rfl,h.2.2⟩
/-- a list of one's own, its elements turned -/
theorem QpB {α β:Type} {R R2:α→β→Prop} {c:β→List Value} {f:α→α} {g:β→β} {D:Heap} {s:Sl} {xs:List β} {l:List α} (h:Own D 6 s ((xs.map g).flatMap c)) (hz:∀ x,(c x).length=6) (hl:l.length=xs.length) (hb:l.length≤140737488355328) (hR:∀ (i:Nat) (v:α) (x:β),l[i]? = some v→xs[i]? = some x→R2 (f v) (g x)):SlIs R2 c D s (l.map f):=by
 refine ⟨xs.map g,h.rdsl,QnV h hz (by omega),by simp [hl],by simpa using hb,fun i v x hv hx=>?_⟩
 rw [List.getElem?_map] at hv hx
 cases h1:l[i]? with
 | none=>rw [h1] at hv; cases hv
 | some a=>
  cases h2:xs[i]? with
  | none=>rw [h2] at hx; cases hx
  | some b=>
   rw [h1] at hv; rw [h2] at hx
   injection hv with hv; injection hx with hx
   subst hv; subst hx
   exact hR i a b h1 h2
end
section
open Go Go.Proofs
theorem QsD (m:MoP):moPl (hiM m)=moPl m:=by
 unfold moPl hiM
 simp only [List.map_map]
 rfl
theorem Qgk {D:Heap} {z:Nat} {s:Sl} {cs:List Value} (h:Own D z s cs) {p:Nat×Nat} (hp:s.p=some p):∃ e,D p.1=some e:=by
 obtain ⟨g,hg⟩:=h.mine hp
 exact ⟨_,hg⟩
/-- what came first: its lists may be turned -/
structure Fst (D:Heap) (q:Qa) (o:MoP):Prop where
 ex:∃ (ts:List Qb) (rs:List Qd),Own D 6 q.Types (ts.flatMap Qb.c)∧Own D 6 q.Rels (rs.flatMap Qd.c)∧ts.length≤1000∧rs.length≤1000∧
  ∀ F,(Heap.off q.Rels (Heap.off q.Types D)).le F→Own F 6 q.Types ((ts.map hidT).flatMap Qb.c)→Own F 6 q.Rels ((rs.map hidR).flatMap Qd.c)→MpIs F (hiM o) q
 ne:∀ p p',q.Types.p=some p→q.Rels.p=some p'→p.1≠p'.1
theorem Fst.up {D D2:Heap} {q:Qa} {o:MoP} (h:Fst D q o) (hle:D.le D2):Fst D2 q o:=by
 obtain ⟨ts,rs,h1,h2,h3,h4,h5⟩:=h.ex
 exact ⟨⟨ts,rs,h1.le hle,h2.le hle,h3,h4,fun F hF=>h5 F ((QgI (QgI hle)).trans hF)⟩,h.ne⟩
theorem Fst.zero {D:Heap}:Fst D Qa.zero ⟨[],[],[],[],[],[]⟩:=
 ⟨⟨[],[],Own.nil _ _,Own.nil _ _,by simp,by simp,fun F _ _ _=>⟨⟨rfl,by decide⟩,⟨SlIs.nil,Nat.le_refl _⟩,SlIs.nil,SlIs.nil,SlIs.nil,SlIs.nil⟩⟩,fun p p' h=>by cases h⟩
theorem Out.fst {A B W D:Heap} {bo:Nat} {q:Qa} {o:MoP} {T:Tl} {l:List MoP} (h:Out A B W D bo q o) (hf:FlatO l T o):Fst D q o:=by
 obtain ⟨f1,f2,f3,f4,f5⟩:=hf.len
 obtain ⟨ts,t1,t2,t3⟩:=h.gt
 obtain ⟨rs,r1,r2,r3⟩:=h.gr
 have hnd:=h.nd
 simp only [blks,List.nodup_append,List.mem_append] at hnd
 obtain ⟨_,⟨_,⟨_,_,n1⟩,n2⟩,n3⟩:=hnd
 have hZ:∀ F,(Heap.off q.Rels (Heap.off q.Types D)).le F→(offB (blks q) (Heap.nw A B D)).le F:=fun F hF b e hb=>by
  have q1:=Qm1 hb
  have q2:=Qp1 h.al _ _ (QnG _ _ _ _ hb)
  refine hF b e (Heap.off_some (Heap.off_some q2 fun p hp e'=>q1 ?_) fun p hp e'=>q1 ?_)
  ·exact List.mem_append_left _ (QcS.2 ⟨p,hp,e'⟩)
  ·exact List.mem_append_right _ (List.mem_append_left _ (QcS.2 ⟨p,hp,e'⟩))
 have keep:∀ F,(Heap.off q.Rels (Heap.off q.Types D)).le F→∀ b,(b ∈ bk q.Rules∨b ∈ bk q.Nevers)→∀ e,D b=some e→F b=some e:=fun F hF b hb e he=>by
  refine hF b e (Heap.off_some (Heap.off_some he fun p hp e'=>?_) fun p hp e'=>?_)
  ·exact n3 b (QcS.2 ⟨p,hp,e'⟩) b (.inr hb) rfl
  ·exact n2 b (QcS.2 ⟨p,hp,e'⟩) b hb rfl
 refine ⟨⟨ts,rs,t1,r1,by omega,by omega,fun F hF g1 g2=>?_⟩,fun p p' hp hp' e=>?_⟩
 ·have hz:=hZ F hF
  refine ⟨⟨h.nm.1,by show o.n.length≤_; omega⟩,⟨?_,by rw [h.nm.2.1]; exact Nat.le_refl _⟩,?_,?_,?_,?_⟩
  ·rw [h.nm.2.1]; show IpL F Sl.nil o.im; rw [h.nm.2.2]; exact SlIs.nil
  ·exact QpB (R:=TpIs (offB (blks q) (Heap.nw A B D))) g1 (fun _=>rfl) t2 (by omega) fun i v x hv hx=>(TpIs.le hz (t3 i v x hv hx).1).hi
  ·exact QpB (R:=RpIs (offB (blks q) (Heap.nw A B D))) g2 (fun _=>rfl) r2 (by omega) fun i v x hv hx=>(RpIs.le hz (r3 i v x hv hx).1).hi
  ·obtain ⟨us,u1,u2,u3⟩:=h.gu
   have u1':Own F 6 q.Rules (us.flatMap Qk.c):=Qfc u1 fun b hb=>by
    obtain ⟨e,he⟩:=Qgk u1 hb
    have he:D b=some e:=he
    rw [he]; exact keep F hF b (.inl (QcS.2 ⟨_,hb,rfl⟩)) e he
   exact ⟨us,u1'.rdsl,QnV u1' (fun _=>rfl) (by omega),u2,by show o.ru.length≤_; omega,fun i v x hv hx=>UpIs.le hz (u3 i v x hv hx).1⟩
  ·obtain ⟨us,u1,u2,u3⟩:=h.gn
   have u1':Own F 4 q.Nevers (us.flatMap Qn.c):=Qfc u1 fun b hb=>by
    obtain ⟨e,he⟩:=Qgk u1 hb
    have he:D b=some e:=he
    rw [he]; exact keep F hF b (.inr (QcS.2 ⟨_,hb,rfl⟩)) e he
   exact ⟨us,u1'.rdsl,QnV u1' (fun _=>rfl) (by omega),u2,by show o.ne.length≤_; omega,fun i v x hv hx=>NpIs.le hz (u3 i v x hv hx)⟩
 ·exact n3 p.1 (QcS.2 ⟨p,hp,rfl⟩) p.1 (.inl (QcS.2 ⟨p',hp',e.symm⟩)) rfl
end
section
open Go Go.Proofs
section
variable {C:Ctx} {H:Heap}
/-- the text of one module's copy: what is known of it -/
theorem hidCopy {A D D1:Heap} {b24:Nat} {m:MoP} {y:Qa} {s':Sl} {REST:Qa→Heap→Prop} (hm:MpIs A m y) (hAD:A.le D) (h24:D1=D.put b24 (.row (Qa.c y))) (n24:D b24=none) (hlt:m.ty.length≤1000) (hlr:m.re.length≤1000)
 (hAs:∀ b e,A b=some e→∀ p,s'.p=some p→p.1≠b) (hs':∀ p,s'.p=some p→∃ e,D p.1=some e)
 (k:∀ D9 x',D.le D9→MpIs (Heap.off s' D9) (hiM m) x'→D9 b24=some (true,.row (Qa.c x'))→REST x' D9) :
 nw ([]) (fun b30 H31=>
 ldL H31 ((b24,0).1,(b24,0).2+2) fun x32=>
 apS (Qb.c Qb.zero) 88 (Sl.of (some (b30,0)) 0 0) x32 (fun r34 H35=>
 st ((b24,0).1,(b24,0).2+2) (slv r34) (fun H36=>
 nw ([]) (fun b37 H38=>
 ldL H38 ((b24,0).1,(b24,0).2+3) fun x39=>
 apS (Qd.c Qd.zero) 64 (Sl.of (some (b37,0)) 0 0) x39 (fun r41 H42=>
 st ((b24,0).1,(b24,0).2+3) (slv r41) (fun H43=>
 lp (α:=Int) 0 H43 (fun x44 J45 H46=>
 ldL H46 ((b24,0).1,(b24,0).2+2) fun x47=>
 ift (decide ((x44:Int) < (Sl.len x47:Int)))
 (ldL H46 ((b24,0).1,(b24,0).2+2) fun x50=>
 ixa x50 x44 fun p52=>
 st ((p52.1,p52.2+(x44:Int).toNat*6).1,(p52.1,p52.2+(x44:Int).toNat*6).2+2) (.bool false) (fun H57=>
 J45 (w .i64 (x44+1)) H57) H46)
 (lp (α:=Int) 0 H46 (fun x58 J59 H60=>
 ldL H60 ((b24,0).1,(b24,0).2+3) fun x61=>
 ift (decide ((x58:Int) < (Sl.len x61:Int)))
 (ldL H60 ((b24,0).1,(b24,0).2+3) fun x64=>
 ixa x64 x58 fun p66=>
 st ((p66.1,p66.2+(x58:Int).toNat*6).1,(p66.1,p66.2+(x58:Int).toNat*6).2+2) (.bool false) (fun H71=>
 J59 (w .i64 (x58+1)) H71) H60)
 (ldT H60 Qa.c (b24,0) fun x72=>REST x72 H60))))) H42) H38) H36) H35) H31) D1:=by
  obtain ⟨m1,m2,m3,m4,m5,m6⟩:=hm
  obtain ⟨xs,t1,t2,t3,t4,t5⟩:=m3
  obtain ⟨zs,r1,r2,r3,r4,r5⟩:=m4
  have lD1:D.le D1:=by rw [h24]; exact Heap.le_put n24
  have g24:D1 b24=some (true,.row (Qa.c y)):=by rw [h24]; exact Heap.put_same ..
  intro b30 n30
  have o1:=Qml (z:=6) n30
  refine fL (o1.le _ _ g24) (j:=2) rfl ?_
  refine QmW (zc:=Qb.c Qb.zero) o1 (Qgl ((hAD.trans lD1).trans o1.le) t1) (by rw [Qci (c:=Qb.c) (z:=6) (fun _=>rfl),t2]; rfl) (Qra Qum xs) (by dsimp only [Sl.of]; omega) (by dsimp only [Sl.of]; omega) fun r34 D3 o2 l2=>?_
  rw [List.nil_append] at o2
  refine QqP (cs2:=Qa.c { y with Types:=r34 }) (o2.le _ _ g24) (show 2 < 6 by omega) rfl ?_
  have f34:∀ p,r34.p=some p→p.1≠b24:=fun p hp e=>by
   have:=o2.fresh p hp
   rw [e,g24] at this; cases this
  have o4:Own (D3.put b24 (.row (Qa.c { y with Types:=r34 }))) 6 r34 (xs.flatMap Qb.c):=Qfc o2.own fun b hb=>Heap.put_ne _ _ _ (f34 _ hb)
  have lD4:D.le (D3.put b24 (.row (Qa.c { y with Types:=r34 }))):=Qbc (lD1.trans o2.le) n24
  have k24:(D3.put b24 (.row (Qa.c { y with Types:=r34 }))) b24=some (true,.row (Qa.c { y with Types:=r34 })):=Heap.put_same ..
  have fD34:∀ p,r34.p=some p→D p.1=none:=fun p hp=>lD1.none (o2.fresh p hp)
  generalize D3.put b24 (.row (Qa.c { y with Types:=r34 }))=D4 at *
  clear o1 o2 n30 l2
  intro b37 n37
  have o1:=Qml (z:=6) n37
  refine fL (o1.le _ _ k24) (j:=3) rfl ?_
  refine QmW (zc:=Qd.c Qd.zero) o1 (Qgl ((hAD.trans lD4).trans o1.le) r1) (by rw [Qci (c:=Qd.c) (z:=6) (fun _=>rfl),r2]; rfl) (Qra Qui zs) (by dsimp only [Sl.of]; omega) (by dsimp only [Sl.of]; omega) fun r41 D6 o2 l2=>?_
  rw [List.nil_append] at o2
  refine QqP (cs2:=Qa.c { y with Types:=r34,Rels:=r41 }) (o2.le _ _ k24) (show 3 < 6 by omega) rfl ?_
  have f41:∀ p,r41.p=some p→p.1≠b24:=fun p hp e=>by
   have:=o2.fresh p hp
   rw [e,k24] at this; cases this
  have f3441:∀ p p',r41.p=some p→r34.p=some p'→p.1≠p'.1:=fun p p' hp hp' e=>by
   have:=o2.fresh p hp
   obtain ⟨e',he⟩:=Qgk o4 hp'
   rw [e,he] at this; cases this
  have o7:Own (D6.put b24 (.row (Qa.c { y with Types:=r34,Rels:=r41 }))) 6 r41 (zs.flatMap Qd.c):=Qfc o2.own fun b hb=>Heap.put_ne _ _ _ (f41 _ hb)
  have o7t:Own (D6.put b24 (.row (Qa.c { y with Types:=r34,Rels:=r41 }))) 6 r34 (xs.flatMap Qb.c):=Qfc (o4.le o2.le) fun b hb=>Heap.put_ne _ _ _ (f34 _ hb)
  have lD7:D.le (D6.put b24 (.row (Qa.c { y with Types:=r34,Rels:=r41 }))):=Qbc (lD4.trans o2.le) n24
  have j24:(D6.put b24 (.row (Qa.c { y with Types:=r34,Rels:=r41 }))) b24=some (true,.row (Qa.c { y with Types:=r34,Rels:=r41 })):=Heap.put_same ..
  have fD41:∀ p,r41.p=some p→D p.1=none:=fun p hp=>lD4.none (o2.fresh p hp)
  generalize D6.put b24 (.row (Qa.c { y with Types:=r34,Rels:=r41 }))=D7 at *
  clear o1 o2 n37 l2 o4
  refine falLp (g:=hidT) (fun _=>rfl) (fun _=>rfl) j24 rfl o7t (by omega) f34 fun D8 hD8 o8=>?_
  have j24':=hD8 _ _ (Heap.off_some j24 f34)
  have o8r:Own D8 6 r41 (zs.flatMap Qd.c):=Qfc o7 fun b hb=>by
   obtain ⟨e,he⟩:=Qgk o7 hb
   have he:D7 b=some e:=he
   rw [he]
   exact hD8 _ _ (Heap.off_some he fun p hp e'=>f3441 _ _ hb hp e'.symm)
  refine falLp (g:=hidR) (fun _=>rfl) (fun _=>rfl) j24' rfl o8r (by omega) f41 fun D9 hD9 o9=>?_
  have j24'':=hD9 _ _ (Heap.off_some j24' f41)
  have lD9:D.le D9:=fun b e hb=>hD9 _ _ (Heap.off_some (hD8 _ _ (Heap.off_some (lD7 _ _ hb) fun p hp e'=>by
   have:=fD34 p hp
   rw [e',hb] at this; cases this)) fun p hp e'=>by
   have:=fD41 p hp
   rw [e',hb] at this; cases this)
  have o9t:Own D9 6 r34 ((xs.map hidT).flatMap Qb.c):=Qfc o8 fun b hb=>by
   obtain ⟨e,he⟩:=Qgk o8 hb
   have he:D8 b=some e:=he
   rw [he]
   exact hD9 _ _ (Heap.off_some he fun p hp e'=>f3441 _ _ hp hb e')
  have hAZ:A.le (Heap.off s' D9):=fun b e hb=>Heap.off_some (lD9 _ _ (hAD _ _ hb)) fun p hp e'=>hAs b e hb p hp e'
  have zz:∀ {z:Nat} {r:Sl} {cs:List Value},Own D9 z r cs→(∀ p,r.p=some p→D p.1=none)→Own (Heap.off s' D9) z r cs:=fun {z r cs} ho hf=>Qfc ho fun b hb=>by
   obtain ⟨e,he⟩:=Qgk ho hb
   have he:D9 b=some e:=he
   rw [he]
   refine Heap.off_some he fun p hp e'=>?_
   obtain ⟨e2,h2⟩:=hs' p hp
   have:=hf _ hb
   rw [← e',h2] at this; cases this
  refine bxT (c:=Qa.c) j24'' (k D9 _ lD9 ?_ j24'')
  refine ⟨m1,⟨m2.1.le hAZ fun _ _ _ h=>h,m2.2⟩,?_,?_,m5.le hAZ fun _ _ _ h=>UpIs.le hAZ h,m6.le hAZ fun _ _ _ h=>NpIs.le hAZ h⟩
  ·exact QpB (R:=TpIs A) (zz o9t fD34) (fun _=>rfl) t3 (by omega) fun i v x hv hx=>(TpIs.le hAZ (t5 i v x hv hx)).hi
  ·exact QpB (R:=RpIs A) (zz o9 fD41) (fun _=>rfl) r3 (by omega) fun i v x hv hx=>(RpIs.le hAZ (r5 i v x hv hx)).hi
end
end
section
open Go Go.Proofs
section
variable {C:Ctx} {H:Heap}
/-- two results laid -/
theorem layQ {D2:Heap} {q:Qa} {u:Qe} {Φ:Nat→Nat→Heap→Prop} (hΦ:∀ b142 b144 G,D2.le G→D2 b142=none→D2 b144=none→b142≠b144→G b142=some (true,.row (Qa.c q))→G b144=some (true,.row (Qe.c u))→Φ b142 b144 G):nw (Qa.c Qa.zero) (fun b142 H143=>nw (Qe.c Qe.zero) (fun b144 H145=>stT (b142,0) (Qa.c q) (fun H146=>stT (b144,0) (Qe.c u) (fun H147=>Φ b142 b144 H147) H146) H145) H143) D2:=by
 refine box1N fun b142 H143 n142 _ l142 h142=>box1N fun b144 H145 n144 _ l144 h144=>?_
 have n2:b142≠b144:=fun e=>by rw [e] at h142; rw [h142] at n144; cases n144
 refine ⟨_,l144 _ _ h142,by show 0+6≤6; omega,_,by rw [Heap.put_ne _ _ _ (Ne.symm n2)]; exact h144,by show 0+3≤3; omega,?_⟩
 rw [QcH (by rfl),QcH (by rfl)]
 refine hΦ b142 b144 _ (Qbc (Qbc (l142.trans l144) n142) (l142.none n144)) n142 (l142.none n144) n2 ?_ (Heap.put_same ..)
 rw [Heap.put_ne _ _ _ n2]; exact Heap.put_same ..
/-- the first one's lists turned, and the two compared -/
theorem hidEnd {G:Heap} {b80 b82 b90 b92:Nat} {q q2:Qa} {u u2:Qe} {e e2:Int} {o:MoP} {K:Bool→Heap→Prop} (h80:G b80=some (true,.row (Qa.c q))) (h82:G b82=some (true,.row (Qe.c u))) (h90:G b90=some (true,.row (Qa.c q2))) (h92:G b92=some (true,.row (Qe.c u2)))
 (hF:Fst G q o) (hb:∀ p b,(q.Types.p=some p∨q.Rels.p=some p)→(b=b80∨b=b82∨b=b90∨b=b92)→p.1≠b) (he:e=e2) (hu:u=u2) (h2:MpIs (Heap.off q.Rels (Heap.off q.Types G)) (hiM o) q2) (hp:(moPl o).length≤4294967296) (k:∀ D,K true D) :
 lp (α:=Int) 0 G (fun x96 J97 H98=>
 ldL H98 ((b80,0).1,(b80,0).2+2) fun x99=>
 ift (decide ((x96:Int) < (Sl.len x99:Int)))
 (ldL H98 ((b80,0).1,(b80,0).2+2) fun x102=>
 ixa x102 x96 fun p104=>
 st ((p104.1,p104.2+(x96:Int).toNat*6).1,(p104.1,p104.2+(x96:Int).toNat*6).2+2) (.bool false) (fun H109=>
 J97 (w .i64 (x96+1)) H109) H98)
 (lp (α:=Int) 0 H98 (fun x110 J111 H112=>
 ldL H112 ((b80,0).1,(b80,0).2+3) fun x113=>
 ift (decide ((x110:Int) < (Sl.len x113:Int)))
 (ldL H112 ((b80,0).1,(b80,0).2+3) fun x116=>
 ixa x116 x110 fun p118=>
 st ((p118.1,p118.2+(x110:Int).toNat*6).1,(p118.1,p118.2+(x110:Int).toNat*6).2+2) (.bool false) (fun H123=>
 J111 (w .i64 (x110+1)) H123) H112)
 (jn (α:=Bool) (fun b124 H132=>
 jn (α:=Bool) (fun b133 H143=>
 K b133 H143)
 (fun J134=>ift b124
 (ldT H132 Qa.c (b80,0) fun x137=>
 ldT H132 Qa.c (b90,0) fun x139=>
 Qd3 C x137 x139 (fun r141 H142=>
 J134 r141 H142) H132)
 (J134 false H132)))
 (fun J125=>ift ((e:Int) == e2)
 (ldT H112 Qe.c (b82,0) fun x128=>
 ldT H112 Qe.c (b92,0) fun x130=>
 J125 (csEq (Qe.c x128) (Qe.c x130)) H112)
 (J125 false H112)))))):=by
  subst he; subst hu
  obtain ⟨ts,rs,t1,t2,t3,t4,t5⟩:=hF.ex
  refine falLp (g:=hidT) (fun _=>rfl) (fun _=>rfl) h80 rfl t1 (by omega) (fun p hp=>hb p _ (.inl hp) (.inl rfl)) fun D8 hD8 o8=>?_
  have kk:∀ {b:Nat} {x:Bool×GO},(b=b80∨b=b82∨b=b90∨b=b92)→G b=some x→D8 b=some x:=fun {b x} hbb hx=>hD8 _ _ (Heap.off_some hx fun p hp=>hb p b (.inl hp) hbb)
  have o8r:Own D8 6 q.Rels (rs.flatMap Qd.c):=Qfc t2 fun b hbb=>by
   obtain ⟨e,he⟩:=Qgk t2 hbb
   have he:G b=some e:=he
   rw [he]
   exact hD8 _ _ (Heap.off_some he fun p hp e'=>hF.ne _ _ hp hbb e')
  refine falLp (g:=hidR) (fun _=>rfl) (fun _=>rfl) (kk (.inl rfl) h80) rfl o8r (by omega) (fun p hp=>hb p _ (.inr hp) (.inl rfl)) fun D9 hD9 o9=>?_
  have kk9:∀ {b:Nat} {x:Bool×GO},(b=b80∨b=b82∨b=b90∨b=b92)→G b=some x→D9 b=some x:=fun {b x} hbb hx=>hD9 _ _ (Heap.off_some (kk hbb hx) fun p hp=>hb p b (.inr hp) hbb)
  have o9t:Own D9 6 q.Types ((ts.map hidT).flatMap Qb.c):=Qfc o8 fun b hbb=>by
   obtain ⟨e,he⟩:=Qgk o8 hbb
   have he:D8 b=some e:=he
   rw [he]
   exact hD9 _ _ (Heap.off_some he fun p hp e'=>hF.ne _ _ hbb hp e'.symm)
  have hoff:(Heap.off q.Rels (Heap.off q.Types G)).le D9:=fun b x hx=>hD9 _ _ (Heap.off_some (hD8 _ _ (Heap.off_le _ _ _ _ hx)) (QuX hx))
  have hm:=t5 D9 hoff o9t o9
  have hm2:=MpIs.le hoff h2
  refine jn.inl (Qmf (by simp) (bxT (c:=Qe.c) (kk9 (.inr (.inl rfl)) h82) (bxT (c:=Qe.c) (kk9 (.inr (.inr (.inr rfl))) h92) ?_)))
  refine jn.inl (Qmf (QiS.2 rfl) (bxT (c:=Qa.c) (kk9 (.inl rfl) h80) (bxT (c:=Qa.c) (kk9 (.inr (.inr (.inl rfl))) h90) ?_)))
  refine QtO hm hm2 (Heap.le.refl _) (by rw [QsD]; exact hp) (by rw [QsD]; exact hp) fun b F _ hb _=>?_
  rw [hb rfl rfl]; exact k F
theorem Qm3 (hT:MaxC C) (hFm:FmtC C) {l:List MoP} {s:Sl} {K:Bool→Heap→Prop} (hs:MpL H s l) (hz:∀ m ∈ l,moSz m.e≤16777216) (hl:l.length≤16777216) (k:∀ D,K true D):Qbj C s K H:=by
 apply Qju
 unfold Qfm
 refine Qtw hT hFm hs (Heap.le.refl _) hz hl fun b1 H2 hH2 hb1=>?_
 refine ⟨fun b F=>H.le F∧(b=false→sL szM l < 5000∧∀ m ∈ l,moD m.e≤64),?_,?_⟩
 ·refine ift.of (fun h => ⟨hH2, fun h => by cases h⟩) (fun h => ?_)
  exact QqY hT fun D hD=>⟨hH2.trans hD,fun _=>hb1 h⟩
 rintro b3 H9 ⟨hH9,hb3⟩
 refine ift.of (fun _=>QqY hT fun D _=>k D) (fun h3=>?_)
 obtain ⟨hsz,hdp⟩:=hb3 h3
 clear hb1 hb3 hH2
 have hlen:=SlIs.len hs
 have hls:=Qs6 l
 have hAH:=hH9
 refine ⟨fun y D=>H9.le D∧∃ (i:Nat) (s':Sl),y=(s',(i:Int))∧i≤l.length∧Fresh H9 s'∧Gq MpIs Qa.c 6 (Heap.off s' D) D s' ((l.take i).map hiM)∧∀ m ∈ l.take i,m.im=[],fun y _=>l.length - y.2.toNat,⟨Heap.le.refl _,0,Sl.nil,rfl,Nat.zero_le _,Fresh.nil _,Gq.nil,fun m hm=>by simp at hm⟩,?_⟩
 rintro _ D ⟨hD,i,s',rfl,hi,hfr,hG,him⟩
 have hAD:=hAH.trans hD
 rw [hlen]
 refine ift.of (fun h=>?_) (fun h=>?_)
 ·have hil : i < l.length := by have := of_decide_eq_true h; omega
  refine SlIs.ld hs hAD (z:=6) (fun _=>rfl) (by omega) rfl hil fun y hy=>?_
  have hszm:=Qva (List.getElem_mem hil)
  have htk:(l.take (i+1))=l.take i++[l[i]]:=by rw [List.take_add_one,List.getElem?_eq_getElem hil,Option.toList_some]
  unfold szM at hszm
  generalize l[i]=m at *
  intro b24 n24
  refine nwT rfl ?_
  have h24:(D.put b24 (.row (Qa.c y))) b24=some (true,.row (Qa.c y)):=Heap.put_same ..
  refine fL h24 (j:=1) rfl ?_
  have lim:=SlIs.len hy.2.1.1
  refine ift.of (fun _=>k _) (fun h0=>?_)
  have hmi:m.im=[]:=List.length_eq_zero_iff.1 (by
   have h0:¬ ((y.Imports.len:Int) > 0):=of_decide_eq_false h0
   omega)
  have hs'D:∀ p,s'.p=some p→∃ e,D p.1=some e:=fun p hp=>by
   obtain ⟨xs,g1,_⟩:=hG
   exact Qgk g1 hp
  refine hidCopy (s':=s') (REST:=fun x72 H60=>apd (Qa.c Qa.zero) 136 s' ((Qa.c x72)++[]) 1 (fun r74 H75=>_) H60) hy hAD rfl n24 (by have:sL szM l < 5000:=hsz; unfold szM at this; omega) (by have:sL szM l < 5000:=hsz; unfold szM at this; omega) (fun b e hb p hp e'=>by
   have:=hfr p hp
   rw [e',hAH _ _ hb] at this; cases this) hs'D fun D9 x' hD9 hx' _=>?_
  rw [List.append_nil]
  have hG9:Gq MpIs Qa.c 6 (Heap.off s' D9) D9 s' ((l.take i).map hiM):=hG.mono (fun b _ e he=>hD9 _ _ he) (QgI hD9) (fun h h'=>MpIs.le h h')
  have hll:((l.take i).map hiM).length=i:=by rw [List.length_map,List.length_take]; omega
  refine hG9.add (v:=hiM m) (fun _=>rfl) (by omega) rfl (by rw [hll]; omega) (by rw [hll]; omega) fun r D10 hadd hle hf=>?_
  have hZ:(Heap.off s' D9).le (Heap.off r D10):=fun b e hb=>Heap.off_some (hle _ _ hb) fun p hp e'=>by
   have:=hf p hp
   rw [e',hb] at this; cases this
  have hH9o:H9.le (Heap.off s' D9):=fun b e hb=>Heap.off_some (hD9 _ _ (hD _ _ hb)) fun p hp e'=>by
   have:=hfr p hp
   rw [e',hb] at this; cases this
  rw [Qam (by dsimp only; omega) (by dsimp only; omega)]
  refine ⟨⟨hH9o.trans hle,i+1,r,rfl,by omega,hf.le hH9o,?_,fun m' hm'=>?_⟩,by first | omega | (dsimp only; omega)⟩
  ·rw [htk,List.map_append]
   exact hadd _ (fun i v x h=>MpIs.le hZ h) (MpIs.le hZ hx')
  ·rw [htk] at hm'
   rcases List.mem_append.1 hm' with h' | h'
   ·exact him m' h'
   ·have : m' = m := by simpa using h'
    rw [this]; exact hmi
 ·have hie : i = l.length := by have := of_decide_eq_false h; dsimp only at this; omega
  subst hie
  rw [List.take_length] at hG him
  have hfl:=QuH him
  have hs2:MpL D s' (l.map hiM):=by
   have el:=hG.len (fun _=>rfl) (by omega)
   obtain ⟨xs,g1,g2,g3⟩:=hG
   exact ⟨xs,g1.rdsl,QnV g1 (fun _=>rfl) (by omega),g2,by simp only [List.length_map]; omega,fun i v x hv hx=>MpIs.le (Heap.off_le _ _) (g3 i v x hv hx)⟩
  have hmd:∀ m ∈ l,moD m.e≤4611686018427387904:=fun m hm=>by have:=hdp m hm; omega
  have hmd2:∀ m ∈ l.map hiM,moD m.e≤4611686018427387904:=fun m hm=>by
   obtain ⟨x,hx,rfl⟩:=List.mem_map.1 hm
   have e:moD (hiM x).e=moD x.e:=by
    unfold moD MoP.e hiM
    dsimp only
    rw [List.map_map, List.map_map, QiE (g := fun t : TdP => tdD t.e) (f := tdD) (h := TdP.e ∘ hiT) (fun v => rfl), QiE (g := fun t : TdP => tdD t.e) (f := tdD) (h := TdP.e) (fun v => rfl),
     QiE (g:=fun r:RdP=>fdsD r.f) (f:=fun r:RdV=>fdsD r.f) (h:=RdP.e ∘ hiR) (fun v=>rfl),QiE (g:=fun r:RdP=>fdsD r.f) (f:=fun r:RdV=>fdsD r.f) (h:=RdP.e) (fun v=>rfl)]
   rw [e]
   exact hmd x hx
  have hzz:∀ m ∈ l,moSz m.e≤268435456:=fun m hm=>Nat.le_trans (hz m hm) (by omega)
  -- behind the first one
  have SEC:∀ (D2:Heap) (q:Qa) (u:Qe) (e:Int) (o:MoP),D.le D2→Fst D2 q o→(∀ p,(q.Types.p=some p∨q.Rels.p=some p)→D p.1=none)→(moPl o).length≤4294967296→(∀ o',flatF l=.ok o'→u=⟨[],psP (0,0)⟩∧e=0∧o' = o)→(∀ er,flatF l=.error er→u=⟨er.1,psP er.2.1⟩∧e=er.2.2∧o=⟨[],[],[],[],[],[]⟩)→(
 nw (Qa.c Qa.zero) (fun b80 H81=>
 nw (Qe.c Qe.zero) (fun b82 H83=>
 stT (b80,0) (Qa.c q) (fun H84=>
 stT (b82,0) (Qe.c u) (fun H85=>
 Qbz C s' (fun r86 r87 r88 H89=>
 nw (Qa.c Qa.zero) (fun b90 H91=>
 nw (Qe.c Qe.zero) (fun b92 H93=>
 stT (b90,0) (Qa.c r86) (fun H94=>
 stT (b92,0) (Qe.c r87) (fun H95=>
 lp (α:=Int) 0 H95 (fun x96 J97 H98=>
 ldL H98 ((b80,0).1,(b80,0).2+2) fun x99=>
 ift (decide ((x96:Int) < (Sl.len x99:Int)))
 (ldL H98 ((b80,0).1,(b80,0).2+2) fun x102=>
 ixa x102 x96 fun p104=>
 st ((p104.1,p104.2+(x96:Int).toNat*6).1,(p104.1,p104.2+(x96:Int).toNat*6).2+2) (.bool false) (fun H109=>
 J97 (w .i64 (x96+1)) H109) H98)
 (lp (α:=Int) 0 H98 (fun x110 J111 H112=>
 ldL H112 ((b80,0).1,(b80,0).2+3) fun x113=>
 ift (decide ((x110:Int) < (Sl.len x113:Int)))
 (ldL H112 ((b80,0).1,(b80,0).2+3) fun x116=>
 ixa x116 x110 fun p118=>
 st ((p118.1,p118.2+(x110:Int).toNat*6).1,(p118.1,p118.2+(x110:Int).toNat*6).2+2) (.bool false) (fun H123=>
 J111 (w .i64 (x110+1)) H123) H112)
 (jn (α:=Bool) (fun b124 H132=>
 jn (α:=Bool) (fun b133 H143=>
 K b133 H143)
 (fun J134=>ift b124
 (ldT H132 Qa.c (b80,0) fun x137=>
 ldT H132 Qa.c (b90,0) fun x139=>
 Qd3 C x137 x139 (fun r141 H142=>
 J134 r141 H142) H132)
 (J134 false H132)))
 (fun J125=>ift ((e:Int) == r88)
 (ldT H112 Qe.c (b82,0) fun x128=>
 ldT H112 Qe.c (b92,0) fun x130=>
 J125 (csEq (Qe.c x128) (Qe.c x130)) H112)
 (J125 false H112))))))) H94) H93) H91) H89) H85) H84) H83) H81) D2) := fun D2 q u e o hD2 hFst hqD hop hok herr => by
   refine layQ fun b80 b82 G hG n80 n82 n2 g80 g82=>?_
   have hqh:∀ p,(q.Types.p=some p∨q.Rels.p=some p)→∃ e,D2 p.1=some e:=fun p hp=>by
    obtain ⟨ts,rs,t1,t2,_⟩:=hFst.ex
    rcases hp with hp | hp
    ·exact Qgk t1 hp
    ·exact Qgk t2 hp
   have last:∀ (F:Heap) (q2:Qa) (u2:Qe) (e2:Int),G.le F→e=e2→u=u2→(∀ F2,F.le F2→MpIs (Heap.off q.Rels (Heap.off q.Types F2)) (hiM o) q2)→(
 nw (Qa.c Qa.zero) (fun b90 H91=>
 nw (Qe.c Qe.zero) (fun b92 H93=>
 stT (b90,0) (Qa.c q2) (fun H94=>
 stT (b92,0) (Qe.c u2) (fun H95=>
 lp (α:=Int) 0 H95 (fun x96 J97 H98=>
 ldL H98 ((b80,0).1,(b80,0).2+2) fun x99=>
 ift (decide ((x96:Int) < (Sl.len x99:Int)))
 (ldL H98 ((b80,0).1,(b80,0).2+2) fun x102=>
 ixa x102 x96 fun p104=>
 st ((p104.1,p104.2+(x96:Int).toNat*6).1,(p104.1,p104.2+(x96:Int).toNat*6).2+2) (.bool false) (fun H109=>
 J97 (w .i64 (x96+1)) H109) H98)
 (lp (α:=Int) 0 H98 (fun x110 J111 H112=>
 ldL H112 ((b80,0).1,(b80,0).2+3) fun x113=>
 ift (decide ((x110:Int) < (Sl.len x113:Int)))
 (ldL H112 ((b80,0).1,(b80,0).2+3) fun x116=>
 ixa x116 x110 fun p118=>
 st ((p118.1,p118.2+(x110:Int).toNat*6).1,(p118.1,p118.2+(x110:Int).toNat*6).2+2) (.bool false) (fun H123=>
 J111 (w .i64 (x110+1)) H123) H112)
 (jn (α:=Bool) (fun b124 H132=>
 jn (α:=Bool) (fun b133 H143=>
 K b133 H143)
 (fun J134=>ift b124
 (ldT H132 Qa.c (b80,0) fun x137=>
 ldT H132 Qa.c (b90,0) fun x139=>
 Qd3 C x137 x139 (fun r141 H142=>
 J134 r141 H142) H132)
 (J134 false H132)))
 (fun J125=>ift ((e:Int) == e2)
 (ldT H112 Qe.c (b82,0) fun x128=>
 ldT H112 Qe.c (b92,0) fun x130=>
 J125 (csEq (Qe.c x128) (Qe.c x130)) H112)
 (J125 false H112))))))) H94) H93) H91) F) := fun F q2 u2 e2 hGF he hu hq2 => by
    refine layQ fun b90 b92 G2 hG2 n90 n92 n3 g90 g92=>?_
    have hDG2:=hG.trans (hGF.trans hG2)
    refine hidEnd (hG2 _ _ (hGF _ _ g80)) (hG2 _ _ (hGF _ _ g82)) g90 g92 (hFst.up hDG2) (fun p b hp hbb e'=>?_) he hu (hq2 _ hG2) hop k
    obtain ⟨e3,h3⟩:=hqh p hp
    rcases hbb with rfl | rfl | rfl | rfl
    ·rw [e',n80] at h3; cases h3
    ·rw [e',n82] at h3; cases h3
    ·have:=hGF _ _ (hG _ _ h3)
     rw [e',n90] at this; cases this
    ·have:=hGF _ _ (hG _ _ h3)
     rw [e',n92] at this; cases this
   refine Ql4 hT hs2 (hD2.trans hG) hmd2 (fun F B W bo q2 o2 ho hB hW hO2=>?_) (fun F er her hF=>?_)
   ·obtain ⟨T,hT'⟩:=QqD ho
    rw [hfl] at ho
    cases hfo:flatF l with
    | error er=>rw [hfo] at ho; cases ho
    | ok o'=>
     rw [hfo] at ho
     injection ho with ho
     obtain ⟨e1,e2,e3⟩:=hok o' hfo
     subst e3
     subst ho
     have hGF:=hW.trans hO2.wle
     refine last F q2 _ _ hGF e2 e1 fun F2 hF2=>MpIs.le (fun b x hx=>?_) (hO2.is hT')
     have hx2:=hF2 _ _ (Qp1 hO2.al _ _ hx)
     have nq:∀ p,(q.Types.p=some p∨q.Rels.p=some p)→p.1≠b:=fun p hp e'=>by
      obtain ⟨e3,h3⟩:=hqh p hp
      have hB3:=hB _ _ (hG _ _ h3)
      unfold Heap.nw at hx
      rw [← e',hB3,hqD p hp] at hx
      cases hx
     exact Heap.off_some (Heap.off_some hx2 fun p hp=>nq p (.inl hp)) fun p hp=>nq p (.inr hp)
   ·rw [hfl] at her
    cases hfo:flatF l with
    | ok o'=>rw [hfo] at her; cases her
    | error er'=>
     rw [hfo] at her
     injection her with her
     subst her
     obtain ⟨e1,e2,e3⟩:=herr er' hfo
     subst e3
     exact last F _ _ _ hF e2 e1 fun F2 hF2=>⟨⟨rfl,by decide⟩,⟨SlIs.nil,Nat.le_refl _⟩,SlIs.nil,SlIs.nil,SlIs.nil,SlIs.nil⟩
  refine Ql4 hT (SlIs.le hAD hs fun v _ x h=>MpIs.le hAD h) (Heap.le.refl _) hmd (fun F B W bo q o ho hB hW hO2=>?_) (fun F er her hF=>?_)
  ·obtain ⟨T,hT'⟩:=QqD ho
   refine SEC F q _ _ o (hW.trans hO2.wle) (hO2.fst hT') (fun p hp=>hB.none (hO2.fr _ ?_).1) (hT'.pl hzz) (fun o' ho'=>?_) (fun er her=>by rw [ho] at her; cases her)
   ·rcases hp with hp | hp
    ·exact List.mem_append_left _ (QcS.2 ⟨_,hp,rfl⟩)
    ·exact List.mem_append_right _ (List.mem_append_left _ (QcS.2 ⟨_,hp,rfl⟩))
   ·rw [ho] at ho'; injection ho' with ho'; exact ⟨rfl,rfl,ho'.symm⟩
  ·refine SEC F _ _ _ ⟨[], [], [], [], [], []⟩ hF Fst.zero (fun p hp => by rcases hp with hp | hp <;> cases hp) (by decide) (fun o' ho' => by rw [her] at ho'; cases ho') (fun er' her' => ?_)
   rw [her] at her'; injection her' with her'; subst her'; exact ⟨rfl,rfl,rfl⟩
end
end
section
set_option maxRecDepth 100000
open Go Go.Proofs
theorem QkP {α β : Type} (f : β → Nat) (g : α → β) : ∀ l : List α, sL f (l.map g) = sL (fun v => f (g v)) l
 | []=>rfl
 | v::l=>by simp only [List.map_cons,sL,QkP f g l]
section
variable {P:Program} {W:World}
theorem Tr.pos {B n:Nat} {t:TypeId} {cs:List Value} (h:Tr P W B n t cs):1≤B:=by
 obtain ⟨H,enc,x,h,hB⟩:=h
 have:=QlZ x.1
 omega
theorem Qmp {H : Type} : ∀ (ys : List (DataW H × List MemPlace)), (ys.map fun y => sizeD y.1).sum = sizeDs (ys.map (·.1))
 | []=>rfl
 | y::ys=>by simp only [List.map_cons,List.sum_cons,sizeDs,Qmp ys]
theorem Tr.sliceS {B n:Nat} {t e:TypeId} {cs:List Value} {z:Nat} (h:Tr P W B n t cs) (ht:P.underlying t=some (.slice e)) (hz:P.cellsOf e=z) (hz0:0 < z) :
 ∃ (s:Sl) (css:List (List Value)) (bs:List Nat) (m:Nat),m < n∧cs=[slv s]∧s.len≤s.cap∧css.length=s.len∧bs.length=s.len∧rdsl (heapOf W) s css.flatten∧bs.sum+1≤B∧s.len≤B∧∀ (i:Nat) (c:List Value) (b:Nat),css[i]? = some c→bs[i]? = some b→Tr P W b m e c:=by
 obtain ⟨H,enc,x,h,hB⟩:=h
 obtain ⟨s,css,ys,m,hm,p0,p1,p2,p3,p4,p5,p6⟩:=QoP ht (by omega) h
 have hl:=Qmn (ys.map (·.1))
 rw [List.length_map] at hl
 refine ⟨s,css,ys.map fun y=>sizeD y.1,m,hm,p0,p1,p2,by rw [List.length_map]; exact p3,p4,by rw [Qmp]; omega,by omega,fun i c b hc hb=>?_⟩
 rw [List.getElem?_map] at hb
 cases hy:ys[i]? with
 | none=>rw [hy] at hb; cases hb
 | some y=>
  rw [hy] at hb
  injection hb with hb
  exact ⟨H,enc,y,(p6 i c y hc hy).2,by rw [← hb]; exact Nat.le_refl _⟩
theorem Tr.structS {B n:Nat} {t:TypeId} {fs:Array Field} {cs:List Value} (h:Tr P W B n t cs) (ht:P.underlying t=some (.struct fs)) :
 cs.length=P.cellsOf t∧∃ (m:Nat) (bs:List Nat),n=m+1∧bs.length=fs.size∧bs.sum+1≤B∧∀ (i:Nat) (f:Field) (b:Nat),fs[i]? = some f→bs[i]? = some b→Tr P W b m f.type ((cs.drop f.offset).take (P.cellsOf f.type)):=by
 obtain ⟨H,enc,x,h,hB⟩:=h
 obtain ⟨xs,m,rfl,hx,hl,hxl,hf⟩:=DataW.trod_struct ht h
 refine ⟨hl,m,xs.map fun y=>sizeD y.1,rfl,by rw [List.length_map]; exact hxl,by rw [Qmp]; rw [hx] at hB; simp only [sizeD] at hB; omega,fun i f b hi hb=>?_⟩
 have h1:=hf i f hi
 have h2:i < fs.size:=(Array.getElem?_eq_some_iff.1 hi).1
 rw [List.getElem?_map,List.getElem?_eq_getElem (by omega)] at hb
 injection hb with hb
 rw [List.getElem?_eq_getElem (by omega)] at h1
 exact ⟨H,enc,_,h1,by rw [← hb]; exact Nat.le_refl _⟩
theorem Qfv {α β:Type} {R:α→β→Prop} {c:β→List Value} {f:α→Nat} {t e:TypeId} {z n B:Nat} {cs:List Value} (h:Tr P W B n t cs) (ht:P.underlying t=some (.slice e)) (hz:P.cellsOf e=z) (hz0:0 < z) (hB:B≤1000000000)
 (ih:∀ m,m < n→∀ cs b,b≤1000000000→Tr P W b m e cs→∃ (v:α) (x:β),cs=c x∧R v x∧f v≤b):∃ (s:Sl) (l:List α),cs=[slv s]∧SlIs R c (heapOf W) s l∧s.len≤s.cap∧sL f l+1≤B∧l.length≤B:=by
 obtain ⟨s,css,bs,m,hm,h1,h2,h3,h4,h5,h6,h7,h8⟩:=h.sliceS ht hz hz0
 have key:∀ (css:List (List Value)) (bs:List Nat),css.length=bs.length→bs.sum≤1000000000→(∀ (i:Nat) (c':List Value) (b:Nat),css[i]? = some c'→bs[i]? = some b→Tr P W b m e c')→∃ (l:List α) (xs:List β),css.flatten=xs.flatMap c∧css.length=xs.length∧l.length=xs.length∧sL f l≤bs.sum∧∀ (i:Nat) (v:α) (x:β),l[i]? = some v→xs[i]? = some x→R v x:=by
  intro css
  induction css with
  | nil=>intro bs _ _ _; exact ⟨[],[],rfl,rfl,rfl,Nat.zero_le _,fun i v x hv=>by simp at hv⟩
  | cons c' css ihc=>
   intro bs hl hb hh
   cases bs with
   | nil=>simp at hl
   | cons b bs=>
    rw [List.sum_cons] at hb
    obtain ⟨v,x,g1,g2,g3⟩:=ih m hm c' b (by omega) (hh 0 c' b rfl rfl)
    obtain ⟨l,xs,k1,k2,k3,k5,k4⟩:=ihc bs (by simpa using hl) (by omega) fun i c' b hc hb=>hh (i+1) c' b (by simpa using hc) (by simpa using hb)
    refine ⟨v::l,x::xs,by rw [List.flatten_cons,List.flatMap_cons,k1,g1],by simp [k2],by simp [k3],by simp only [sL,List.sum_cons]; omega,fun i v' x' hv hx=>?_⟩
    cases i with
    | zero=>simp at hv hx; subst hv; subst hx; exact g2
    | succ i=>exact k4 i v' x' (by simpa using hv) (by simpa using hx)
 obtain ⟨l,xs,k1,k2,k3,k5,k4⟩:=key css bs (by omega) (by omega) h8
 exact ⟨s,l,h1,⟨xs,by rw [← k1]; exact h5,by omega,k3,by omega,k4⟩,h2,by omega,by omega⟩
theorem Qvj {t tl:TypeId} (hT:ValT P t tl) {n B:Nat} {cs:List Value} (h:Tr P W B n t cs) (hB:B≤1000000000):∃ (v:V) (y:Qh),cs=Qh.c y∧VIs (heapOf W) v y∧VB v:=by
 obtain ⟨H,enc,x,h,hx⟩:=h
 obtain ⟨v,y,h1,h2,h3,_⟩:=QvY hT n h (by omega)
 exact ⟨v,y,h1,h2,h3⟩
end
section
variable {W:World}
theorem valT6:ValT Tryz.prog 38 36:=⟨⟨_,Tryz.underlying38,rfl,⟨_,_,rfl,rfl,rfl,Tryz.underlying5,by kernel_rfl⟩,⟨_,_,rfl,rfl,rfl,Tryz.underlying2,by kernel_rfl⟩,⟨_,_,rfl,rfl,rfl,Tryz.underlying9,by kernel_rfl⟩,⟨_,rfl,rfl,rfl,by kernel_rfl⟩⟩,by kernel_rfl,Tryz.underlying36⟩
theorem QnW {n B:Nat} {cs:List Value} (h:Tr Tryz.prog W B n 26 cs):∃ p:Pl,cs=[.int .i64 (psP p).Line,.int .i64 (psP p).Col]:=by
 obtain ⟨hl,m,rfl,hf⟩:=h.struct Tryz.underlying26
 rw [show Tryz.prog.cellsOf 26=2 by kernel_rfl] at hl
 match cs,hl with
 | [q0,q1],_=>
 have g0:Tr Tryz.prog W B m 3 (([q0,q1].drop 0).take (Tryz.prog.cellsOf 3)):=hf 0 _ rfl
 have g1:Tr Tryz.prog W B m 3 (([q0,q1].drop 1).take (Tryz.prog.cellsOf 3)):=hf 1 _ rfl
 rw [show Tryz.prog.cellsOf 3=1 by kernel_rfl] at g0 g1
 obtain ⟨x0,e0,_⟩:=g0.int Tryz.underlying3
 obtain ⟨x1,e1,_⟩:=g1.int Tryz.underlying3
 refine ⟨(x0,x1),?_⟩
 injection e0 with e0; injection e1 with e1
 rw [e0,e1]; rfl
theorem Quu:∀ (n:Nat) {cs:List Value} {B:Nat},B≤1000000000→Tr Tryz.prog W B n 24 cs→∃ (v:TyV) (x:Qg),cs=Qg.c x∧TyIs (heapOf W) v x∧tySz v≤B:=by
 intro n
 induction n using Nat.strongRecOn with
 | _ n ih=>
 intro cs B hB h
 have hpos:=h.pos
 obtain ⟨hl,m,bs,rfl,hbl,hbs,hf⟩:=h.structS Tryz.underlying24
 rw [show Tryz.prog.cellsOf 24=2 by kernel_rfl] at hl
 match cs,hl,bs,hbl,hbs,hf with
 | [q0,q1],_,[y0,y1],_,hbs,hf=>
 simp only [List.sum_cons,List.sum_nil] at hbs
 have g0:Tr Tryz.prog W y0 m 9 (([q0,q1].drop 0).take (Tryz.prog.cellsOf 9)):=hf 0 _ y0 rfl rfl
 rw [show Tryz.prog.cellsOf 9=1 by kernel_rfl] at g0
 replace g0:Tr Tryz.prog W y0 m 9 [q0]:=g0
 obtain ⟨x0,e0,_,w0⟩:=g0.str Tryz.underlying9
 have w0:x0.length≤140737488355328:=by omega
 have g1:Tr Tryz.prog W y1 m 22 (([q0,q1].drop 1).take (Tryz.prog.cellsOf 22)):=hf 1 _ y1 rfl rfl
 rw [show Tryz.prog.cellsOf 22=1 by kernel_rfl] at g1
 replace g1:Tr Tryz.prog W y1 m 22 [q1]:=g1
 obtain ⟨x1,l1,e1,r1,c1,s1,_⟩:=Qfv (R:=(TyIs (heapOf W))) (c:=Qg.c) (f:=tySz) g1 Tryz.underlying22 (show Tryz.prog.cellsOf 24=2 by kernel_rfl) (by omega) (by omega) (fun m hm cs b hb hc=>ih m (by omega) hb hc)
 exact ⟨.mk x0 l1,⟨x0,x1⟩,(show [q0,q1]=[q0]++([q1]) from rfl).trans (by rw [e0,e1]; rfl),Qer.2 ⟨⟨rfl,w0⟩,r1⟩,by rw [QpG]; show sL tySz l1+1≤B; omega⟩
theorem Qm2:∀ (n:Nat) {cs:List Value} {B:Nat},B≤1000000000→Tr Tryz.prog W B n 31 cs→∃ (v:FdV) (x:Qi),cs=Qi.c x∧FdIs (heapOf W) v x∧(fun f:FdV=>tySz f.t) v≤B:=by
 intro n
 intro cs B hB h
 have hpos:=h.pos
 obtain ⟨hl,m,bs,rfl,hbl,hbs,hf⟩:=h.structS Tryz.underlying31
 rw [show Tryz.prog.cellsOf 31=3 by kernel_rfl] at hl
 match cs,hl,bs,hbl,hbs,hf with
 | [q0,q1,q2],_,[y0,y1],_,hbs,hf=>
 simp only [List.sum_cons,List.sum_nil] at hbs
 have g0:Tr Tryz.prog W y0 m 9 (([q0,q1,q2].drop 0).take (Tryz.prog.cellsOf 9)):=hf 0 _ y0 rfl rfl
 rw [show Tryz.prog.cellsOf 9=1 by kernel_rfl] at g0
 replace g0:Tr Tryz.prog W y0 m 9 [q0]:=g0
 obtain ⟨x0,e0,_,w0⟩:=g0.str Tryz.underlying9
 have w0:x0.length≤140737488355328:=by omega
 have g1:Tr Tryz.prog W y1 m 24 (([q0,q1,q2].drop 1).take (Tryz.prog.cellsOf 24)):=hf 1 _ y1 rfl rfl
 rw [show Tryz.prog.cellsOf 24=2 by kernel_rfl] at g1
 replace g1:Tr Tryz.prog W y1 m 24 [q1,q2]:=g1
 obtain ⟨v1,x1,e1,r1,s1⟩:=Quu _ (by omega) g1
 exact ⟨⟨x0,v1⟩,⟨x0,x1⟩,(show [q0,q1,q2]=[q0]++([q1,q2]) from rfl).trans (by rw [e0,e1]; rfl),⟨⟨rfl,w0⟩,r1⟩,by show tySz v1≤B; omega⟩
theorem QrX:∀ (n:Nat) {cs:List Value} {B:Nat},B≤1000000000→Tr Tryz.prog W B n 40 cs→∃ (v:ExP) (x:Qc),cs=Qc.c x∧EpIs (heapOf W) v x∧(fun v:ExP=>exSz v.e) v≤B:=by
 intro n
 induction n using Nat.strongRecOn with
 | _ n ih=>
 intro cs B hB h
 have hpos:=h.pos
 obtain ⟨hl,m,bs,rfl,hbl,hbs,hf⟩:=h.structS Tryz.underlying40
 rw [show Tryz.prog.cellsOf 40=9 by kernel_rfl] at hl
 match cs,hl,bs,hbl,hbs,hf with
 | [q0,q1,q2,q3,q4,q5,q6,q7,q8],_,[y0,y1,y2,y3,y4],_,hbs,hf=>
 simp only [List.sum_cons,List.sum_nil] at hbs
 have g0:Tr Tryz.prog W y0 m 5 (([q0,q1,q2,q3,q4,q5,q6,q7,q8].drop 0).take (Tryz.prog.cellsOf 5)):=hf 0 _ y0 rfl rfl
 rw [show Tryz.prog.cellsOf 5=1 by kernel_rfl] at g0
 replace g0:Tr Tryz.prog W y0 m 5 [q0]:=g0
 obtain ⟨x0,e0,_⟩:=g0.int Tryz.underlying5
 have g1:Tr Tryz.prog W y1 m 26 (([q0,q1,q2,q3,q4,q5,q6,q7,q8].drop 1).take (Tryz.prog.cellsOf 26)):=hf 1 _ y1 rfl rfl
 rw [show Tryz.prog.cellsOf 26=2 by kernel_rfl] at g1
 replace g1:Tr Tryz.prog W y1 m 26 [q1,q2]:=g1
 obtain ⟨p1,e1⟩:=QnW g1
 have g2:Tr Tryz.prog W y2 m 9 (([q0,q1,q2,q3,q4,q5,q6,q7,q8].drop 3).take (Tryz.prog.cellsOf 9)):=hf 2 _ y2 rfl rfl
 rw [show Tryz.prog.cellsOf 9=1 by kernel_rfl] at g2
 replace g2:Tr Tryz.prog W y2 m 9 [q3]:=g2
 obtain ⟨x2,e2,_,w2⟩:=g2.str Tryz.underlying9
 have w2:x2.length≤140737488355328:=by omega
 have g3:Tr Tryz.prog W y3 m 38 (([q0,q1,q2,q3,q4,q5,q6,q7,q8].drop 4).take (Tryz.prog.cellsOf 38)):=hf 3 _ y3 rfl rfl
 rw [show Tryz.prog.cellsOf 38=4 by kernel_rfl] at g3
 replace g3:Tr Tryz.prog W y3 m 38 [q4,q5,q6,q7]:=g3
 obtain ⟨v3,x3,e3,r3,b3⟩:=Qvj valT6 g3 (by omega)
 have g4:Tr Tryz.prog W y4 m 33 (([q0,q1,q2,q3,q4,q5,q6,q7,q8].drop 8).take (Tryz.prog.cellsOf 33)):=hf 4 _ y4 rfl rfl
 rw [show Tryz.prog.cellsOf 33=1 by kernel_rfl] at g4
 replace g4:Tr Tryz.prog W y4 m 33 [q8]:=g4
 obtain ⟨x4,l4,e4,r4,c4,s4,_⟩:=Qfv (R:=(EpIs (heapOf W))) (c:=Qc.c) (f:=(fun v:ExP=>exSz v.e)) g4 Tryz.underlying33 (show Tryz.prog.cellsOf 40=9 by kernel_rfl) (by omega) (by omega) (fun m hm cs b hb hc=>ih m (by omega) hb hc)
 exact ⟨.mk p1 x0 x2 v3 l4,⟨x0,psP p1,x2,x3,x4⟩,(show [q0,q1,q2,q3,q4,q5,q6,q7,q8]=[q0]++([q1,q2]++([q3]++([q4,q5,q6,q7]++([q8])))) from rfl).trans (by rw [e0,e1,e2,e3,e4]; rfl),QgD.2 ⟨rfl,rfl,⟨rfl,w2⟩,r3,b3,r4⟩,by show exSz (ExP.e (.mk p1 x0 x2 v3 l4))≤B; rw [ExP.e_eq,Qpc]; show sL exSz (l4.map ExP.e)+1≤B; rw [QkP]; omega⟩
theorem Qoy:∀ (n:Nat) {cs:List Value} {B:Nat},B≤1000000000→Tr Tryz.prog W B n 35 cs→∃ (v:LiP) (x:Ql),cs=Ql.c x∧LpIs (heapOf W) v x∧(fun v:LiP=>liSz v.e) v≤B:=by
 intro n
 intro cs B hB h
 have hpos:=h.pos
 obtain ⟨hl,m,bs,rfl,hbl,hbs,hf⟩:=h.structS Tryz.underlying35
 rw [show Tryz.prog.cellsOf 35=5 by kernel_rfl] at hl
 match cs,hl,bs,hbl,hbs,hf with
 | [q0,q1,q2,q3,q4],_,[y0,y1,y2,y3],_,hbs,hf=>
 simp only [List.sum_cons,List.sum_nil] at hbs
 have g0:Tr Tryz.prog W y0 m 5 (([q0,q1,q2,q3,q4].drop 0).take (Tryz.prog.cellsOf 5)):=hf 0 _ y0 rfl rfl
 rw [show Tryz.prog.cellsOf 5=1 by kernel_rfl] at g0
 replace g0:Tr Tryz.prog W y0 m 5 [q0]:=g0
 obtain ⟨x0,e0,_⟩:=g0.int Tryz.underlying5
 have g1:Tr Tryz.prog W y1 m 26 (([q0,q1,q2,q3,q4].drop 1).take (Tryz.prog.cellsOf 26)):=hf 1 _ y1 rfl rfl
 rw [show Tryz.prog.cellsOf 26=2 by kernel_rfl] at g1
 replace g1:Tr Tryz.prog W y1 m 26 [q1,q2]:=g1
 obtain ⟨p1,e1⟩:=QnW g1
 have g2:Tr Tryz.prog W y2 m 9 (([q0,q1,q2,q3,q4].drop 3).take (Tryz.prog.cellsOf 9)):=hf 2 _ y2 rfl rfl
 rw [show Tryz.prog.cellsOf 9=1 by kernel_rfl] at g2
 replace g2:Tr Tryz.prog W y2 m 9 [q3]:=g2
 obtain ⟨x2,e2,_,w2⟩:=g2.str Tryz.underlying9
 have w2:x2.length≤140737488355328:=by omega
 have g3:Tr Tryz.prog W y3 m 33 (([q0,q1,q2,q3,q4].drop 4).take (Tryz.prog.cellsOf 33)):=hf 3 _ y3 rfl rfl
 rw [show Tryz.prog.cellsOf 33=1 by kernel_rfl] at g3
 replace g3:Tr Tryz.prog W y3 m 33 [q4]:=g3
 obtain ⟨x3,l3,e3,r3,c3,s3,_⟩:=Qfv (R:=(EpIs (heapOf W))) (c:=Qc.c) (f:=(fun v:ExP=>exSz v.e)) g3 Tryz.underlying33 (show Tryz.prog.cellsOf 40=9 by kernel_rfl) (by omega) (by omega) (fun m hm cs b hb hc=>QrX m hb hc)
 exact ⟨⟨p1,x0,x2,l3⟩,⟨x0,psP p1,x2,x3⟩,(show [q0,q1,q2,q3,q4]=[q0]++([q1,q2]++([q3]++([q4]))) from rfl).trans (by rw [e0,e1,e2,e3]; rfl),⟨rfl,rfl,⟨rfl,w2⟩,r3⟩,by show sL exSz (l3.map ExP.e)+1≤B; rw [QkP]; omega⟩
theorem Qru:∀ (n:Nat) {cs:List Value} {B:Nat},B≤1000000000→Tr Tryz.prog W B n 63 cs→∃ (v:CnV) (x:Qj),cs=Qj.c x∧CnIs (heapOf W) v x∧cnSz v≤B:=by
 intro n
 intro cs B hB h
 have hpos:=h.pos
 obtain ⟨hl,m,bs,rfl,hbl,hbs,hf⟩:=h.structS Tryz.underlying63
 rw [show Tryz.prog.cellsOf 63=2 by kernel_rfl] at hl
 match cs,hl,bs,hbl,hbs,hf with
 | [q0,q1],_,[y0,y1],_,hbs,hf=>
 simp only [List.sum_cons,List.sum_nil] at hbs
 have g0:Tr Tryz.prog W y0 m 9 (([q0,q1].drop 0).take (Tryz.prog.cellsOf 9)):=hf 0 _ y0 rfl rfl
 rw [show Tryz.prog.cellsOf 9=1 by kernel_rfl] at g0
 replace g0:Tr Tryz.prog W y0 m 9 [q0]:=g0
 obtain ⟨x0,e0,_,w0⟩:=g0.str Tryz.underlying9
 have w0:x0.length≤140737488355328:=by omega
 have g1:Tr Tryz.prog W y1 m 27 (([q0,q1].drop 1).take (Tryz.prog.cellsOf 27)):=hf 1 _ y1 rfl rfl
 rw [show Tryz.prog.cellsOf 27=1 by kernel_rfl] at g1
 replace g1:Tr Tryz.prog W y1 m 27 [q1]:=g1
 obtain ⟨x1,l1,e1,r1,c1,s1,_⟩:=Qfv (R:=(FdIs (heapOf W))) (c:=Qi.c) (f:=(fun f:FdV=>tySz f.t)) g1 Tryz.underlying27 (show Tryz.prog.cellsOf 31=3 by kernel_rfl) (by omega) (by omega) (fun m hm cs b hb hc=>Qm2 m hb hc)
 exact ⟨⟨x0,l1⟩,⟨x0,x1⟩,(show [q0,q1]=[q0]++([q1]) from rfl).trans (by rw [e0,e1]; rfl),⟨⟨rfl,w0⟩,r1⟩,by show sL (fun f:FdV=>tySz f.t) l1+1≤B; omega⟩
theorem Qrv:∀ (n:Nat) {cs:List Value} {B:Nat},B≤1000000000→Tr Tryz.prog W B n 66 cs→∃ (v:TdP) (x:Qb),cs=Qb.c x∧TpIs (heapOf W) v x∧(fun v:TdP=>tdSz v.e) v≤B:=by
 intro n
 intro cs B hB h
 have hpos:=h.pos
 obtain ⟨hl,m,bs,rfl,hbl,hbs,hf⟩:=h.structS Tryz.underlying66
 rw [show Tryz.prog.cellsOf 66=6 by kernel_rfl] at hl
 match cs,hl,bs,hbl,hbs,hf with
 | [q0,q1,q2,q3,q4,q5],_,[y0,y1,y2,y3,y4],_,hbs,hf=>
 simp only [List.sum_cons,List.sum_nil] at hbs
 have g0:Tr Tryz.prog W y0 m 26 (([q0,q1,q2,q3,q4,q5].drop 0).take (Tryz.prog.cellsOf 26)):=hf 0 _ y0 rfl rfl
 rw [show Tryz.prog.cellsOf 26=2 by kernel_rfl] at g0
 replace g0:Tr Tryz.prog W y0 m 26 [q0,q1]:=g0
 obtain ⟨p0,e0⟩:=QnW g0
 have g1:Tr Tryz.prog W y1 m 4 (([q0,q1,q2,q3,q4,q5].drop 2).take (Tryz.prog.cellsOf 4)):=hf 1 _ y1 rfl rfl
 rw [show Tryz.prog.cellsOf 4=1 by kernel_rfl] at g1
 replace g1:Tr Tryz.prog W y1 m 4 [q2]:=g1
 obtain ⟨x1,e1⟩:=g1.bool Tryz.underlying4
 have g2:Tr Tryz.prog W y2 m 9 (([q0,q1,q2,q3,q4,q5].drop 3).take (Tryz.prog.cellsOf 9)):=hf 2 _ y2 rfl rfl
 rw [show Tryz.prog.cellsOf 9=1 by kernel_rfl] at g2
 replace g2:Tr Tryz.prog W y2 m 9 [q3]:=g2
 obtain ⟨x2,e2,_,w2⟩:=g2.str Tryz.underlying9
 have w2:x2.length≤140737488355328:=by omega
 have g3:Tr Tryz.prog W y3 m 43 (([q0,q1,q2,q3,q4,q5].drop 4).take (Tryz.prog.cellsOf 43)):=hf 3 _ y3 rfl rfl
 rw [show Tryz.prog.cellsOf 43=1 by kernel_rfl] at g3
 replace g3:Tr Tryz.prog W y3 m 43 [q4]:=g3
 obtain ⟨x3,l3,e3,r3,c3,s3,_⟩:=Qfv (R:=(fun (v:Str) (x:Str)=>Nm x v)) (c:=(fun x=>[sv x])) (f:=(fun _:Str=>1)) g3 Tryz.underlying43 (show Tryz.prog.cellsOf 9=1 by kernel_rfl) (by omega) (by omega) (fun m hm cs b hb hc=>by have h1:=hc.pos; obtain ⟨s,hs,_,hw⟩:=hc.str Tryz.underlying9; exact ⟨s,s,hs,⟨rfl,by omega⟩,h1⟩)
 have g4:Tr Tryz.prog W y4 m 64 (([q0,q1,q2,q3,q4,q5].drop 5).take (Tryz.prog.cellsOf 64)):=hf 4 _ y4 rfl rfl
 rw [show Tryz.prog.cellsOf 64=1 by kernel_rfl] at g4
 replace g4:Tr Tryz.prog W y4 m 64 [q5]:=g4
 obtain ⟨x4,l4,e4,r4,c4,s4,_⟩:=Qfv (R:=(CnIs (heapOf W))) (c:=Qj.c) (f:=cnSz) g4 Tryz.underlying64 (show Tryz.prog.cellsOf 63=2 by kernel_rfl) (by omega) (by omega) (fun m hm cs b hb hc=>Qru m hb hc)
 exact ⟨⟨p0,x1,x2,l3,l4⟩,⟨psP p0,x1,x2,x3,x4⟩,(show [q0,q1,q2,q3,q4,q5]=[q0,q1]++([q2]++([q3]++([q4]++([q5])))) from rfl).trans (by rw [e0,e1,e2,e3,e4]; rfl),⟨rfl,rfl,⟨rfl,w2⟩,⟨r3,c3⟩,r4⟩,by show sL cnSz l4+l3.length+1≤B; rw [QnZ] at s3; omega⟩
theorem Qr0:∀ (n:Nat) {cs:List Value} {B:Nat},B≤1000000000→Tr Tryz.prog W B n 29 cs→∃ (v:RdP) (x:Qd),cs=Qd.c x∧RpIs (heapOf W) v x∧(fun v:RdP=>rdSz v.e) v≤B:=by
 intro n
 intro cs B hB h
 have hpos:=h.pos
 obtain ⟨hl,m,bs,rfl,hbl,hbs,hf⟩:=h.structS Tryz.underlying29
 rw [show Tryz.prog.cellsOf 29=6 by kernel_rfl] at hl
 match cs,hl,bs,hbl,hbs,hf with
 | [q0,q1,q2,q3,q4,q5],_,[y0,y1,y2,y3,y4],_,hbs,hf=>
 simp only [List.sum_cons,List.sum_nil] at hbs
 have g0:Tr Tryz.prog W y0 m 26 (([q0,q1,q2,q3,q4,q5].drop 0).take (Tryz.prog.cellsOf 26)):=hf 0 _ y0 rfl rfl
 rw [show Tryz.prog.cellsOf 26=2 by kernel_rfl] at g0
 replace g0:Tr Tryz.prog W y0 m 26 [q0,q1]:=g0
 obtain ⟨p0,e0⟩:=QnW g0
 have g1:Tr Tryz.prog W y1 m 4 (([q0,q1,q2,q3,q4,q5].drop 2).take (Tryz.prog.cellsOf 4)):=hf 1 _ y1 rfl rfl
 rw [show Tryz.prog.cellsOf 4=1 by kernel_rfl] at g1
 replace g1:Tr Tryz.prog W y1 m 4 [q2]:=g1
 obtain ⟨x1,e1⟩:=g1.bool Tryz.underlying4
 have g2:Tr Tryz.prog W y2 m 4 (([q0,q1,q2,q3,q4,q5].drop 3).take (Tryz.prog.cellsOf 4)):=hf 2 _ y2 rfl rfl
 rw [show Tryz.prog.cellsOf 4=1 by kernel_rfl] at g2
 replace g2:Tr Tryz.prog W y2 m 4 [q3]:=g2
 obtain ⟨x2,e2⟩:=g2.bool Tryz.underlying4
 have g3:Tr Tryz.prog W y3 m 9 (([q0,q1,q2,q3,q4,q5].drop 4).take (Tryz.prog.cellsOf 9)):=hf 3 _ y3 rfl rfl
 rw [show Tryz.prog.cellsOf 9=1 by kernel_rfl] at g3
 replace g3:Tr Tryz.prog W y3 m 9 [q4]:=g3
 obtain ⟨x3,e3,_,w3⟩:=g3.str Tryz.underlying9
 have w3:x3.length≤140737488355328:=by omega
 have g4:Tr Tryz.prog W y4 m 27 (([q0,q1,q2,q3,q4,q5].drop 5).take (Tryz.prog.cellsOf 27)):=hf 4 _ y4 rfl rfl
 rw [show Tryz.prog.cellsOf 27=1 by kernel_rfl] at g4
 replace g4:Tr Tryz.prog W y4 m 27 [q5]:=g4
 obtain ⟨x4,l4,e4,r4,c4,s4,_⟩:=Qfv (R:=(FdIs (heapOf W))) (c:=Qi.c) (f:=(fun f:FdV=>tySz f.t)) g4 Tryz.underlying27 (show Tryz.prog.cellsOf 31=3 by kernel_rfl) (by omega) (by omega) (fun m hm cs b hb hc=>Qm2 m hb hc)
 exact ⟨⟨p0,x1,x2,x3,l4⟩,⟨psP p0,x1,x2,x3,x4⟩,(show [q0,q1,q2,q3,q4,q5]=[q0,q1]++([q2]++([q3]++([q4]++([q5])))) from rfl).trans (by rw [e0,e1,e2,e3,e4]; rfl),⟨rfl,rfl,rfl,⟨rfl,w3⟩,r4⟩,by show sL (fun f:FdV=>tySz f.t) l4+1≤B; omega⟩
theorem Qur:∀ (n:Nat) {cs:List Value} {B:Nat},B≤1000000000→Tr Tryz.prog W B n 45 cs→∃ (v:RuP) (x:Qk),cs=Qk.c x∧UpIs (heapOf W) v x∧(fun v:RuP=>ruSz v.e) v≤B:=by
 intro n
 intro cs B hB h
 have hpos:=h.pos
 obtain ⟨hl,m,bs,rfl,hbl,hbs,hf⟩:=h.structS Tryz.underlying45
 rw [show Tryz.prog.cellsOf 45=6 by kernel_rfl] at hl
 match cs,hl,bs,hbl,hbs,hf with
 | [q0,q1,q2,q3,q4,q5],_,[y0,y1,y2,y3,y4],_,hbs,hf=>
 simp only [List.sum_cons,List.sum_nil] at hbs
 have g0:Tr Tryz.prog W y0 m 26 (([q0,q1,q2,q3,q4,q5].drop 0).take (Tryz.prog.cellsOf 26)):=hf 0 _ y0 rfl rfl
 rw [show Tryz.prog.cellsOf 26=2 by kernel_rfl] at g0
 replace g0:Tr Tryz.prog W y0 m 26 [q0,q1]:=g0
 obtain ⟨p0,e0⟩:=QnW g0
 have g1:Tr Tryz.prog W y1 m 9 (([q0,q1,q2,q3,q4,q5].drop 2).take (Tryz.prog.cellsOf 9)):=hf 1 _ y1 rfl rfl
 rw [show Tryz.prog.cellsOf 9=1 by kernel_rfl] at g1
 replace g1:Tr Tryz.prog W y1 m 9 [q2]:=g1
 obtain ⟨x1,e1,_,w1⟩:=g1.str Tryz.underlying9
 have w1:x1.length≤140737488355328:=by omega
 have g2:Tr Tryz.prog W y2 m 33 (([q0,q1,q2,q3,q4,q5].drop 3).take (Tryz.prog.cellsOf 33)):=hf 2 _ y2 rfl rfl
 rw [show Tryz.prog.cellsOf 33=1 by kernel_rfl] at g2
 replace g2:Tr Tryz.prog W y2 m 33 [q3]:=g2
 obtain ⟨x2,l2,e2,r2,c2,s2,_⟩:=Qfv (R:=(EpIs (heapOf W))) (c:=Qc.c) (f:=(fun v:ExP=>exSz v.e)) g2 Tryz.underlying33 (show Tryz.prog.cellsOf 40=9 by kernel_rfl) (by omega) (by omega) (fun m hm cs b hb hc=>QrX m hb hc)
 have g3:Tr Tryz.prog W y3 m 43 (([q0,q1,q2,q3,q4,q5].drop 4).take (Tryz.prog.cellsOf 43)):=hf 3 _ y3 rfl rfl
 rw [show Tryz.prog.cellsOf 43=1 by kernel_rfl] at g3
 replace g3:Tr Tryz.prog W y3 m 43 [q4]:=g3
 obtain ⟨x3,l3,e3,r3,c3,s3,_⟩:=Qfv (R:=(fun (v:Str) (x:Str)=>Nm x v)) (c:=(fun x=>[sv x])) (f:=(fun _:Str=>1)) g3 Tryz.underlying43 (show Tryz.prog.cellsOf 9=1 by kernel_rfl) (by omega) (by omega) (fun m hm cs b hb hc=>by have h1:=hc.pos; obtain ⟨s,hs,_,hw⟩:=hc.str Tryz.underlying9; exact ⟨s,s,hs,⟨rfl,by omega⟩,h1⟩)
 have g4:Tr Tryz.prog W y4 m 42 (([q0,q1,q2,q3,q4,q5].drop 5).take (Tryz.prog.cellsOf 42)):=hf 4 _ y4 rfl rfl
 rw [show Tryz.prog.cellsOf 42=1 by kernel_rfl] at g4
 replace g4:Tr Tryz.prog W y4 m 42 [q5]:=g4
 obtain ⟨x4,l4,e4,r4,c4,s4,_⟩:=Qfv (R:=(LpIs (heapOf W))) (c:=Ql.c) (f:=(fun v:LiP=>liSz v.e)) g4 Tryz.underlying42 (show Tryz.prog.cellsOf 35=5 by kernel_rfl) (by omega) (by omega) (fun m hm cs b hb hc=>Qoy m hb hc)
 exact ⟨⟨p0,x1,l2,l3,l4⟩,⟨psP p0,x1,x2,x3,x4⟩,(show [q0,q1,q2,q3,q4,q5]=[q0,q1]++([q2]++([q3]++([q4]++([q5])))) from rfl).trans (by rw [e0,e1,e2,e3,e4]; rfl),⟨rfl,⟨rfl,w1⟩,r2,r3,r4⟩,by show sL exSz (l2.map ExP.e)+sL liSz (l4.map LiP.e)+1≤B; rw [QkP,QkP]; omega⟩
theorem Qtf:∀ (n:Nat) {cs:List Value} {B:Nat},B≤1000000000→Tr Tryz.prog W B n 68 cs→∃ (v:NeP) (x:Qn),cs=Qn.c x∧NpIs (heapOf W) v x∧(fun v:NeP=>neSz v.e) v≤B:=by
 intro n
 intro cs B hB h
 have hpos:=h.pos
 obtain ⟨hl,m,bs,rfl,hbl,hbs,hf⟩:=h.structS Tryz.underlying68
 rw [show Tryz.prog.cellsOf 68=4 by kernel_rfl] at hl
 match cs,hl,bs,hbl,hbs,hf with
 | [q0,q1,q2,q3],_,[y0,y1,y2],_,hbs,hf=>
 simp only [List.sum_cons,List.sum_nil] at hbs
 have g0:Tr Tryz.prog W y0 m 26 (([q0,q1,q2,q3].drop 0).take (Tryz.prog.cellsOf 26)):=hf 0 _ y0 rfl rfl
 rw [show Tryz.prog.cellsOf 26=2 by kernel_rfl] at g0
 replace g0:Tr Tryz.prog W y0 m 26 [q0,q1]:=g0
 obtain ⟨p0,e0⟩:=QnW g0
 have g1:Tr Tryz.prog W y1 m 9 (([q0,q1,q2,q3].drop 2).take (Tryz.prog.cellsOf 9)):=hf 1 _ y1 rfl rfl
 rw [show Tryz.prog.cellsOf 9=1 by kernel_rfl] at g1
 replace g1:Tr Tryz.prog W y1 m 9 [q2]:=g1
 obtain ⟨x1,e1,_,w1⟩:=g1.str Tryz.underlying9
 have w1:x1.length≤140737488355328:=by omega
 have g2:Tr Tryz.prog W y2 m 42 (([q0,q1,q2,q3].drop 3).take (Tryz.prog.cellsOf 42)):=hf 2 _ y2 rfl rfl
 rw [show Tryz.prog.cellsOf 42=1 by kernel_rfl] at g2
 replace g2:Tr Tryz.prog W y2 m 42 [q3]:=g2
 obtain ⟨x2,l2,e2,r2,c2,s2,_⟩:=Qfv (R:=(LpIs (heapOf W))) (c:=Ql.c) (f:=(fun v:LiP=>liSz v.e)) g2 Tryz.underlying42 (show Tryz.prog.cellsOf 35=5 by kernel_rfl) (by omega) (by omega) (fun m hm cs b hb hc=>Qoy m hb hc)
 exact ⟨⟨p0,x1,l2⟩,⟨psP p0,x1,x2⟩,(show [q0,q1,q2,q3]=[q0,q1]++([q2]++([q3])) from rfl).trans (by rw [e0,e1,e2]; rfl),⟨rfl,⟨rfl,w1⟩,r2⟩,by show sL liSz (l2.map LiP.e)+1≤B; rw [QkP]; omega⟩
theorem QrY:∀ (n:Nat) {cs:List Value} {B:Nat},B≤1000000000→Tr Tryz.prog W B n 48 cs→∃ (v:ImP) (x:Qp),cs=Qp.c x∧IpIs v x∧(fun _:ImP=>1) v≤B:=by
 intro n
 intro cs B hB h
 have hpos:=h.pos
 obtain ⟨hl,m,bs,rfl,hbl,hbs,hf⟩:=h.structS Tryz.underlying48
 rw [show Tryz.prog.cellsOf 48=3 by kernel_rfl] at hl
 match cs,hl,bs,hbl,hbs,hf with
 | [q0,q1,q2],_,[y0,y1],_,hbs,hf=>
 simp only [List.sum_cons,List.sum_nil] at hbs
 have g0:Tr Tryz.prog W y0 m 26 (([q0,q1,q2].drop 0).take (Tryz.prog.cellsOf 26)):=hf 0 _ y0 rfl rfl
 rw [show Tryz.prog.cellsOf 26=2 by kernel_rfl] at g0
 replace g0:Tr Tryz.prog W y0 m 26 [q0,q1]:=g0
 obtain ⟨p0,e0⟩:=QnW g0
 have g1:Tr Tryz.prog W y1 m 9 (([q0,q1,q2].drop 2).take (Tryz.prog.cellsOf 9)):=hf 1 _ y1 rfl rfl
 rw [show Tryz.prog.cellsOf 9=1 by kernel_rfl] at g1
 replace g1:Tr Tryz.prog W y1 m 9 [q2]:=g1
 obtain ⟨x1,e1,_,w1⟩:=g1.str Tryz.underlying9
 have w1:x1.length≤140737488355328:=by omega
 exact ⟨⟨p0,x1⟩,⟨psP p0,x1⟩,(show [q0,q1,q2]=[q0,q1]++([q2]) from rfl).trans (by rw [e0,e1]; rfl),⟨rfl,rfl,w1⟩,by omega⟩
theorem QrZ:∀ (n:Nat) {cs:List Value} {B:Nat},B≤1000000000→Tr Tryz.prog W B n 55 cs→∃ (v:MoP) (x:Qa),cs=Qa.c x∧MpIs (heapOf W) v x∧(fun v:MoP=>moSz v.e) v≤B:=by
 intro n
 intro cs B hB h
 have hpos:=h.pos
 obtain ⟨hl,m,bs,rfl,hbl,hbs,hf⟩:=h.structS Tryz.underlying55
 rw [show Tryz.prog.cellsOf 55=6 by kernel_rfl] at hl
 match cs,hl,bs,hbl,hbs,hf with
 | [q0,q1,q2,q3,q4,q5],_,[y0,y1,y2,y3,y4,y5],_,hbs,hf=>
 simp only [List.sum_cons,List.sum_nil] at hbs
 have g0:Tr Tryz.prog W y0 m 9 (([q0,q1,q2,q3,q4,q5].drop 0).take (Tryz.prog.cellsOf 9)):=hf 0 _ y0 rfl rfl
 rw [show Tryz.prog.cellsOf 9=1 by kernel_rfl] at g0
 replace g0:Tr Tryz.prog W y0 m 9 [q0]:=g0
 obtain ⟨x0,e0,_,w0⟩:=g0.str Tryz.underlying9
 have w0:x0.length≤140737488355328:=by omega
 have g1:Tr Tryz.prog W y1 m 49 (([q0,q1,q2,q3,q4,q5].drop 1).take (Tryz.prog.cellsOf 49)):=hf 1 _ y1 rfl rfl
 rw [show Tryz.prog.cellsOf 49=1 by kernel_rfl] at g1
 replace g1:Tr Tryz.prog W y1 m 49 [q1]:=g1
 obtain ⟨x1,l1,e1,r1,c1,s1,_⟩:=Qfv (R:=(IpIs)) (c:=Qp.c) (f:=(fun _:ImP=>1)) g1 Tryz.underlying49 (show Tryz.prog.cellsOf 48=3 by kernel_rfl) (by omega) (by omega) (fun m hm cs b hb hc=>QrY m hb hc)
 have g2:Tr Tryz.prog W y2 m 51 (([q0,q1,q2,q3,q4,q5].drop 2).take (Tryz.prog.cellsOf 51)):=hf 2 _ y2 rfl rfl
 rw [show Tryz.prog.cellsOf 51=1 by kernel_rfl] at g2
 replace g2:Tr Tryz.prog W y2 m 51 [q2]:=g2
 obtain ⟨x2,l2,e2,r2,c2,s2,_⟩:=Qfv (R:=(TpIs (heapOf W))) (c:=Qb.c) (f:=(fun v:TdP=>tdSz v.e)) g2 Tryz.underlying51 (show Tryz.prog.cellsOf 66=6 by kernel_rfl) (by omega) (by omega) (fun m hm cs b hb hc=>Qrv m hb hc)
 have g3:Tr Tryz.prog W y3 m 50 (([q0,q1,q2,q3,q4,q5].drop 3).take (Tryz.prog.cellsOf 50)):=hf 3 _ y3 rfl rfl
 rw [show Tryz.prog.cellsOf 50=1 by kernel_rfl] at g3
 replace g3:Tr Tryz.prog W y3 m 50 [q3]:=g3
 obtain ⟨x3,l3,e3,r3,c3,s3,_⟩:=Qfv (R:=(RpIs (heapOf W))) (c:=Qd.c) (f:=(fun v:RdP=>rdSz v.e)) g3 Tryz.underlying50 (show Tryz.prog.cellsOf 29=6 by kernel_rfl) (by omega) (by omega) (fun m hm cs b hb hc=>Qr0 m hb hc)
 have g4:Tr Tryz.prog W y4 m 52 (([q0,q1,q2,q3,q4,q5].drop 4).take (Tryz.prog.cellsOf 52)):=hf 4 _ y4 rfl rfl
 rw [show Tryz.prog.cellsOf 52=1 by kernel_rfl] at g4
 replace g4:Tr Tryz.prog W y4 m 52 [q4]:=g4
 obtain ⟨x4,l4,e4,r4,c4,s4,_⟩:=Qfv (R:=(UpIs (heapOf W))) (c:=Qk.c) (f:=(fun v:RuP=>ruSz v.e)) g4 Tryz.underlying52 (show Tryz.prog.cellsOf 45=6 by kernel_rfl) (by omega) (by omega) (fun m hm cs b hb hc=>Qur m hb hc)
 have g5:Tr Tryz.prog W y5 m 53 (([q0,q1,q2,q3,q4,q5].drop 5).take (Tryz.prog.cellsOf 53)):=hf 5 _ y5 rfl rfl
 rw [show Tryz.prog.cellsOf 53=1 by kernel_rfl] at g5
 replace g5:Tr Tryz.prog W y5 m 53 [q5]:=g5
 obtain ⟨x5,l5,e5,r5,c5,s5,_⟩:=Qfv (R:=(NpIs (heapOf W))) (c:=Qn.c) (f:=(fun v:NeP=>neSz v.e)) g5 Tryz.underlying53 (show Tryz.prog.cellsOf 68=4 by kernel_rfl) (by omega) (by omega) (fun m hm cs b hb hc=>Qtf m hb hc)
 exact ⟨⟨x0,l1,l2,l3,l4,l5⟩,⟨x0,x1,x2,x3,x4,x5⟩,(show [q0,q1,q2,q3,q4,q5]=[q0]++([q1]++([q2]++([q3]++([q4]++([q5]))))) from rfl).trans (by rw [e0,e1,e2,e3,e4,e5]; rfl),⟨⟨rfl,w0⟩,⟨r1,c1⟩,r2,r3,r4,r5⟩,by show (l1.map ImP.n).length+sL tdSz (l2.map TdP.e)+sL rdSz (l3.map RdP.e)+sL ruSz (l4.map RuP.e)+sL neSz (l5.map NeP.e)≤B; rw [QkP,QkP,QkP,QkP,List.length_map]; rw [QnZ] at s1; omega⟩
theorem Qr5 {H : Type} {enc : TypeId × Value → H} {base : Nat} {v : Value} {d : DataW H} {p : List MemPlace} (hv : Value.okWide Tryz.prog W .any base 59 v) (h : DataW.Trod enc Tryz.prog W 0 (fun _ => true) true 59 v d p) (hs : sizeD d ≤ 1048576) :
 ∃ (s:Sl) (a:List MoP),v=slv s∧MpL (heapOf W) s a∧(∀ m ∈ a,moSz m.e≤1048576)∧a.length≤1048576∧s.len≤s.cap:=by
 obtain ⟨x,len,c,rfl⟩:=WideShapes.okWide_slice Tryz.underlying59 hv
 obtain ⟨n,hn⟩:=Tr.of h
 obtain ⟨s,a,h1,h2,h3,h4,h5⟩:=Qfv (R:=MpIs (heapOf W)) (c:=Qa.c) (f:=fun v:MoP=>moSz v.e) hn Tryz.underlying59 (show Tryz.prog.cellsOf 55=6 by kernel_rfl) (by omega) (by omega) (fun m hm cs b hb hc=>QrZ m hb hc)
 have hm:∀ l:List MoP,∀ m ∈ l,moSz m.e≤sL (fun v:MoP=>moSz v.e) l:=by
  intro l
  induction l with
  | nil=>intro m h; cases h
  | cons y l ih=>
   intro m h
   simp only [sL]
   rcases List.mem_cons.1 h with rfl | h
   ·omega
   ·have:=ih m h; omega
 refine ⟨s,a,?_,h2,fun m hm'=>by have:=hm a m hm'; omega,by omega,h3⟩
 simpa [Value.cells] using h1
end
end
section
open Go Go.Proofs
theorem QmI {C:Ctx} {H:Heap} (hT:MaxC C) (hFm:FmtC C) {a:List MoP} {s:Sl} (ha:MpL H s a∧(∀ m ∈ a,moSz m.e≤1048576)∧a.length≤1048576∧s.len≤s.cap):Qbj C s (fun r _=>r=true) H:=Qm3 hT hFm ha.1 (fun m hm=>Nat.le_trans (ha.2.1 m hm) (by omega)) (Nat.le_trans ha.2.2.1 (by omega)) fun _=>rfl
end
end Sx
end
noncomputable section
set_option linter.unusedVariables false
namespace Go.Proofs.YtmeefnmaphmpkaaGreatDoor
open Sx
mutual
theorem QqO {H:Type}:∀ (d:DataW H),sizeD d≤Rows.uptoBulk d
 | .lit l=>by cases l <;> simp [sizeD,Rows.uptoBulk]
 | .nil=>by simp [sizeD,Rows.uptoBulk]
 | .ptr d=>by have:=QqO d; simp only [sizeD,Rows.uptoBulk]; omega
 | .slice e s=>by have:=Ql0 e; have:=Ql0 s; simp only [sizeD,Rows.uptoBulk]; omega
 | .agg p=>by have:=Ql0 p; simp only [sizeD,Rows.uptoBulk]; omega
 | .iface _ d=>by have:=QqO d; simp only [sizeD,Rows.uptoBulk]; omega
 | .map _=>by simp [sizeD,Rows.uptoBulk]
 | .held _=>by simp [sizeD,Rows.uptoBulk]
theorem Ql0 {H:Type}:∀ (l:List (DataW H)),sizeDs l≤Rows.uptoBulkAll l
 | []=>by simp [sizeDs,Rows.uptoBulkAll]
 | d::r=>by have:=QqO d; have:=Ql0 r; simp only [sizeDs,Rows.uptoBulkAll]; omega
end
theorem QtT {H:Type} {ds:List (DataW H)} (hk:Rows.uptoSmall H ds=true) {d:DataW H} (hd:d ∈ ds):sizeD d≤1048576:=by
 have h:Rows.uptoBulkAll ds≤1048576:=of_decide_eq_true hk
 have h1:=Ql0 ds
 have h2:=Qig hd
 omega
end Go.Proofs.YtmeefnmaphmpkaaGreatDoor
namespace Sx
open Go
end Sx
end

noncomputable section

end

