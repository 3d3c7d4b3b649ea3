/-
  Texts of this family, one behind the other: TreeG, TreeC1, TreeC2, TreeC3, TreeW1, TreeW2, TreeW3, TreeB, TreeL, TreeS, TreeK, TreeA0, TreeA, TreeX1, TreeD1, TreeD2, TreeD3, TreeD4, TreeD5, TreeD6.
-/
import Derived.Test.YtnomkabppjlbfaaGreatDoorAU5
noncomputable section
set_option linter.unusedVariables false
set_option linter.unusedSimpArgs false
set_option maxRecDepth 10000
namespace Sx
section
open Go Go.Proofs
theorem QpS {α:Type} (f:α→Nat):∀ (a b:List α),mxL f (a++b)=max (mxL f a) (mxL f b)
 | [],b=>by simp [mxL]
 | v::a,b=>by simp only [List.cons_append,mxL,QpS f a b]; omega
theorem Qes {α:Type} {f:α→Nat} {l:List α} {i:Nat} (h:i < l.length):mxL f (l.take (i+1))=max (mxL f (l.take i)) (f l[i]):=by
 rw [List.take_add_one,List.getElem?_eq_getElem h,Option.toList_some,QpS]; simp [mxL]
theorem Qeu {α:Type} {f:α→Nat} {l:List α} {v:α} (h:v ∈ l):f v≤mxL f l:=by
 induction l with
 | nil=>cases h
 | cons a l ih=>
  simp only [mxL]
  rcases List.mem_cons.1 h with rfl | h
  ·omega
  ·have:=ih h; omega
theorem allTake {α:Type} {f:α→Bool} {l:List α} {i:Nat} (h:i < l.length):(l.take (i+1)).all f=((l.take i).all f && f l[i]):=by
 rw [List.take_add_one,List.getElem?_eq_getElem h,Option.toList_some,List.all_append]; simp
theorem allNo {α:Type} {f:α→Bool} {l:List α} {i:Nat} (h:i < l.length) (hf:f l[i]=false):l.all f=false:=by
 cases hh:l.all f with
 | false=>rfl
 | true=>rw [List.all_eq_true.1 hh _ (List.getElem_mem h)] at hf; cases hf
theorem Qts {α:Type} (sep:Str) (f:α→Str):∀ (l:List α) (i:Nat) (v:α),jo sep f i (l++[v])=jo sep f i l++((if i+l.length=0 then [] else sep)++f v)
 | [],i,v=>by simp [jo]
 | w::l,i,v=>by
  rw [List.cons_append]
  simp only [jo,Qts sep f l (i+1) v,List.append_assoc,List.length_cons]
  rw [show i+1+l.length=i+(l.length+1) by omega]
theorem QfQ {α:Type} {sep:Str} {f:α→Str} {l:List α} {i:Nat} (h:i < l.length):jo sep f 0 (l.take (i+1))=jo sep f 0 (l.take i)++((if i=0 then [] else sep)++f l[i]):=by
 rw [List.take_add_one,List.getElem?_eq_getElem h,Option.toList_some,Qts,List.length_take,Nat.min_eq_left (by omega)]; simp
theorem Qhf {α:Type} {sep:Str} {f:α→Str} (l:List α) (i:Nat):(jo sep f 0 (l.take i)).length≤(jo sep f 0 l).length:=by
 have:∀ (a b:List α) (k:Nat),(jo sep f k a).length≤(jo sep f k (a++b)).length:=by
  intro a
  induction a with
  | nil=>intro b k; simp [jo]
  | cons x a ih=>intro b k; have:=ih b (k+1); simp only [List.cons_append,jo,List.length_append]; omega
 have:=this (l.take i) (l.drop i) 0
 rwa [List.take_append_drop] at this
/-- over A, of which b is not, the writer b holds bs -/
abbrev tyW:TypeId:=87
structure Ww (A B:Heap) (b:Nat) (bs:Str):Prop where
 le:A.le B
 nb:A b=none
 bl:IsB tyW tyE B b bs
theorem Ww.up {A B D:Heap} {b:Nat} {bs:Str} (h:Ww A B b bs) (hle:B.le D):Ww A D b bs:=⟨h.le.trans hle,h.nb,h.bl.le hle⟩
theorem Ww.down {A A2 B:Heap} {b:Nat} {bs:Str} (h:Ww A2 B b bs) (hle:A.le A2):Ww A B b bs:=⟨hle.trans h.le,hle.none h.nb,h.bl⟩
/-- all but the writer is kept -/
theorem Ww.full {A B:Heap} {b:Nat} {bs:Str} (h:Ww A B b bs):Ww (B.del b) B b bs∧A.le (B.del b):=
 ⟨⟨Heap.del_le _ _,Heap.del_same _ _,h.bl⟩,fun c e hc=>by
  have:c≠b:=fun e'=>by rw [e',h.nb] at hc; cases hc
  rw [Heap.del_ne _ this]; exact h.le c e hc⟩
theorem Ww.byte {C:Ctx} {A B:Heap} {b:Nat} {bs:Str} {c:UInt8} {i:Int} {K:Value→Heap→Prop} (h:Ww A B b bs) (hi:i=(c.toNat:Int)) (hl:bs.length+1≤140737488355328) (k:∀ D,Ww A D b (bs++[c])→K .nilIface D):Qo C (some (b,0)) i K B:=by
 subst hi
 exact QjM h.bl liB87 hl (k _ ⟨h.le.put _ _ h.nb,h.nb,IsB.put⟩)
theorem Ww.str {C:Ctx} {A B:Heap} {b:Nat} {bs s:Str} {K:Int→Value→Heap→Prop} (h:Ww A B b bs) (hl:bs.length+s.length≤140737488355328) (k:∀ D,Ww A D b (bs++s)→K (s.length:Int) .nilIface D):Qj C (some (b,0)) s K B:=
 QkQ h.bl liB87 hl (k _ ⟨h.le.put _ _ h.nb,h.nb,IsB.put⟩)
section
variable {C:Ctx} {H:Heap} {α:Type}
variable {β:Type} {R:α→β→Prop} {c:β→List Value} {zc:List Value} {z:Nat} {A B:Heap} {s:Sl} {l:List α} {e:Value} {d:α→Nat} {ok:α→Bool} {f:α→Str} {sep t:Str} {b:Nat}
abbrev HeD (C:Ctx) (A:Heap) {α β:Type} (R:α→β→Prop) (c:β→List Value) (l:List α) (e:Value) (d:α→Nat):Prop:=∀ v ∈ l,∀ (x:β) (D:Heap) (Φ:Int→Heap→Prop),A.le D→R v x→Φ (d v) D→callU Tryz.prog C e [.agg (c x).toArray] D (fun v H31=>∃ r30:Int,v=.int .i64 r30∧Φ r30 H31)
abbrev HeB (C:Ctx) (A:Heap) {α β:Type} (R:α→β→Prop) (c:β→List Value) (l:List α) (e:Value) (ok:α→Bool):Prop:=∀ v ∈ l,∀ (x:β) (D:Heap) (Φ:Bool→Heap→Prop),A.le D→R v x→Φ (ok v) D→callU Tryz.prog C e [.agg (c x).toArray] D (fun v H31=>∃ r30:Bool,v=.bool r30∧Φ r30 H31)
abbrev HeW (C:Ctx) (A:Heap) (b:Nat) {α β:Type} (R:α→β→Prop) (c:β→List Value) (l:List α) (e:Value) (f:α→Str):Prop:=∀ v ∈ l,∀ (x:β) (D:Heap) (u:Str) (Φ:Heap→Prop),Ww A D b u→R v x→u.length+(f v).length≤140737488355328→(∀ D2,Ww A D2 b (u++f v)→Φ D2)→callU Tryz.prog C e [.agg (c x).toArray] D (fun v H31=>v=.tuple #[]∧Φ H31)
theorem dpG {K:Int→Heap→Prop} (hz:∀ x,(c x).length=z) (hz0:0 < z) (hzc:zc.length=z) (hs:SlIs R c A s l) (hA:A.le H) (he:HeD C A R c l e d) (k:∀ D,H.le D→K (mxL d l) D) :
 lp (α:=Int×Int) (0,0) H (fun x1 J2 H3=>ift (decide ((x1.2:Int) < (Sl.len s:Int))) (ixa s x1.2 fun p5=>ldT H3 c (p5.1,p5.2+(x1.2:Int).toNat*z) fun x10=>nw zc (fun b12 H13=>stT (b12,0) (c x10) (fun H14=>ldT H14 c (b12,0) fun x15=>callU Tryz.prog C e [.agg (c x15).toArray] H14 (fun v H18=>∃ (r17:Int),v=.int .i64 r17∧J2 ((if r17 > x1.1 then r17 else x1.1:Int),(w .i64 (x1.2+1))) H18)) H13) H3) (K x1.1 H3)):=by
 have hlen:=SlIs.len hs
 have hbd:=SlIs.bd hs
 refine ⟨fun y D=>H.le D∧∃ i:Nat,y=(((mxL d (l.take i):Nat):Int),(i:Int))∧i≤l.length,fun y _=>l.length - y.2.toNat,⟨Heap.le.refl _,0,rfl,Nat.zero_le _⟩,?_⟩
 rintro _ D ⟨hD,i,rfl,hi⟩
 rw [hlen]
 refine ift.of (fun h=>?_) (fun h=>?_)
 ·have hlt : i < l.length := by have := of_decide_eq_true h; dsimp only at this; omega
  refine SlIs.ld hs (hA.trans hD) hz hz0 rfl hlt fun x hx=>?_
  intro b n13
  refine nwT (by rw [hz,hzc]) ?_
  have l13:=Heap.le_put n13 (g:=.row (c x)) (m:=true)
  refine bxT (c:=c) (Heap.put_same ..) (he _ (List.getElem_mem hlt) x _ _ ((hA.trans hD).trans l13) hx ?_)
  dsimp only
  rw [Q0 (by omega) (by omega)]
  refine ⟨⟨hD.trans l13,i+1,?_,by omega⟩,by first | omega | (dsimp only; omega)⟩
  rw [Qes hlt]
  refine Prod.ext ?_ (by dsimp only; omega)
  dsimp only
  split <;> omega
 ·have hie : i = l.length := by have := of_decide_eq_false h; dsimp only at this; omega
  subst hie
  rw [List.take_length]
  exact k D hD
theorem alG {K : Int → Heap → Prop} {F : Value} {b1 : Nat} (hz : ∀ x, (c x).length = z) (hz0 : 0 < z) (n1 : H b1 = none) (hF : ∀ (x : β) (D : Heap) (Φ : Bool → Heap → Prop), nw (c x) (fun b2 H2 => ldV H2 (b1, 0) fun x3 => ldT H2 c (b2, 0) fun x5 => callU Tryz.prog C x3 [.agg (c x5).toArray] H2 (fun v H8 => ∃ (r7 : Bool), v = .bool r7 ∧ Φ (!r7) H8)) D → callU Tryz.prog C F [.agg (c x).toArray] D (fun v H13 => ∃ (r12 : Bool), v = .bool r12 ∧ Φ r12 H13))
 (hs:SlIs R c A s l) (hA:A.le H) (he:HeB C A R c l e ok) (k:∀ D r,H.le D→(decide (r ≥ 0)=!l.all ok)→K r D) :
 lp (α:=Int) 0 (H.put b1 (.row [e])) (fun x1 J2 H3=>ift (decide ((x1:Int) < (Sl.len s:Int))) (ixa s x1 fun p5=>ldT H3 c (p5.1,p5.2+(x1:Int).toNat*z) fun x10=>callU Tryz.prog C F [.agg (c x10).toArray] H3 (fun v H13=>∃ (r12:Bool),v=.bool r12∧ift r12 (K x1 H13) (J2 (w .i64 (x1+1)) H13))) (K (-1) H3)):=by
 have l1:=Heap.le_put n1 (g:=.row [e]) (m:=true)
 have c1:(H.put b1 (.row [e])) b1=some (true,.row [e]):=Heap.put_same ..
 generalize H.put b1 (.row [e])=H1 at *
 have hlen:=SlIs.len hs
 have hbd:=SlIs.bd hs
 refine ⟨fun y D=>H1.le D∧∃ i:Nat,y=(i:Int)∧i≤l.length∧(l.take i).all ok=true,fun y _=>l.length - y.toNat,⟨Heap.le.refl _,0,rfl,Nat.zero_le _,rfl⟩,?_⟩
 rintro _ D ⟨hD,i,rfl,hi,hall⟩
 rw [hlen]
 refine ift.of (fun h=>?_) (fun h=>?_)
 ·have hlt : i < l.length := by have := of_decide_eq_true h; omega
  refine SlIs.ld hs (hA.trans (l1.trans hD)) hz hz0 rfl hlt fun x hx=>hF _ _ _ ?_
  intro b2 n2
  have l2:=Heap.le_put n2 (g:=.row (c x)) (m:=true)
  refine ⟨e,by rw [Qd9 (l2 _ _ (hD _ _ c1))]; rfl,bxT (c:=c) (Heap.put_same ..) (he _ (List.getElem_mem hlt) x _ _ ((hA.trans (l1.trans hD)).trans l2) hx ?_)⟩
  refine ift.of (fun hb=>?_) (fun hb=>?_)
  ·have hf : ok l[i] = false := by simpa using hb
   exact k _ _ (l1.trans (hD.trans l2)) (by rw [allNo hlt hf]; exact decide_eq_true (by omega))
  ·have hf : ok l[i] = true := by simpa using hb
   rw [Q0 (by omega) (by omega)]
   exact ⟨⟨hD.trans l2,i+1,by omega,by omega,by rw [allTake hlt,hall,hf]; rfl⟩,by first | omega | (dsimp only; omega)⟩
 ·have hie : i = l.length := by have := of_decide_eq_false h; omega
  subst hie
  rw [List.take_length] at hall
  exact k _ _ (l1.trans hD) (by rw [hall]; rfl)
theorem lsG {K:Heap→Prop} (hz:∀ x,(c x).length=z) (hz0:0 < z) (hzc:zc.length=z) (hs:SlIs R c A s l) (hW:Ww A B b t) (he:HeW C A b R c l e f) (hl:t.length+(jo sep f 0 l).length≤140737488355328) (k:∀ D,Ww A D b (t++jo sep f 0 l)→K D) :
 lp (α:=Int) 0 B (fun x1 J2 H3=>ift (decide ((x1:Int) < (Sl.len s:Int))) (ixa s x1 fun p5=>ldT H3 c (p5.1,p5.2+(x1:Int).toNat*z) fun x10=>nw zc (fun b12 H13=>stT (b12,0) (c x10) (fun H14=>jn (α:=Unit) (fun x16 H17=>ldT H17 c (b12,0) fun x25=>callU Tryz.prog C e [.agg (c x25).toArray] H17 (fun v H27=>v=.tuple #[]∧J2 (w .i64 (x1+1)) H27)) (fun J15=>ift (decide ((x1:Int) > 0)) (nck (some (b,0)) fun p20=>Qj C (some (p20.1,p20.2+0)) sep (fun r22 r23 H24=>J15 () H24) H14) (J15 () H14))) H13) H3) (K H3)):=by
 have hlen:=SlIs.len hs
 have hbd:=SlIs.bd hs
 refine ⟨fun y D=>∃ i:Nat,y=(i:Int)∧i≤l.length∧Ww A D b (t++jo sep f 0 (l.take i)),fun y _=>l.length - y.toNat,⟨0,rfl,Nat.zero_le _,by simpa [jo] using hW⟩,?_⟩
 rintro _ D ⟨i,rfl,hi,hD⟩
 rw [hlen]
 refine ift.of (fun h=>?_) (fun h=>?_)
 ·have hlt : i < l.length := by have := of_decide_eq_true h; omega
  have hp:=Qhf (sep:=sep) (f:=f) l (i+1)
  rw [QfQ hlt] at hp
  simp only [List.length_append] at hp
  refine SlIs.ld hs hD.le hz hz0 rfl hlt fun x hx=>?_
  intro b13 n13
  refine nwT (by rw [hz,hzc]) ?_
  have l13:=Heap.le_put n13 (g:=.row (c x)) (m:=true)
  have c13:(D.put b13 (.row (c x))) b13=some (true,.row (c x)):=Heap.put_same ..
  have hD2:=hD.up l13
  generalize D.put b13 (.row (c x))=D2 at *
  obtain ⟨hF,hAF⟩:=hD2.full
  have hbb:b13≠b:=fun e'=>by
   obtain ⟨g,hg⟩:=hD.bl.some
   rw [← e',n13] at hg; cases hg
  refine ⟨fun _ E=>Ww (D2.del b) E b (t++jo sep f 0 (l.take i)++(if i=0 then [] else sep)),?_,?_⟩
  ·refine ift.of (fun hp0 => ?_) (fun hp0 => ?_)
   ·have hi0 : i ≠ 0 := by have := of_decide_eq_true hp0; omega
    rw [if_neg hi0] at hp ⊢
    refine ⟨_,rfl,hF.str (by simp only [List.length_append]; omega) fun E hE=>hE⟩
   ·have hi0 : i = 0 := by have := of_decide_eq_false hp0; omega
    rw [if_pos hi0,List.append_nil]; exact hF
  ·rintro _ E hE
   have hc:E b13=some (true,.row (c x)):=hE.le _ _ (by rw [Heap.del_ne _ hbb]; exact c13)
   refine bxT (c:=c) hc (he _ (List.getElem_mem hlt) x E _ _ (hE.down hAF) hx (by simp only [List.length_append]; omega) fun D3 h3=>?_)
   rw [Q0 (by omega) (by omega)]
   refine ⟨⟨i+1,by omega,by omega,?_⟩,by first | omega | (dsimp only; omega)⟩
   rw [QfQ hlt]
   simpa using h3
 ·have hie : i = l.length := by have := of_decide_eq_false h; omega
  subst hie
  rw [List.take_length] at hD
  exact k D hD
theorem Qs0 {R:α→Qn→Prop} {K:Bool→Heap→Prop} (hs:SlIs R Qn.c A s l) (hA:A.le H) (he:HeB C A R Qn.c l e ok) (k:K (l.all ok) H) (h1c:Value.cells e = #[e]:=by exact rfl):Qam C s e K H:=by
 apply Qam.gh
 apply Qjs
 unfold QfI
 refine ⟨h1c,fun b1 n1=>?_⟩
 apply QcR
 unfold QaS
 apply QdD
 unfold Qbj
 exact alG (K:=fun r H2=>∃ H0,Gh C H2 H0∧K (!decide (r ≥ 0)) H0) Qic (by omega) n1 (fun x D Φ h=>⟨131,[],[pv (some (b1,0))],rfl,Qik,QhZ C x (b1,0) Φ D h⟩) hs hA he fun D r hD hr=>⟨H,Gh.le hD,by rw [hr,Bool.not_not]; exact k⟩
theorem QtA {R:α→Qn→Prop} {K:Heap→Prop} (hs:SlIs R Qn.c A s l) (hW:Ww A B b t) (he:HeW C A b R Qn.c l e f) (hl:t.length+(jo sep f 0 l).length≤140737488355328) (k:∀ D,Ww A D b (t++jo sep f 0 l)→K D):QdG C (some (b,0)) s sep e K B:=by
 apply QiP
 unfold QfC
 refine lsG (K:=K) Qic (by omega) ?_ hs hW he hl k
 rfl
theorem Qsy {R:α→Qf→Prop} {K:Int→Heap→Prop} (hs:SlIs R Qf.c A s l) (hA:A.le H) (he:HeD C A R Qf.c l e d) (k:K (mxL d l) H):QX C s e K H:=by
 apply QX.gh
 apply QgH
 unfold Qed
 refine dpG (K:=fun r H2=>∃ H0,Gh C H2 H0∧K r H0) Qca (by omega) ?_ hs hA he fun D hD=>⟨H,Gh.le hD,k⟩
 rfl
theorem Qsv {R:α→Qf→Prop} {K:Bool→Heap→Prop} (hs:SlIs R Qf.c A s l) (hA:A.le H) (he:HeB C A R Qf.c l e ok) (k:K (l.all ok) H) (h1c:Value.cells e = #[e]:=by exact rfl):Qah C s e K H:=by
 apply Qah.gh
 apply QiN
 unfold QfA
 refine ⟨h1c,fun b1 n1=>?_⟩
 apply QcD
 unfold QaE
 apply Qc5
 unfold Qa7
 exact alG (K:=fun r H2=>∃ H0,Gh C H2 H0∧K (!decide (r ≥ 0)) H0) Qca (by omega) n1 (fun x D Φ h=>⟨133,[],[pv (some (b1,0))],rfl,QhO,Qhy C x (b1,0) Φ D h⟩) hs hA he fun D r hD hr=>⟨H,Gh.le hD,by rw [hr,Bool.not_not]; exact k⟩
theorem QsD {R:α→Qf→Prop} {K:Heap→Prop} (hs:SlIs R Qf.c A s l) (hW:Ww A B b t) (he:HeW C A b R Qf.c l e f) (hl:t.length+(jo sep f 0 l).length≤140737488355328) (k:∀ D,Ww A D b (t++jo sep f 0 l)→K D):Qdf C (some (b,0)) s sep e K B:=by
 apply Qh6
 unfold Qfc
 refine lsG (K:=K) Qca (by omega) ?_ hs hW he hl k
 rfl
theorem Qtf {R:α→Qi→Prop} {K:Int→Heap→Prop} (hs:SlIs R Qi.c A s l) (hA:A.le H) (he:HeD C A R Qi.c l e d) (k:K (mxL d l) H):Q1 C s e K H:=by
 apply Q1.gh
 apply Qg5
 unfold Qev
 refine dpG (K:=fun r H2=>∃ H0,Gh C H2 H0∧K r H0) QdC (by omega) ?_ hs hA he fun D hD=>⟨H,Gh.le hD,k⟩
 rfl
theorem Qs1 {R:α→Qi→Prop} {K:Bool→Heap→Prop} (hs:SlIs R Qi.c A s l) (hA:A.le H) (he:HeB C A R Qi.c l e ok) (k:K (l.all ok) H) (h1c:Value.cells e = #[e]:=by exact rfl):Qan C s e K H:=by
 apply Qan.gh
 apply Qjt
 unfold QfJ
 refine ⟨h1c,fun b1 n1=>?_⟩
 apply QcS
 unfold QaT
 apply QdE
 unfold Qbk
 exact alG (K:=fun r H2=>∃ H0,Gh C H2 H0∧K (!decide (r ≥ 0)) H0) QdC (by omega) n1 (fun x D Φ h=>⟨139,[],[pv (some (b1,0))],rfl,Qil,Qh0 C x (b1,0) Φ D h⟩) hs hA he fun D r hD hr=>⟨H,Gh.le hD,by rw [hr,Bool.not_not]; exact k⟩
theorem QtB {R:α→Qi→Prop} {K:Heap→Prop} (hs:SlIs R Qi.c A s l) (hW:Ww A B b t) (he:HeW C A b R Qi.c l e f) (hl:t.length+(jo sep f 0 l).length≤140737488355328) (k:∀ D,Ww A D b (t++jo sep f 0 l)→K D):QdH C (some (b,0)) s sep e K B:=by
 apply QiQ
 unfold QfD
 refine lsG (K:=K) QdC (by omega) ?_ hs hW he hl k
 rfl
theorem Qvs {R:α→Qk→Prop} {K:Int→Heap→Prop} (hs:SlIs R Qk.c A s l) (hA:A.le H) (he:HeD C A R Qk.c l e d) (k:K (mxL d l) H):Q8 C s e K H:=by
 apply Q8.gh
 apply Qh2
 unfold Qe8
 refine dpG (K:=fun r H2=>∃ H0,Gh C H2 H0∧K r H0) Qer (by omega) ?_ hs hA he fun D hD=>⟨H,Gh.le hD,k⟩
 rfl
theorem Qs2 {R:α→Qk→Prop} {K:Bool→Heap→Prop} (hs:SlIs R Qk.c A s l) (hA:A.le H) (he:HeB C A R Qk.c l e ok) (k:K (l.all ok) H) (h1c:Value.cells e = #[e]:=by exact rfl):Qao C s e K H:=by
 apply Qao.gh
 apply QkE
 unfold Qgn
 refine ⟨h1c,fun b1 n1=>?_⟩
 apply QdU
 unfold Qbv
 apply Qey
 unfold QbS
 exact alG (K:=fun r H2=>∃ H0,Gh C H2 H0∧K (!decide (r ≥ 0)) H0) Qer (by omega) n1 (fun x D Φ h=>⟨144,[],[pv (some (b1,0))],rfl,QjE,Qju C x (b1,0) Φ D h⟩) hs hA he fun D r hD hr=>⟨H,Gh.le hD,by rw [hr,Bool.not_not]; exact k⟩
theorem QvA {R:α→Qk→Prop} {K:Heap→Prop} (hs:SlIs R Qk.c A s l) (hW:Ww A B b t) (he:HeW C A b R Qk.c l e f) (hl:t.length+(jo sep f 0 l).length≤140737488355328) (k:∀ D,Ww A D b (t++jo sep f 0 l)→K D):QeC C (some (b,0)) s sep e K B:=by
 apply QjR
 unfold Qf5
 refine lsG (K:=K) Qer (by omega) ?_ hs hW he hl k
 rfl
theorem Qus {R:α→Ql→Prop} {K:Int→Heap→Prop} (hs:SlIs R Ql.c A s l) (hA:A.le H) (he:HeD C A R Ql.c l e d) (k:K (mxL d l) H):Q3 C s e K H:=by
 apply Q3.gh
 apply QhA
 unfold QeS
 refine dpG (K:=fun r H2=>∃ H0,Gh C H2 H0∧K r H0) Qdm (by omega) ?_ hs hA he fun D hD=>⟨H,Gh.le hD,k⟩
 rfl
theorem Qr7 {R:α→Ql→Prop} {K:Bool→Heap→Prop} (hs:SlIs R Ql.c A s l) (hA:A.le H) (he:HeB C A R Ql.c l e ok) (k:K (l.all ok) H) (h1c:Value.cells e = #[e]:=by exact rfl):Qae C s e K H:=by
 apply Qae.gh
 apply QjQ
 unfold Qf4
 refine ⟨h1c,fun b1 n1=>?_⟩
 apply Qdj
 unfold Qbf
 apply Qd0
 unfold QbD
 exact alG (K:=fun r H2=>∃ H0,Gh C H2 H0∧K (!decide (r ≥ 0)) H0) Qdm (by omega) n1 (fun x D Φ h=>⟨149,[],[pv (some (b1,0))],rfl,Qi5,QiM C x (b1,0) Φ D h⟩) hs hA he fun D r hD hr=>⟨H,Gh.le hD,by rw [hr,Bool.not_not]; exact k⟩
theorem QuB {R:α→Ql→Prop} {K:Heap→Prop} (hs:SlIs R Ql.c A s l) (hW:Ww A B b t) (he:HeW C A b R Ql.c l e f) (hl:t.length+(jo sep f 0 l).length≤140737488355328) (k:∀ D,Ww A D b (t++jo sep f 0 l)→K D):Qd5 C (some (b,0)) s sep e K B:=by
 apply Qjw
 unfold QfK
 refine lsG (K:=K) Qdm (by omega) ?_ hs hW he hl k
 rfl
theorem Qsx {R:α→Qc→Prop} {K:Int→Heap→Prop} (hs:SlIs R Qc.c A s l) (hA:A.le H) (he:HeD C A R Qc.c l e d) (k:K (mxL d l) H):QG C s e K H:=by
 apply QG.gh
 apply QgG
 unfold Qec
 refine dpG (K:=fun r H2=>∃ H0,Gh C H2 H0∧K r H0) Qcx (by omega) ?_ hs hA he fun D hD=>⟨H,Gh.le hD,k⟩
 rfl
theorem Qsu {R:α→Qc→Prop} {K:Bool→Heap→Prop} (hs:SlIs R Qc.c A s l) (hA:A.le H) (he:HeB C A R Qc.c l e ok) (k:K (l.all ok) H) (h1c:Value.cells e = #[e]:=by exact rfl):QT C s e K H:=by
 apply QT.gh
 apply QiL
 unfold Qfz
 refine ⟨h1c,fun b1 n1=>?_⟩
 apply QcC
 unfold QaD
 apply Qc4
 unfold Qa6
 exact alG (K:=fun r H2=>∃ H0,Gh C H2 H0∧K (!decide (r ≥ 0)) H0) Qcx (by omega) n1 (fun x D Φ h=>⟨151,[],[pv (some (b1,0))],rfl,QhN,Qhx C x (b1,0) Φ D h⟩) hs hA he fun D r hD hr=>⟨H,Gh.le hD,by rw [hr,Bool.not_not]; exact k⟩
theorem QsC {R:α→Qc→Prop} {K:Heap→Prop} (hs:SlIs R Qc.c A s l) (hW:Ww A B b t) (he:HeW C A b R Qc.c l e f) (hl:t.length+(jo sep f 0 l).length≤140737488355328) (k:∀ D,Ww A D b (t++jo sep f 0 l)→K D):Qa2 C (some (b,0)) s sep e K B:=by
 apply Qh5
 unfold Qfb
 refine lsG (K:=K) Qcx (by omega) ?_ hs hW he hl k
 rfl
theorem QrR {R:α→Qd→Prop} {K:Int→Heap→Prop} (hs:SlIs R Qd.c A s l) (hA:A.le H) (he:HeD C A R Qd.c l e d) (k:K (mxL d l) H):QE C s e K H:=by
 apply QE.gh
 apply Qgw
 unfold QdS
 refine dpG (K:=fun r H2=>∃ H0,Gh C H2 H0∧K r H0) Qav (by omega) ?_ hs hA he fun D hD=>⟨H,Gh.le hD,k⟩
 rfl
theorem QrM {R:α→Qd→Prop} {K:Bool→Heap→Prop} (hs:SlIs R Qd.c A s l) (hA:A.le H) (he:HeB C A R Qd.c l e ok) (k:K (l.all ok) H) (h1c:Value.cells e = #[e]:=by exact rfl):Q6 C s e K H:=by
 apply Q6.gh
 apply QhY
 unfold Qe6
 refine ⟨h1c,fun b1 n1=>?_⟩
 apply Qch
 unfold Qaw
 apply QcH
 unfold QaP
 exact alG (K:=fun r H2=>∃ H0,Gh C H2 H0∧K (!decide (r ≥ 0)) H0) Qav (by omega) n1 (fun x D Φ h=>⟨192,[],[pv (some (b1,0))],rfl,Qg9,Qg4 C x (b1,0) Φ D h⟩) hs hA he fun D r hD hr=>⟨H,Gh.le hD,by rw [hr,Bool.not_not]; exact k⟩
theorem QrV {R:α→Qd→Prop} {K:Heap→Prop} (hs:SlIs R Qd.c A s l) (hW:Ww A B b t) (he:HeW C A b R Qd.c l e f) (hl:t.length+(jo sep f 0 l).length≤140737488355328) (k:∀ D,Ww A D b (t++jo sep f 0 l)→K D):QcN C (some (b,0)) s sep e K B:=by
 apply QhB
 unfold QeT
 refine lsG (K:=K) Qav (by omega) ?_ hs hW he hl k
 rfl
theorem QrN {R:α→Qd→Prop} {K:Heap→Prop} (hs:SlIs R Qd.c A s l) (hW:Ww A B b t) (he:HeW C A b R Qd.c l e f) (hl:t.length+(jo [44,32] f 0 l).length+2≤140737488355328) (k:∀ D,Ww A D b (t++40::(jo [44,32] f 0 l++[41]))→K D):Qai C (some (b,0)) s e K B:=by
 apply Qgc
 unfold Qdt
 refine ⟨_,rfl,hW.byte (c:=40) rfl (by omega) fun D1 h1=>?_⟩
 refine QrV hs h1 he (by simp only [List.length_append,List.length_singleton]; omega) fun D2 h2=>?_
 refine ⟨_,rfl,h2.byte (c:=41) rfl (by simp only [List.length_append,List.length_singleton]; omega) fun D3 h3=>k D3 (by simpa using h3)⟩
theorem Qsw {R:α→Qh→Prop} {K:Int→Heap→Prop} (hs:SlIs R Qh.c A s l) (hA:A.le H) (he:HeD C A R Qh.c l e d) (k:K (mxL d l) H):QW C s e K H:=by
 apply QW.gh
 apply QgF
 unfold Qeb
 refine dpG (K:=fun r H2=>∃ H0,Gh C H2 H0∧K r H0) Qb9 (by omega) ?_ hs hA he fun D hD=>⟨H,Gh.le hD,k⟩
 rfl
theorem Qst {R:α→Qh→Prop} {K:Bool→Heap→Prop} (hs:SlIs R Qh.c A s l) (hA:A.le H) (he:HeB C A R Qh.c l e ok) (k:K (l.all ok) H) (h1c:Value.cells e = #[e]:=by exact rfl):Qag C s e K H:=by
 apply Qag.gh
 apply QiK
 unfold Qfy
 refine ⟨h1c,fun b1 n1=>?_⟩
 apply QcB
 unfold QaC
 apply Qc3
 unfold Qa5
 exact alG (K:=fun r H2=>∃ H0,Gh C H2 H0∧K (!decide (r ≥ 0)) H0) Qb9 (by omega) n1 (fun x D Φ h=>⟨189,[],[pv (some (b1,0))],rfl,QhM,Qhw C x (b1,0) Φ D h⟩) hs hA he fun D r hD hr=>⟨H,Gh.le hD,by rw [hr,Bool.not_not]; exact k⟩
theorem QsB {R:α→Qh→Prop} {K:Heap→Prop} (hs:SlIs R Qh.c A s l) (hW:Ww A B b t) (he:HeW C A b R Qh.c l e f) (hl:t.length+(jo sep f 0 l).length≤140737488355328) (k:∀ D,Ww A D b (t++jo sep f 0 l)→K D):Qde C (some (b,0)) s sep e K B:=by
 apply Qh4
 unfold Qfa
 refine lsG (K:=K) Qb9 (by omega) ?_ hs hW he hl k
 rfl
theorem Qvt {R:α→Qe→Prop} {K:Int→Heap→Prop} (hs:SlIs R Qe.c A s l) (hA:A.le H) (he:HeD C A R Qe.c l e d) (k:K (mxL d l) H):Q9 C s e K H:=by
 apply Q9.gh
 apply Qh3
 unfold Qe9
 refine dpG (K:=fun r H2=>∃ H0,Gh C H2 H0∧K r H0) QgB (by omega) ?_ hs hA he fun D hD=>⟨H,Gh.le hD,k⟩
 rfl
theorem Qvk {R:α→Qe→Prop} {K:Bool→Heap→Prop} (hs:SlIs R Qe.c A s l) (hA:A.le H) (he:HeB C A R Qe.c l e ok) (k:K (l.all ok) H) (h1c:Value.cells e = #[e]:=by exact rfl):Q7 C s e K H:=by
 apply Q7.gh
 apply QkF
 unfold Qgo
 refine ⟨h1c,fun b1 n1=>?_⟩
 apply QdV
 unfold Qbw
 apply Qez
 unfold QbT
 exact alG (K:=fun r H2=>∃ H0,Gh C H2 H0∧K (!decide (r ≥ 0)) H0) QgB (by omega) n1 (fun x D Φ h=>⟨225,[],[pv (some (b1,0))],rfl,QjF,Qjv C x (b1,0) Φ D h⟩) hs hA he fun D r hD hr=>⟨H,Gh.le hD,by rw [hr,Bool.not_not]; exact k⟩
theorem QvB {R:α→Qe→Prop} {K:Heap→Prop} (hs:SlIs R Qe.c A s l) (hW:Ww A B b t) (he:HeW C A b R Qe.c l e f) (hl:t.length+(jo sep f 0 l).length≤140737488355328) (k:∀ D,Ww A D b (t++jo sep f 0 l)→K D):QeD C (some (b,0)) s sep e K B:=by
 apply QjS
 unfold Qf6
 refine lsG (K:=K) QgB (by omega) ?_ hs hW he hl k
 rfl
theorem Qvn {R:α→Qe→Prop} {K:Heap→Prop} (hs:SlIs R Qe.c A s l) (hW:Ww A B b t) (he:HeW C A b R Qe.c l e f) (hl:t.length+(jo [44,32] f 0 l).length+2≤140737488355328) (k:∀ D,Ww A D b (t++40::(jo [44,32] f 0 l++[41]))→K D):QcK C (some (b,0)) s e K B:=by
 apply Qhz
 unfold QeR
 refine ⟨_,rfl,hW.byte (c:=40) rfl (by omega) fun D1 h1=>?_⟩
 refine QvB hs h1 he (by simp only [List.length_append,List.length_singleton]; omega) fun D2 h2=>?_
 refine ⟨_,rfl,h2.byte (c:=41) rfl (by simp only [List.length_append,List.length_singleton]; omega) fun D3 h3=>k D3 (by simpa using h3)⟩
theorem Qte {R:α→Qa→Prop} {K:Int→Heap→Prop} (hs:SlIs R Qa.c A s l) (hA:A.le H) (he:HeD C A R Qa.c l e d) (k:K (mxL d l) H):QJ C s e K H:=by
 apply QJ.gh
 apply Qh1
 unfold Qe7
 refine dpG (K:=fun r H2=>∃ H0,Gh C H2 H0∧K r H0) QN (by omega) ?_ hs hA he fun D hD=>⟨H,Gh.le hD,k⟩
 rfl
theorem QrL {R:α→Qa→Prop} {K:Bool→Heap→Prop} (hs:SlIs R Qa.c A s l) (hA:A.le H) (he:HeB C A R Qa.c l e ok) (k:K (l.all ok) H) (h1c:Value.cells e = #[e]:=by exact rfl):QO C s e K H:=by
 apply QO.gh
 apply QkD
 unfold Qgm
 refine ⟨h1c,fun b1 n1=>?_⟩
 apply QdT
 unfold Qbu
 apply Qex
 unfold QbR
 exact alG (K:=fun r H2=>∃ H0,Gh C H2 H0∧K (!decide (r ≥ 0)) H0) QN (by omega) n1 (fun x D Φ h=>⟨197,[],[pv (some (b1,0))],rfl,QjB,Qjr C x (b1,0) Φ D h⟩) hs hA he fun D r hD hr=>⟨H,Gh.le hD,by rw [hr,Bool.not_not]; exact k⟩
theorem Qtz {R:α→Qa→Prop} {K:Heap→Prop} (hs:SlIs R Qa.c A s l) (hW:Ww A B b t) (he:HeW C A b R Qa.c l e f) (hl:t.length+(jo sep f 0 l).length≤140737488355328) (k:∀ D,Ww A D b (t++jo sep f 0 l)→K D):Qa8 C (some (b,0)) s sep e K B:=by
 apply QfW
 unfold Qee
 refine lsG (K:=K) QN (by omega) ?_ hs hW he hl k
 rfl
theorem Qvm {R:α→Qa→Prop} {K:Heap→Prop} (hs:SlIs R Qa.c A s l) (hW:Ww A B b t) (he:HeW C A b R Qa.c l e f) (hl:t.length+(jo [44,32] f 0 l).length+2≤140737488355328) (k:∀ D,Ww A D b (t++40::(jo [44,32] f 0 l++[41]))→K D):QF C (some (b,0)) s e K B:=by
 apply QeK
 unfold Qcy
 refine ⟨_,rfl,hW.byte (c:=40) rfl (by omega) fun D1 h1=>?_⟩
 refine Qtz hs h1 he (by simp only [List.length_append,List.length_singleton]; omega) fun D2 h2=>?_
 refine ⟨_,rfl,h2.byte (c:=41) rfl (by simp only [List.length_append,List.length_singleton]; omega) fun D3 h3=>k D3 (by simpa using h3)⟩
end
section
variable {C:Ctx} {H:Heap}
theorem QqX {A:Heap} {s:Sl} {l:List Str} {e:Value} {ok:Str→Bool} {K:Bool→Heap→Prop} (hs:StL A s l) (hA:A.le H)
 (he:∀ v ∈ l,∀ (D:Heap) (Φ:Bool→Heap→Prop),A.le D→v.length≤140737488355328→Φ (ok v) D→callU Tryz.prog C e [sv v] D (fun v H31=>∃ r30:Bool,v=.bool r30∧Φ r30 H31))
 (k:K (l.all ok) H) (h1c:Value.cells e = #[e]:=by exact rfl):QaO C s e K H:=by
 apply QaO.gh
 apply Ql4
 unfold Qhp
 refine ⟨h1c,?_⟩
 intro b1 n1
 have l1:=Heap.le_put n1 (g:=.row [e]) (m:=true)
 have c1:(H.put b1 (.row [e])) b1=some (true,.row [e]):=Heap.put_same ..
 generalize H.put b1 (.row [e])=H1 at *
 apply QeJ
 unfold Qb4
 apply Qfk
 unfold Qcu
 have hlen:=SlIs.len hs
 have hbd:=SlIs.bd hs
 refine ⟨fun y D=>H1.le D∧∃ i:Nat,y=(i:Int)∧i≤l.length∧(l.take i).all ok=true,fun y _=>l.length - y.toNat,⟨Heap.le.refl _,0,rfl,Nat.zero_le _,rfl⟩,?_⟩
 rintro _ D ⟨hD,i,rfl,hi,hall⟩
 rw [hlen]
 refine ift.of (fun h=>?_) (fun h=>?_)
 ·have hlt : i < l.length := by have := of_decide_eq_true h; omega
  refine SlIs.at_ hs (hA.trans (l1.trans hD)) (z:=1) (fun _=>rfl) (by omega) rfl hlt fun p y hy hr=>⟨y,hr 0 _ rfl,?_⟩
  rw [hy.1]
  have key:∀ Φ:Bool→Heap→Prop,(∀ D2,D.le D2→Φ (!ok l[i]) D2)→callU Tryz.prog C (.func (.func 186) (List.toArray []) (List.toArray [pv (some (b1,0))])) [sv l[i]] D (fun v H31=>∃ r30:Bool,v=.bool r30∧Φ r30 H31):=fun Φ hΦ=>by
   refine ⟨186,[],[pv (some (b1,0))],rfl,QkM,?_⟩
   show QgM C l[i] (b1,0) Φ D
   apply QkG
   unfold Qgp
   refine ⟨e,by rw [Qd9 (hD _ _ c1)]; rfl,he _ (List.getElem_mem hlt) _ _ (hA.trans (l1.trans hD)) hy.2 ?_⟩
   exact hΦ _ (Heap.le.refl _)
  refine key _ fun D2 hD2=>?_
  refine ift.of (fun hb=>?_) (fun hb=>?_)
  ·have hf : ok l[i] = false := by simpa using hb
   rw [allNo hlt hf] at k
   have e0:decide ((i:Int) ≥ 0)=true:=decide_eq_true (by omega)
   dsimp only
   rw [e0]
   exact ⟨H,Gh.le (l1.trans (hD.trans hD2)),k⟩
  ·have hf : ok l[i] = true := by simpa using hb
   rw [Q0 (by omega) (by omega)]
   exact ⟨⟨hD.trans hD2,i+1,by omega,by omega,by rw [allTake hlt,hall,hf]; rfl⟩,by first | omega | (dsimp only; omega)⟩
 ·have hie : i = l.length := by have := of_decide_eq_false h; omega
  subst hie
  rw [List.take_length] at hall
  rw [hall] at k
  exact ⟨H,Gh.le (l1.trans hD),k⟩
theorem Qs9 {A B:Heap} {s:Sl} {l:List Str} {e:Value} {t:Str} {b:Nat} {K:Heap→Prop} (hs:StL A s l) (hW:Ww A B b t)
 (he:∀ v ∈ l,∀ (D:Heap) (u:Str) (Φ:Heap→Prop),Ww A D b u→u.length+v.length≤140737488355328→(∀ D2,Ww A D2 b (u++v)→Φ D2)→callU Tryz.prog C e [sv v] D (fun v H31=>v=.tuple #[]∧Φ H31))
 (hl:t.length+(jo [44,32] id 0 l).length+2≤140737488355328) (k:∀ D,Ww A D b (t++40::(jo [44,32] id 0 l++[41]))→K D):QdF C (some (b,0)) s e K B:=by
 apply QiO
 unfold QfB
 refine ⟨_,rfl,hW.byte (c:=40) rfl (by omega) fun D1 h1=>?_⟩
 apply QlJ
 unfold QgY
 have hlen:=SlIs.len hs
 have hbd:=SlIs.bd hs
 refine ⟨fun y D=>∃ i:Nat,y=(i:Int)∧i≤l.length∧Ww A D b (t++[40]++jo [44,32] id 0 (l.take i)),fun y _=>l.length - y.toNat,⟨0,rfl,Nat.zero_le _,by simpa [jo] using h1⟩,?_⟩
 rintro _ D ⟨i,rfl,hi,hD⟩
 rw [hlen]
 refine ift.of (fun h=>?_) (fun h=>?_)
 ·have hlt : i < l.length := by have := of_decide_eq_true h; omega
  have hp:=Qhf (sep:=[44,32]) (f:=(id:Str→Str)) l (i+1)
  rw [QfQ hlt] at hp
  simp only [List.length_append,id_eq] at hp
  refine SlIs.at_ hs hD.le (z:=1) (fun _=>rfl) (by omega) rfl hlt fun p y hy hr=>⟨y,hr 0 _ rfl,?_⟩
  rw [hy.1]
  refine ⟨fun _ E=>Ww A E b (t++[40]++jo [44,32] id 0 (l.take i)++(if i=0 then [] else [44,32])),?_,?_⟩
  ·refine ift.of (fun hp0 => ?_) (fun hp0 => ?_)
   ·have hi0 : i ≠ 0 := by have := of_decide_eq_true hp0; omega
    rw [if_neg hi0] at hp ⊢
    exact ⟨_,rfl,hD.str (by simp only [List.length_append,List.length_cons,List.length_nil] at hp ⊢; omega) fun E hE=>hE⟩
   ·have hi0 : i = 0 := by have := of_decide_eq_false hp0; omega
    rw [if_pos hi0,List.append_nil]; exact hD
  ·rintro _ E hE
   refine he _ (List.getElem_mem hlt) E _ _ hE (by simp only [List.length_append,List.length_cons,List.length_nil] at hp ⊢; omega) fun D3 h3=>?_
   rw [Q0 (by omega) (by omega)]
   refine ⟨⟨i+1,by omega,by omega,?_⟩,by first | omega | (dsimp only; omega)⟩
   rw [QfQ hlt]
   simpa using h3
 ·have hie : i = l.length := by have := of_decide_eq_false h; omega
  subst hie
  rw [List.take_length] at hD
  refine ⟨_,rfl,hD.byte (c:=41) rfl (by simp only [List.length_append,List.length_singleton]; omega) fun D3 h3=>k D3 (by simpa using h3)⟩
/-- several texts, one behind the other -/
theorem QuS {B:Heap} {b b2 n:Nat} {ss:List Str} {t:Str} {cs:List Value} {A:Heap} {K:Heap→Prop} (hW:Ww A B b t) (hc:B b2=some (true,.row cs)) (hs:cs=ss.map sv) (hn:n=ss.length) (hb:n≤100) (hl:t.length+ss.flatten.length≤140737488355328) (k:∀ D,Ww (B.del b) D b (t++ss.flatten)→K D):QH C (some (b,0)) (Sl.of (some (b2,0)) n n) K B:=by
 subst hs; subst hn
 apply QkJ
 unfold Qgs
 obtain ⟨hF,hAF⟩:=hW.full
 obtain ⟨g,hg⟩:=hW.bl.some
 have hbb:b2≠b:=fun e'=>by
  rw [e'] at hc
  rcases hW.bl with h | ⟨_,h⟩
  ·rw [h] at hc; injection hc with hc; injection hc with _ hc; cases hc
  ·rw [h] at hc; injection hc with hc; injection hc with _ hc; cases hc
 have hc2:(B.del b) b2=some (true,.row (ss.map sv)):=by rw [Heap.del_ne _ hbb]; exact hc
 have hpre:∀ i,(ss.take i).flatten.length≤ss.flatten.length:=fun i=>by
  have:=congrArg List.length (congrArg List.flatten (List.take_append_drop i ss))
  rw [List.flatten_append,List.length_append] at this; omega
 refine ⟨fun y D=>∃ i:Nat,y=(i:Int)∧i≤ss.length∧Ww (B.del b) D b (t++(ss.take i).flatten),fun y _=>ss.length - y.toNat,⟨0,rfl,Nat.zero_le _,by simpa using hF⟩,?_⟩
 rintro _ D ⟨i,rfl,hi,hD⟩
 refine ift.of (fun h=>?_) (fun h=>?_)
 ·have hlt : i < ss.length := by have := of_decide_eq_true h; simp only [Sl.of] at this; omega
  have hstep:(ss.take (i+1)).flatten=(ss.take i).flatten++ss[i]:=by rw [List.take_add_one,List.getElem?_eq_getElem hlt,Option.toList_some,List.flatten_append]; simp
  have hp:=hpre (i+1)
  rw [hstep,List.length_append] at hp
  refine ⟨(b2,0),rfl,rfl,by omega,by simp only [Sl.of]; omega,ss[i],?_,?_⟩
  ·show rd D (b2,0+(i:Int).toNat*1)=_
   rw [Qd9 (hD.le _ _ hc2),show 0+(i:Int).toNat*1=i by omega,List.getElem?_map,List.getElem?_eq_getElem hlt]; rfl
  ·refine ⟨_, rfl, hD.str (by simp only [List.length_append]; omega) fun E hE => ?_⟩
   rw [Q0 (by omega) (by omega)]
   refine ⟨⟨i+1,by omega,by omega,?_⟩,by first | omega | (dsimp only; omega)⟩
   rw [hstep,← List.append_assoc]; exact hE
 ·have hie : i = ss.length := by have := of_decide_eq_false h; simp only [Sl.of] at this; omega
  subst hie
  rw [List.take_length] at hD
  exact k D hD
end
end
section
open Go Go.Proofs
theorem jp {P:Prop} {R:Bool→Heap→Prop} {body:(Bool→Heap→Prop)→Prop} (H0:Heap) (h1:body (fun b E=>E=H0∧(b=true↔P))) (h2:∀ b,(b=true↔P)→R b H0):jn (α:=Bool) R body:=⟨fun b E=>E=H0∧(b=true↔P),h1,by rintro b _ ⟨rfl,h⟩; exact h2 b h⟩
theorem jv {R:Bool→Heap→Prop} {body:(Bool→Heap→Prop)→Prop} (v:Bool) (H0:Heap) (h1:body (fun b E=>E=H0∧b=v)) (h2:R v H0):jn (α:=Bool) R body:=⟨fun b E=>E=H0∧b=v,h1,by rintro _ _ ⟨rfl,rfl⟩; exact h2⟩
theorem jw {R:Bool→Heap→Prop} {body:(Bool→Heap→Prop)→Prop} (v:Bool) (H0:Heap) (h1:body (fun b E=>H0.le E∧b=v)) (h2:∀ E,H0.le E→R v E):jn (α:=Bool) R body:=⟨fun b E=>H0.le E∧b=v,h1,by rintro _ _ ⟨h,rfl⟩; exact h2 _ h⟩
theorem ja {R:Bool→Heap→Prop} {x:Bool} (y:Bool) (H0:Heap) {A:(Bool→Heap→Prop)→Prop} (h:x=true→A (fun b E=>E=H0∧b=y)) (k:R (x && y) H0):jn (α:=Bool) R (fun J=>ift x (A J) (J false H0)):=
 ⟨fun b E=>E=H0∧b=(x && y),ift.of (fun hx=>by cases hx; exact h rfl) (fun hx=>⟨rfl,by rw [hx]; rfl⟩),by rintro _ _ ⟨rfl,rfl⟩; exact k⟩
theorem jo' {R:Bool→Heap→Prop} {x:Bool} (y:Bool) (H0:Heap) {A:(Bool→Heap→Prop)→Prop} (h:x=false→A (fun b E=>E=H0∧b=y)) (k:R (x || y) H0):jn (α:=Bool) R (fun J=>ift x (J true H0) (A J)):=
 ⟨fun b E=>E=H0∧b=(x || y),ift.of (fun hx=>⟨rfl,by rw [hx]; rfl⟩) (fun hx=>by cases hx; exact h rfl),by rintro _ _ ⟨rfl,rfl⟩; exact k⟩
theorem ix0 {s:Str} {K:UInt8→Prop} (h:s≠[]) (k:K (s.headD 0)):ixs s 0 K:=by
 cases s with
 | nil=>exact absurd rfl h
 | cons c t=>exact ⟨c,by omega,rfl,k⟩
theorem QgN (s:Str):(s == ([]:Str))=s.isEmpty:=by cases s <;> rfl
theorem Qrx {x:Qd} (i:Nat) (u:Value) (hi:(Qe.c x.Type_)[i]? = some u):(Qd.c x)[1+i]? = some u:=by
 match i,hi with
 | 0,hi=>exact hi
 | 1,hi=>exact hi
 | i+2,hi=>simp [Qe.c] at hi
theorem QsN {x:Qa} (i:Nat) (u:Value) (hi:(Qb.c x.Value_)[i]? = some u):(Qa.c x)[4+i]? = some u:=by
 match i,hi with
 | 0,hi=>exact hi
 | 1,hi=>exact hi
 | 2,hi=>exact hi
 | 3,hi=>exact hi
 | i+4,hi=>simp [Qb.c] at hi
theorem Qt2 (v:TyV):tyD v=mxL tyD v.a+1:=by
 obtain ⟨n,a⟩:=v
 have:∀ l,tysD l=mxL tyD l:=fun l=>by
  induction l with
  | nil=>rfl
  | cons v l ih=>simp only [tysD,mxL,ih]
 simp only [tyD,TyV.a,this]
theorem QlS (l:List ExV):exsD l=mxL exD l:=by
 induction l with
 | nil=>rfl
 | cons v l ih=>simp only [exsD,mxL,ih]
theorem Qtj (v:ExV):exD v=mxL exD v.a+1:=by
 obtain ⟨k,n,u,a⟩:=v
 simp only [exD,ExV.a,QlS]
section
variable {C:Ctx} {H A:Heap}
theorem box1 {cx:List Value} {K:Nat→Heap→Prop} (k:∀ b1 H2,H.le H2→H2 b1=some (true,.row cx)→K b1 H2):nw cx K H:=fun b n=>k b _ (Heap.le_put n) (Heap.put_same ..)
theorem fB0 {b:Nat} {m:Bool} {t:Bool} {K:Bool→Prop} (h:H b=some (m,.row [.bool t])) (k:K t):ldB H (b,0) K:=⟨t,by rw [Qd9 h]; rfl,k⟩
theorem Qry:∀ (v:TyV) {x:Qe} {H:Heap} {K:Int→Heap→Prop},TyIs A v x→A.le H→tyD v≤4611686018427387904→K (tyD v:Nat) H→QbO C x K H:=by
 refine TyV.rec_ fun v ih x H K hx hA hb k=>?_
 have hx':=Qc2.1 hx
 apply QbO.gh
 apply Qm5
 unfold QiI
 rw [Qt2] at hb k
 refine box1 fun b1 H2 hle h1=>fL h1 rfl ?_
 refine Qvt hx'.2 (hA.trans hle) (d:=tyD) (fun w hw x D Φ hD hR hΦ=>cu Qir (ih w hw hR hD (by have:=Qeu (f:=tyD) hw; omega) hΦ)) ?_
 rw [Q0 (by omega) (by omega)]
 have e:(1+(mxL tyD v.a:Nat):Int)=((mxL tyD v.a+1:Nat):Int):=by omega
 rw [e]; exact ⟨H,Gh.le hle,k⟩
theorem Qur:∀ (v:ExV) {x:Qa} {H:Heap} {K:Int→Heap→Prop},ExIs A v x→A.le H→exD v≤4611686018427387904→K (exD v:Nat) H→Qe2 C x K H:=by
 refine ExV.rec_ fun v ih x H K hx hA hb k=>?_
 have hx':=Qay.1 hx
 apply Qe2.gh
 apply Qqj
 unfold QmN
 rw [Qtj] at hb k
 refine box1 fun b1 H2 hle h1=>fL h1 rfl ?_
 refine Qte hx'.2.2.2.2 (hA.trans hle) (d:=exD) (fun w hw x D Φ hD hR hΦ=>cu Qmq (ih w hw hR hD (by have:=Qeu (f:=exD) hw; omega) hΦ)) ?_
 rw [Q0 (by omega) (by omega)]
 have e:(1+(mxL exD v.a:Nat):Int)=((mxL exD v.a+1:Nat):Int):=by omega
 rw [e]; exact ⟨H,Gh.le hle,k⟩
theorem Qok {l:List ExV} {s:Sl} {K:Int→Heap→Prop} (hs:ExL A s l) (hA:A.le H) (hb:exsD l≤4611686018427387904) (k:K (exsD l:Nat) H):QJ C s (.func (.func 91) (List.toArray []) (List.toArray []):Value) K H:=by
 rw [QlS] at k hb
 exact Qte hs hA (d:=exD) (fun w hw x D Φ hD hR hΦ=>cu Qmq (Qur w hR hD (by have:=Qeu (f:=exD) hw; omega) hΦ)) k
theorem Qqt {v:FdV} {x:Qd} {K:Int→Heap→Prop} (hx:FdIs A v x) (hA:A.le H) (hb:tyD v.t≤4611686018427387904) (k:K (tyD v.t:Nat) H):Qb5 C x K H:=by
 apply Qb5.gh
 apply Ql5
 unfold Qhq
 exact box1 fun b1 H2 hle h1=>fT h1 Qrx (Qry v.t hx.2 (hA.trans hle) hb ⟨H,Gh.le hle,k⟩)
theorem QkW {l:List FdV} {s:Sl} {K:Int→Heap→Prop} (hs:FdL A s l) (hA:A.le H) (hb:fdsD l≤4611686018427387904) (k:K (fdsD l:Nat) H):QE C s (.func (.func 118) (List.toArray []) (List.toArray []):Value) K H:=
 QrR hs hA (d:=fun f:FdV=>tyD f.t) (fun w hw x D Φ hD hR hΦ=>cu Qmr (Qqt hR hD (by have:=Qeu (f:=fun f:FdV=>tyD f.t) hw; unfold fdsD at hb; omega) hΦ)) k
theorem Qor {v:LiV} {x:Qc} {K:Int→Heap→Prop} (hx:LiIs A v x) (hA:A.le H) (hb:liD v≤4611686018427387904) (k:K (liD v:Nat) H):Qbo C x K H:=by
 apply Qbo.gh
 apply QkH
 unfold Qgq
 exact box1 fun b1 H2 hle h1=>fL h1 rfl (Qok hx.2.2 (hA.trans hle) hb ⟨H,Gh.le hle,k⟩)
theorem Qoq {l:List LiV} {s:Sl} {K:Int→Heap→Prop} (hs:LiL A s l) (hA:A.le H) (hb:lisD l≤4611686018427387904) (k:K (lisD l:Nat) H):QG C s (.func (.func 125) (List.toArray []) (List.toArray []):Value) K H:=
 Qsx hs hA (d:=liD) (fun w hw x D Φ hD hR hΦ=>cu QkN (Qor hR hD (by have:=Qeu (f:=liD) hw; unfold lisD at hb; omega) hΦ)) k
theorem Qtd {v:CnV} {x:Qh} {K:Int→Heap→Prop} (hx:CnIs A v x) (hA:A.le H) (hb:fdsD v.f≤4611686018427387904) (k:K (fdsD v.f:Nat) H):QcL C x K H:=by
 apply QcL.gh
 apply QnH
 unfold Qjl
 exact box1 fun b1 H2 hle h1=>fL h1 rfl (QkW hx.2 (hA.trans hle) hb ⟨H,Gh.le hle,k⟩)
theorem Qun {v:TdV} {x:Qf} {K:Int→Heap→Prop} (hx:TdIs A v x) (hA:A.le H) (hb:tdD v≤4611686018427387904) (k:K (tdD v:Nat) H):Qel C x K H:=by
 apply Qel.gh
 apply Qpf
 unfold Qlv
 exact box1 fun b1 H2 hle h1=>fL h1 rfl (Qsw hx.2.2.2 (hA.trans hle) (d:=fun c:CnV=>fdsD c.f) (fun w hw x D Φ hD hR hΦ=>cu QnP (Qtd hR hD (by have:=Qeu (f:=fun c:CnV=>fdsD c.f) hw; unfold tdD at hb; omega) hΦ)) ⟨H,Gh.le hle,k⟩)
theorem Quo {v:RdV} {x:Qi} {K:Int→Heap→Prop} (hx:RdIs A v x) (hA:A.le H) (hb:fdsD v.f≤4611686018427387904) (k:K (fdsD v.f:Nat) H):Qem C x K H:=by
 apply Qem.gh
 apply Qpg
 unfold Qlw
 exact box1 fun b1 H2 hle h1=>fL h1 rfl (QkW hx.2.2.2 (hA.trans hle) hb ⟨H,Gh.le hle,k⟩)
theorem ifmax (a b:Nat):(if ((b:Nat):Int) > ((a:Nat):Int) then ((b:Nat):Int) else ((a:Nat):Int))=((max a b:Nat):Int):=by split <;> omega
theorem Qup {v:RuV} {x:Qk} {K:Int→Heap→Prop} (hx:RuIs A v x) (hA:A.le H) (hb:ruD v≤4611686018427387904) (k:K (ruD v:Nat) H):Qen C x K H:=by
 apply Qen.gh
 apply Qph
 unfold Qlx
 unfold ruD at hb
 refine box1 fun b1 H2 hle h1=>⟨H2,Heap.le.refl _,fL h1 rfl (fL h1 rfl ?_)⟩
 refine Qok hx.2.1 (hA.trans hle) (by omega) ⟨Heap.le.refl _,Qoq hx.2.2.2 (hA.trans hle) (by omega) ⟨Heap.le.refl _,?_⟩⟩
 dsimp only
 rw [ifmax]; exact ⟨H,Gh.le hle,k⟩
theorem Quq {v:NeV} {x:Ql} {K:Int→Heap→Prop} (hx:NeIs A v x) (hA:A.le H) (hb:lisD v.b≤4611686018427387904) (k:K (lisD v.b:Nat) H):Qeo C x K H:=by
 apply Qeo.gh
 apply Qpi
 unfold Qly
 exact box1 fun b1 H2 hle h1=>fL h1 rfl (Qoq hx.2 (hA.trans hle) hb ⟨H,Gh.le hle,k⟩)
theorem Qvr {v:MoV} {x:Qg} {K:Int→Heap→Prop} (hx:MoIs A v x) (hA:A.le H) (hb:moD v≤4611686018427387904) (k:K (moD v:Nat) H):QeX C x K H:=by
 apply QeX.gh
 apply QqO
 unfold Qnu
 unfold moD at hb k
 refine box1 fun b1 H2 hle h1=>⟨H2,Heap.le.refl _,fL h1 rfl (fL h1 rfl (fL h1 rfl (fL h1 rfl ?_)))⟩
 have hA2:=hA.trans hle
 refine Qsy hx.2.2.1 hA2 (d:=tdD) (fun w hw x D Φ hD hR hΦ=>cu QpA (Qun hR hD (by have:=Qeu (f:=tdD) hw; omega) hΦ)) ⟨Heap.le.refl _,?_⟩
 refine Qtf hx.2.2.2.1 hA2 (d:=fun r:RdV=>fdsD r.f) (fun w hw x D Φ hD hR hΦ=>cu QpB (Quo hR hD (by have:=Qeu (f:=fun r:RdV=>fdsD r.f) hw; omega) hΦ)) ⟨Heap.le.refl _,?_⟩
 refine Qvs hx.2.2.2.2.1 hA2 (d:=ruD) (fun w hw x D Φ hD hR hΦ=>cu QpC (Qup hR hD (by have:=Qeu (f:=ruD) hw; omega) hΦ)) ⟨Heap.le.refl _,?_⟩
 refine Qus hx.2.2.2.2.2 hA2 (d:=fun n:NeV=>lisD n.b) (fun w hw x D Φ hD hR hΦ=>cu QpD (Quq hR hD (by have:=Qeu (f:=fun n:NeV=>lisD n.b) hw; omega) hΦ)) ⟨Heap.le.refl _,?_⟩
 have e:max4 ((mxL tdD v.ty:Nat):Int) ((mxL (fun r:RdV=>fdsD r.f) v.re:Nat):Int) ((mxL ruD v.ru:Nat):Int) ((mxL (fun n:NeV=>lisD n.b) v.ne:Nat):Int)=((max (max (mxL tdD v.ty) (mxL (fun r:RdV=>fdsD r.f) v.re)) (max (mxL ruD v.ru) (mxL (fun n:NeV=>lisD n.b) v.ne)):Nat):Int):=by unfold max4; omega
 rw [e]; exact ⟨H,Gh.le hle,k⟩
theorem QtR {s:Str} {K:Bool→Heap→Prop} (hs:s.length≤140737488355328) (k:K (s.all nameC && decide (s.length≤32)) H):QiY C s K H:=by
 apply QqT
 unfold Qnz
 refine ⟨fun x D=>D=H∧∃ i:Nat,x=(i:Int)∧i≤s.length∧(s.take i).all nameC=true,fun x _=>s.length - x.toNat,⟨rfl,0,rfl,Nat.zero_le _,rfl⟩,?_⟩
 rintro _ D ⟨rfl,i,rfl,hi,ha⟩
 refine ift.of (fun h=>?_) (fun h=>?_)
 ·have hlt : i < s.length := by have := of_decide_eq_true h; omega
  refine ⟨s[i],by omega,getE hlt,?_⟩
  dsimp only
  have hm:=List.getElem_mem hlt
  have hat:=QnT (p:=nameC) hlt
  generalize s[i]=c at *
  have e:((((decide ((c.toNat:Int) ≥ 97)) && (decide ((c.toNat:Int)≤122))) || ((decide ((c.toNat:Int) ≥ 65)) && (decide ((c.toNat:Int)≤90)))) || ((decide ((c.toNat:Int) ≥ 48)) && (decide ((c.toNat:Int)≤57)))  || ((c.toNat:Int) == 95))=nameC c:=by
   unfold nameC lowC
   have h1:decide ((c.toNat:Int) ≥ 65)=decide (65≤c.toNat):=by rw [decide_eq_decide]; omega
   have h2:decide ((c.toNat:Int)≤90)=decide (c.toNat≤90):=by rw [decide_eq_decide]; omega
   have h3:decide ((c.toNat:Int) ≥ 48)=decide (48≤c.toNat):=by rw [decide_eq_decide]; omega
   have h4:decide ((c.toNat:Int)≤57)=decide (c.toNat≤57):=by rw [decide_eq_decide]; omega
   have h5:((c.toNat:Int) == 95)=decide (c.toNat=95):=by
    rw [Bool.eq_iff_iff]; simp only [beq_iff_eq,decide_eq_true_eq]; omega
   have h6:decide ((c.toNat:Int) ≥ 97)=decide (97≤c.toNat):=by rw [decide_eq_decide]; omega
   have h7:decide ((c.toNat:Int)≤122)=decide (c.toNat≤122):=by rw [decide_eq_decide]; omega
   rw [h1,h2,h3,h4,h5,h6,h7]
  rw [e]
  refine ift.of (fun h=>?_) (fun h=>?_)
  ·rw [Qr8 hm (by simpa using h)] at k; exact k
  ·rw [Q0 (by omega) (by omega)]
   refine ⟨⟨rfl,i+1,by omega,by omega,?_⟩,by first | omega | (dsimp only; omega)⟩
   rw [hat,ha]; simpa using h
 ·have hie : i = s.length := by have := of_decide_eq_false h; omega
  rw [hie,List.take_length] at ha
  rw [ha] at k
  have e:decide ((s.length:Int)≤32)=decide (s.length≤32):=by rw [decide_eq_decide]; omega
  rw [e]; exact k
theorem QvU {s:Str} {p:Bool} (h:((!(s == ([]:Str))) && p)=true):s≠[]:=fun e=>by rw [e] at h; simp at h
theorem Qge {s t:Str} {K:Bool→Heap→Prop} (hT:MaxC C) (ht:Nm t s) (k:K (namS s) H):Qbp C t K H:=by
 obtain ⟨rfl,hs⟩:=ht
 apply QqS
 unfold Qny
 refine ja (decide (97≤(t.headD 0).toNat)) H (fun h=>ix0 (fun e=>by rw [e] at h; simp at h) ⟨rfl,by rw [decide_eq_decide]; omega⟩) ?_
 refine ja (decide ((t.headD 0).toNat≤122)) H (fun h=>ix0 (QvU h) ⟨rfl,by rw [decide_eq_decide]; omega⟩) ?_
 refine ja (t.all nameC && decide (t.length≤32)) H (fun h=>QtR hs ⟨rfl,rfl⟩) ?_
 refine ja (!resW.contains t) H (fun h=>?_) ?_
 ·simp only [Bool.and_eq_true,decide_eq_true_eq] at h
  have h32:=h.2.2
  refine ⟨by simp [catOk]; omega,by simp [catOk]; omega,?_⟩
  rw [← Qvl]
  have hbl:(blk resW).length < 4294967281:=by decide
  refine QpL hT hbl ?_
  rw [Qv3 h.2.1]; exact ⟨rfl,rfl⟩
 have e:(((((!(t == ([]:Str))) && decide (97≤(t.headD 0).toNat)) && decide ((t.headD 0).toNat≤122)) && (t.all nameC && decide (t.length≤32))) && !resW.contains t)=namS t:=by
  unfold namS nameS lowC
  rw [QgN,Bool.eq_iff_iff]
  simp only [Bool.and_eq_true]
  constructor
  ·rintro ⟨⟨⟨⟨a,b⟩,c⟩,d,e⟩,f⟩; exact ⟨⟨⟨⟨a,e⟩,b,c⟩,d⟩,f⟩
  ·rintro ⟨⟨⟨⟨a,e⟩,b,c⟩,d⟩,f⟩; exact ⟨⟨⟨⟨a,b⟩,c⟩,d,e⟩,f⟩
 rw [e]; exact k
theorem Qqu {s t:Str} {K:Bool→Heap→Prop} (hT:MaxC C) (ht:Nm t s) (k:K (longS s) H):QfN C t K H:=by
 obtain ⟨rfl,hs⟩:=ht
 apply QqR
 unfold Qnx
 refine Qq0 hs ?_
 unfold longS at k
 cases hc:cutD t with
 | none=>
  rw [hc] at k
  refine Qge hT ⟨rfl,hs⟩ ?_
  refine ja true H (fun h=>jo' true H (fun h=>(nomatch h)) ⟨rfl,rfl⟩) ?_
  rw [Bool.and_true]; exact k
 | some p=>
  obtain ⟨a,b⟩:=p
  rw [hc] at k
  have hl:=Qsb hc
  refine Qge hT ⟨rfl,by omega⟩ ?_
  exact ja (namS b) H (fun h=>jo' (namS b) H (fun h=>Qge hT ⟨rfl,by omega⟩ ⟨rfl,rfl⟩) ⟨rfl,rfl⟩) k
theorem QoS {s t:Str} {K:Bool→Heap→Prop} (ht:Nm t s) (k:K (varS s) H):Qfn C t K H:=by
 obtain ⟨rfl,hs⟩:=ht
 apply QnM
 unfold Qjq
 refine ja (decide (65≤(t.headD 0).toNat)) H (fun h=>ix0 (fun e=>by rw [e] at h; simp at h) ⟨rfl,by rw [decide_eq_decide]; omega⟩) ?_
 refine ja (decide ((t.headD 0).toNat≤90)) H (fun h=>ix0 (QvU h) ⟨rfl,by rw [decide_eq_decide]; omega⟩) ?_
 refine ja (t.all nameC && decide (t.length≤32)) H (fun h=>QtR hs ⟨rfl,rfl⟩) ?_
 have e:((((!(t == ([]:Str))) && decide (65≤(t.headD 0).toNat)) && decide ((t.headD 0).toNat≤90)) && (t.all nameC && decide (t.length≤32)))=varS t:=by
  unfold varS upC
  rw [QgN,Bool.eq_iff_iff]
  simp only [Bool.and_eq_true]
  constructor
  ·rintro ⟨⟨⟨a,b⟩,c⟩,d,e⟩; exact ⟨⟨⟨a,e⟩,b,c⟩,d⟩
  ·rintro ⟨⟨⟨a,e⟩,b,c⟩,d⟩; exact ⟨⟨⟨a,b⟩,c⟩,d,e⟩
 rw [e]; exact k
theorem Qsh {s t:Str} {K:Bool→Heap→Prop} (hT:MaxC C) (ht:Nm t s) (k:K (parS s) H):QjZ C t K H:=by
 obtain ⟨rfl,hs⟩:=ht
 apply Qqk
 unfold QmO
 apply QkC
 unfold Qgl
 refine Qnl ?_
 refine ja (namS (t.drop 1)) H (fun h=>?_) ?_
 ·have hl : 1 ≤ t.length := by have := (List.isPrefixOf_iff_prefix.1 h).length_le; simpa using this
  refine ⟨by omega,by omega,by omega,t.drop 1,by simp,Qge hT ⟨rfl,by simp; omega⟩ ⟨rfl,rfl⟩⟩
 have e:(([39]:Str).isPrefixOf t && namS (t.drop 1))=parS t:=by
  cases t with
  | nil=>rfl
  | cons c t=>
   simp only [List.isPrefixOf,parS,List.drop_succ_cons,List.drop_zero,Bool.and_true]
   rw [show ((39:UInt8) == c)=decide (c=39) by rw [Bool.eq_iff_iff,beq_iff_eq,decide_eq_true_eq]; exact eq_comm]
 rw [e]; exact k
theorem Qom {s:Str} {K:Bool→Heap→Prop} (k:K (funB s) H):Qfm C s K H:=by
 apply QnJ
 unfold Qjn
 have e:((((s == ([110,101,103]:Str)) || (s == ([108,101,110]:Str))) || (s == ([98,105,103]:Str))) || (s == ([105,110,116]:Str)))=funB s:=by
  unfold funB negS lenS bigS intS
  rw [Bool.eq_iff_iff]; simp only [Bool.or_eq_true,beq_iff_eq,decide_eq_true_eq,or_assoc]
 rw [e]; exact k
end
end
section
open Go Go.Proofs
/-- the table: how many arguments -/
def arL (k:Str):Option Int:=if opsW.contains k then some 2 else if k=intS then some 1 else if k=bigS then some 1 else if k=lenS then some 1 else if k=negS then some 1 else if k=notS then some 1 else none
theorem QvT (k:Str):arL k=if arS k=0 then none else some (arS k:Nat):=by
 unfold arL arS
 by_cases h:opsW.contains k=true
 ·rw [if_pos h,if_pos h]; rfl
 rw [if_neg h,if_neg h]
 unfold funB
 by_cases h1:k=intS
 ·rw [if_pos h1]; subst h1; rfl
 rw [if_neg h1]
 by_cases h2:k=bigS
 ·rw [if_pos h2]; subst h2; rfl
 rw [if_neg h2]
 by_cases h3:k=lenS
 ·rw [if_pos h3]; subst h3; rfl
 rw [if_neg h3]
 by_cases h4:k=negS
 ·rw [if_pos h4]; subst h4; rfl
 rw [if_neg h4]
 by_cases h5:k=notS
 ·rw [if_pos h5]; subst h5; rfl
 rw [if_neg h5]
 have:¬ (k=notS∨decide (k=negS∨k=lenS∨k=bigS∨k=intS)=true):=by
  rintro (h | h)
  ·exact h5 h
  ·rcases of_decide_eq_true h with h | h | h | h
   ·exact h4 h
   ·exact h3 h
   ·exact h2 h
   ·exact h1 h
 rw [if_neg this]; rfl
theorem QrA:∀ l,tysOk l=l.all tyOk
 | []=>rfl
 | v::l=>by simp only [tysOk,List.all_cons,QrA l]
theorem Qdl (p:Bool):∀ l,exsOk p l=l.all (exOk p)
 | []=>rfl
 | v::l=>by simp only [exsOk,List.all_cons,Qdl p l]
theorem Qr1 (v:TyV):tyOk v=(tyN v.n v.a.length && v.a.all tyOk):=by obtain ⟨n,a⟩:=v; simp only [tyOk,QrA,TyV.n,TyV.a]
theorem Qm7 (p:Bool) (v:ExV):exOk p v=if v.k=1 then litV v.v && decide (v.a.length=0) && v.n.isEmpty else exN p v.k v.n v.a.length && noV v.v && v.a.all (exOk p):=by obtain ⟨k,n,u,a⟩:=v; simp only [exOk,Qdl,ExV.n,ExV.a,ExV.k,ExV.v]; rfl
theorem lenI {n m:Nat}:(((n:Nat):Int) == (m:Int))=decide (n=m):=by rw [Bool.eq_iff_iff,beq_iff_eq,decide_eq_true_eq]; omega
theorem lenN {n m:Nat}:(((n:Nat):Int) != (m:Int))=decide (n≠m):=by rw [Bool.eq_iff_iff,bne_iff_ne,decide_eq_true_eq]; omega
theorem lenL {n m:Nat}:decide (((n:Nat):Int)≤(m:Int))=decide (n≤m):=by rw [decide_eq_decide]; omega
section
variable {C:Ctx} {H A:Heap}
theorem QpY {H D : Heap} {b : Nat} {l : List (Str × Int)} {f : Str → Option Int} {k : Str} {x : Int} {K : Heap → Prop} (nb : H b = none) (hle : H.le D) (hm : MapS sv (fun x : Int => (.int .i64 x : Value)) D b l) (hf : ∀ k2, lkL k2 l = f k2)
 (kk:∀ D2 l2,H.le D2→MapS sv (fun x:Int=>(.int .i64 x:Value)) D2 b l2→(∀ k2,lkL k2 l2=if k2=k then some x else f k2)→(∀ c,c≠b→D2 c=D c)→K D2):upS sv (fun x:Int=>(.int .i64 x:Value)) (some b) k x K D:=
 ⟨b,l,rfl,hm,fun g l2 hm2 hk _=>kk _ _ (hle.put _ _ nb) hm2 (fun k2=>by rw [hk,hf]) (fun c hc=>Heap.put_ne _ _ _ hc)⟩
theorem Qug {K:Option Nat→Heap→Prop} (k:∀ (b:Nat) (D:Heap) (l:List (Str×Int)),H.le D→MapIs sv (fun x:Int=>(.int .i64 x:Value)) D b l→(∀ k2,lkL k2 l=arL k2)→K (some b) D):QjY C K H:=by
 apply Qqi
 unfold QmM
 intro b nb
 refine QpY nb ((Heap.le.refl H).put _ _ nb) MapS.new (f:=fun _=>none) (fun _=>rfl) fun D1 l1 h1 m1 f1 _=>?_
 refine QpY nb h1 m1 f1 fun D2 l2 h2 m2 f2 _=>?_
 refine QpY nb h2 m2 f2 fun D3 l3 h3 m3 f3 _=>?_
 refine QpY nb h3 m3 f3 fun D4 l4 h4 m4 f4 _=>?_
 refine QpY nb h4 m4 f4 fun D5 l5 h5 m5 f5 _=>?_
 intro b8 n8
 have ne:b8≠b:=fun e=>by
  obtain ⟨g,hg⟩:=m5.is.mine
  rw [← e,n8] at hg; cases hg
 have h6:=h5.trans (Heap.le_put n8 (m:=true) (g:=.row (opsW.map sv)))
 have m6:=m5.le (Heap.le_put n8 (m:=true) (g:=.row (opsW.map sv)))
 have c6:(D5.put b8 (.row (opsW.map sv))) b8=some (true,.row (opsW.map sv)):=Heap.put_same ..
 have hol:opsW.length=14:=rfl
 refine ⟨fun y D=>∃ (i:Nat) (l:List (Str×Int)),y=(i:Int)∧i≤14∧H.le D∧MapS sv (fun x:Int=>(.int .i64 x:Value)) D b l∧D b8=some (true,.row (opsW.map sv))∧(∀ k2,lkL k2 l=if (opsW.take i).contains k2 then some 2 else lkL k2 l5),fun y _=>14 - y.toNat,⟨0,l5,rfl,by omega,h6,m6,c6,fun k2=>by simp⟩,?_⟩
 rintro _ D ⟨i,l,rfl,hi,hD,hm,hc,hf⟩
 refine ift.of (fun h=>?_) (fun h=>?_)
 ·have hlt : i < 14 := by have := of_decide_eq_true h; simp only [Sl.of] at this; omega
  refine ⟨(b8, 0), rfl, rfl, by omega, by simp only [Sl.of]; omega, opsW[i]'(by omega), ?_, ?_⟩
  ·show rd D (b8,0+(i:Int).toNat*1)=_
   rw [Qd9 hc,show 0+(i:Int).toNat*1=i by omega,List.getElem?_map,List.getElem?_eq_getElem (by omega)]; rfl
  ·refine QpY nb hD hm hf fun D2 l2 h2 m2 f2 o2 => ?_
   rw [Q0 (by omega) (by omega)]
   refine ⟨⟨i+1,l2,by omega,by omega,h2,m2,by rw [o2 _ ne]; exact hc,fun k2=>?_⟩,by first | omega | (dsimp only; omega)⟩
   rw [f2,List.take_add_one,List.getElem?_eq_getElem (by omega:i < opsW.length),Option.toList_some]
   by_cases hk : k2 = opsW[i]'(by omega)
   ·rw [if_pos hk,if_pos (by rw [List.contains_iff_mem,hk]; exact List.mem_append.2 (.inr (List.mem_singleton.2 rfl)))]
   ·rw [if_neg hk]
    have : (opsW.take i ++ [opsW[i]'(by omega)]).contains k2 = (opsW.take i).contains k2 := by
     rw [Bool.eq_iff_iff,List.contains_iff_mem,List.contains_iff_mem,List.mem_append,List.mem_singleton]; exact ⟨fun h=>h.resolve_right hk,.inl⟩
    rw [this]
 ·have hie : i = 14 := by have := of_decide_eq_false h; simp only [Sl.of] at this; omega
  subst hie
  refine k b D l hD hm.is fun k2=>?_
  rw [hf,show opsW.take 14=opsW from rfl,f5]; rfl
theorem QvR {v:V} {x:TV} {K:Bool→Heap→Prop} (hx:VIs A v x) (k:K (noV v) H):QeZ C x K H:=by
 have hx':=Qew.1 hx
 apply QeZ.gh
 apply QqV
 unfold QnB
 refine box1 fun b1 H2 hle h1=>fI h1 rfl ?_
 refine ja (decide (v.n=0)) H2 (fun _=>fI h1 rfl ⟨rfl,by rw [hx'.2.1]; rfl⟩) ?_
 refine ja v.s.isEmpty H2 (fun _=>fS h1 rfl ⟨rfl,by rw [hx'.2.2.1,QgN]⟩) ?_
 refine ja (decide (v.l.length=0)) H2 (fun _=>fL h1 rfl ⟨rfl,by rw [hx'.2.2.2.len]; exact lenI (m:=0)⟩) ?_
 rw [hx'.1]
 have e:((v.k == 0 && decide (v.n=0)) && v.s.isEmpty && decide (v.l.length=0))=noV v:=rfl
 rw [e]; exact ⟨H,Gh.le hle,k⟩
theorem QuW (hT:MaxC C):∀ (v:TyV) {x:Qe} {H:Heap} {K:Bool→Heap→Prop},TyIs A v x→A.le H→K (tyOk v) H→Qd6 C x K H:=by
 refine TyV.rec_ fun v ih x H K hx hA k=>?_
 have hx':=Qc2.1 hx
 have hlen:=hx'.2.len
 apply Qd6.gh
 apply Qql
 unfold QmP
 rw [Qr1] at k
 refine box1 fun b1 H2 hle h1=>fL h1 rfl (fS h1 rfl ?_)
 have hall:∀ {K:Bool→Heap→Prop},K (v.a.all tyOk) H2→Q7 C x.Args (.func (.func 142) (List.toArray []) (List.toArray []):Value) K H2:=fun k=>Qvk hx'.2 (hA.trans hle) (ok:=tyOk) (fun w hw y D Φ hD hR hΦ=>cu Qmt (ih w hw hR hD hΦ)) k
 rw [hlen]
 have e1:=hx'.1.1
 refine jp (P:=v.n=boolS∨v.n=intS∨v.n=bigS∨v.n=textS) H2 ?_ fun b hb=>?_
 ·rw [e1]
  refine ift.of (fun h=>⟨rfl,⟨fun _=>.inl (beq_iff_eq.1 h),fun _=>h⟩⟩) fun h1=>?_
  refine ift.of (fun h=>⟨rfl,⟨fun _=>.inr (.inl (beq_iff_eq.1 h)),fun _=>h⟩⟩) fun h2=>?_
  refine ift.of (fun h=>⟨rfl,⟨fun _=>.inr (.inr (.inl (beq_iff_eq.1 h))),fun _=>h⟩⟩) fun h3=>⟨rfl,⟨fun h=>.inr (.inr (.inr (beq_iff_eq.1 h))),fun h=>?_⟩⟩
  rcases h with h | h | h | h
  ·rw [h] at h1; cases h1
  ·rw [h] at h2; cases h2
  ·rw [h] at h3; cases h3
  ·rw [h]; rfl
 refine ift.of (fun h=>?_) (fun h=>?_)
 ·have hp:=hb.1 h
  have e:(tyN v.n v.a.length && v.a.all tyOk)=(((v.a.length:Nat):Int) == 0):=by
   unfold tyN
   rw [if_pos hp,show (((v.a.length:Nat):Int) == 0)=decide (v.a.length=0) from lenI (m:=0)]
   cases ha:v.a with
   | nil=>rfl
   | cons w l=>simp
  rw [← e]; exact ⟨H,Gh.le hle,k⟩
 have hp:¬ (v.n=boolS∨v.n=intS∨v.n=bigS∨v.n=textS):=fun p=>by rw [hb.2 p] at h; cases h
 unfold tyN at k
 rw [if_neg hp] at k
 refine ift.of (fun h=>?_) (fun h=>?_)
 ·rw [e1] at h
  rw [if_pos (show v.n=tupS from beq_iff_eq.1 h)] at k
  refine ja (v.a.all tyOk) H2 (fun _=>fL h1 rfl (hall ⟨rfl,rfl⟩)) ?_
  rw [show (((v.a.length:Nat):Int) != 1)=decide (v.a.length≠1) from lenN (m:=1),show decide (((v.a.length:Nat):Int)≤16)=decide (v.a.length≤16) from lenL (m:=16)]
  exact ⟨H,Gh.le hle,k⟩
 ·rw [e1] at h
  rw [if_neg (fun e:v.n=tupS=>by rw [e] at h; exact absurd h (by decide))] at k
  refine fS h1 rfl (Qsh hT hx'.1 ?_)
  rw [show (((v.a.length:Nat):Int) == 0)=decide (v.a.length=0) from lenI (m:=0),show decide (((v.a.length:Nat):Int)≤8)=decide (v.a.length≤8) from lenL (m:=8)]
  refine jo' ((longS v.n && decide (v.a.length≤8)) && v.a.all tyOk) H2 (fun _=>fS h1 rfl (Qqu hT hx'.1 ?_)) ?_
  ·exact ja (v.a.all tyOk) H2 (fun _=>fL h1 rfl (hall ⟨rfl,rfl⟩)) ⟨rfl,rfl⟩
  have e:((parS v.n && decide (v.a.length=0)) || ((longS v.n && decide (v.a.length≤8)) && v.a.all tyOk))=((parS v.n && decide (v.a.length=0) || longS v.n && decide (v.a.length≤8)) && v.a.all tyOk):=by
   cases hp:(parS v.n && decide (v.a.length=0)) with
   | false=>simp
   | true=>
    have h0:v.a.length=0:=by simp only [Bool.and_eq_true,decide_eq_true_eq] at hp; exact hp.2
    rw [List.length_eq_zero_iff.1 h0]; simp
  rw [e]; exact ⟨H,Gh.le hle,k⟩
theorem exN2 {p n m}:exN p 2 n m=(varS n && decide (m=0)):=rfl
theorem exN3 {p n m}:exN p 3 n m=(p && n.isEmpty && decide (m=0)):=rfl
theorem exN4 {p n m}:exN p 4 n m=(n.isEmpty && decide (m≠1) && decide (m≤16)):=rfl
theorem exN5 {p n m}:exN p 5 n m=(longS n && decide (m≤8)):=rfl
theorem exN6 {p n m}:exN p 6 n m=(!p && decide (0 < arS n) && decide (m=arS n)):=rfl
theorem exN7 {p n m}:exN p 7 n m=(!p && namS n && decide (m=1)):=rfl
theorem exN8 {p n m}:exN p 8 n m=(!p && n.isEmpty && decide (m=3)):=rfl
theorem Qtq (hT:MaxC C):∀ (v:ExV) {p:Bool} {x:Qa} {H:Heap} {K:Bool→Heap→Prop},ExIs A v x→A.le H→K (exOk p v) H→Qdd C x p K H:=by
 refine ExV.rec_ fun v ih p x H K hx hA k=>?_
 have hx':=Qay.1 hx
 obtain ⟨ek,en,hv,hB,hs⟩:=hx'
 have hlen:=hs.len
 apply Qdd.gh
 apply QqQ
 unfold Qnw
 rw [Qm7] at k
 refine box2 fun b1 b3 H4 hle h1 h3=>fL h1 rfl ?_
 have hA4:=hA.trans hle
 rw [hlen]
 have l0:(((v.a.length:Nat):Int) == 0)=decide (v.a.length=0):=lenI (m:=0)
 rw [l0]
 by_cases hk1:v.k=1
 ·rw [if_pos hk1] at k
  refine ⟨fun _ _=>False,fI h1 rfl (Qcc (by rw [ek,hk1]; rfl) (fI (j:=4) h1 rfl ?_)),fun _ _ h=>h.elim⟩
  refine ja (decide (checkV v.v=0)) H4 (fun h=>fT h1 QsN (QlF (hv.le hA4) hB ⟨rfl,?_⟩)) ?_
  ·rw [Bool.eq_iff_iff,beq_iff_eq,decide_eq_true_eq]
  refine ja v.n.isEmpty H4 (fun h=>fS h1 rfl ⟨rfl,by rw [en.1,QgN]⟩) ?_
  have e:((((decide (x.Value_.Kind ≥ 1)) && (decide (x.Value_.Kind≤4))) && decide (checkV v.v=0)) && decide (v.a.length=0) && v.n.isEmpty)=(litV v.v && decide (v.a.length=0) && v.n.isEmpty):=by
   unfold litV mayV
   rw [(Qew.1 hv).1]
  rw [e]; exact ⟨H,Gh.le hle,k⟩
 rw [if_neg hk1] at k
 refine jw (exN p v.k v.n v.a.length) H4 (fI h1 rfl ?_) fun E hE=>?_
 ·rw [ek]
  have r0:=Heap.le.refl H4
  refine ift.of (fun h=>absurd (by simpa using h) hk1) fun _=>?_
  refine ift.of (fun h=>?_) fun n2=>?_
  ·rw [show v.k = 2 by simpa using h, exN2]
   exact fS h1 rfl (QoS en ⟨r0,rfl⟩)
  refine ift.of (fun h=>?_) fun n3=>?_
  ·rw [show v.k = 3 by simpa using h, exN3]
   exact fB0 h3 (ja v.n.isEmpty H4 (fun h=>fS h1 rfl ⟨rfl,by rw [en.1,QgN]⟩) ⟨r0,rfl⟩)
  refine ift.of (fun h=>?_) fun n4=>?_
  ·rw [show v.k = 4 by simpa using h, exN4]
   refine fS h1 rfl ⟨r0,?_⟩
   rw [en.1,QgN,show (((v.a.length:Nat):Int) != 1)=decide (v.a.length≠1) from lenN (m:=1),show decide (((v.a.length:Nat):Int)≤16)=decide (v.a.length≤16) from lenL (m:=16)]
  refine ift.of (fun h=>?_) fun n5=>?_
  ·rw [show v.k = 5 by simpa using h, exN5]
   refine fS h1 rfl (Qqu hT en ⟨r0,?_⟩)
   rw [show decide (((v.a.length:Nat):Int)≤8)=decide (v.a.length≤8) from lenL (m:=8)]
  refine ift.of (fun h=>?_) fun n6=>?_
  ·rw [show v.k = 6 by simpa using h, exN6]
   refine ⟨H4,r0,fS h1 rfl (Qug fun b D l hD hM hl=>⟨hD,?_⟩)⟩
   rw [en.1]
   have ha:=(hl v.n).trans (QvT v.n)
   refine hM.lk (fun y hy=>⟨hD,fB0 (hD _ _ h3) ⟨hD,?_⟩⟩) (fun hy=>⟨hD,fB0 (hD _ _ h3) ⟨hD,?_⟩⟩)
   ·rw [hy] at ha
    by_cases h0:arS v.n=0
    ·rw [if_pos h0] at ha; cases ha
    ·rw [if_neg h0] at ha; injection ha with ha; subst ha
     rw [lenI]
     congr 1
     ·congr 1; rw [decide_eq_decide]; omega
     ·rw [decide_eq_decide]; exact eq_comm
   ·rw [hy] at ha
    by_cases h0:arS v.n=0
    ·rw [h0]; simp
    ·rw [if_neg h0] at ha; cases ha
  refine ift.of (fun h=>?_) fun n7=>?_
  ·rw [show v.k = 7 by simpa using h, exN7]
   refine fB0 h3 (ja (namS v.n) H4 (fun h=>fS h1 rfl (Qge hT en ⟨rfl,rfl⟩)) ⟨r0,?_⟩)
   rw [show (((v.a.length:Nat):Int) == 1)=decide (v.a.length=1) from lenI (m:=1)]
  refine ift.of (fun h=>?_) fun n8=>?_
  ·rw [show v.k = 8 by simpa using h, exN8]
   refine fB0 h3 (ja v.n.isEmpty H4 (fun h=>fS h1 rfl ⟨rfl,by rw [en.1,QgN]⟩) ⟨r0,?_⟩)
   rw [show (((v.a.length:Nat):Int) == 3)=decide (v.a.length=3) from lenI (m:=3)]
  refine ⟨r0,?_⟩
  unfold exN
  rw [if_neg (by simpa using n2),if_neg (by simpa using n3),if_neg (by simpa using n4),if_neg (by simpa using n5),if_neg (by simpa using n6),if_neg (by simpa using n7),if_neg (by simpa using n8)]
 have g1:=hE _ _ h1
 have g3:=hE _ _ h3
 have hAE:=hA4.trans hE
 refine ja (noV v.v) E (fun _=>fT g1 QsN (QvR (hv.le hAE) ⟨rfl,rfl⟩)) ?_
 refine ja (v.a.all (exOk p)) E (fun _=>fL g1 rfl ?_) ?_
 ·refine QrL (hs.le hAE fun _ _ _ h => h) (Heap.le.refl E) (ok := exOk p) (fun w hw y D Φ hD hR hΦ => ⟨_, [], [pv (some (b3, 0))], rfl, QpE, ?_⟩) ⟨rfl, rfl⟩
  show Qep C y (b3,0) Φ D
  apply Qep.gh
  apply Qpk
  unfold QlA
  exact box1 fun b4 H5 hle5 h5=>bxT h5 (fB0 (hle5 _ _ (hD _ _ g3)) (ih w hw hR (hAE.trans (hD.trans hle5)) ⟨D,Gh.le hle5,hΦ⟩))
 exact ⟨H,Gh.le (hle.trans hE),k⟩
end
end
section
open Go Go.Proofs
section
variable {C:Ctx} {H A:Heap}
theorem QsF (hT:MaxC C) {v:ExV} {x:Qa} {K:Bool→Heap→Prop} (hx:ExIs A v x) (hA:A.le H) (k:K (exOk true v) H):QdA C x K H:=by
 apply QdA.gh
 apply Qoe
 unfold Qkv
 exact box1 fun b1 H2 hle h1=>bxT h1 (Qtq hT v hx (hA.trans hle) ⟨H,Gh.le hle,k⟩)
theorem Qtl (hT:MaxC C) {v:ExV} {x:Qa} {K:Bool→Heap→Prop} (hx:ExIs A v x) (hA:A.le H) (k:K (exOk false v) H):Qdc C x K H:=by
 apply Qdc.gh
 apply QqP
 unfold Qnv
 exact box1 fun b1 H2 hle h1=>bxT h1 (Qtq hT v hx (hA.trans hle) ⟨H,Gh.le hle,k⟩)
theorem Qv0 {l:List ExV} (h:l.length=1) (h0:0 < l.length) (p:Bool):exsOk p l=exOk p l[0]:=by
 match l,h with
 | [w],_=>simp [exsOk]
theorem QrW (hT:MaxC C) {l:List ExV} {s:Sl} {K:Bool→Heap→Prop} (hs:ExL A s l) (hA:A.le H) (k:K (exsOk true l) H):QO C s (.func (.func 152) (List.toArray []) (List.toArray []):Value) K H:=by
 rw [Qdl] at k
 exact QrL hs hA (fun w hw y D Φ hD hR hΦ=>cu QoE (QsF hT hR hD hΦ)) k
theorem Quv (hT:MaxC C) {l:List ExV} {s:Sl} {K:Bool→Heap→Prop} (hs:ExL A s l) (hA:A.le H) (k:K (exsOk false l) H):QO C s (.func (.func 92) (List.toArray []) (List.toArray []):Value) K H:=by
 rw [Qdl] at k
 exact QrL hs hA (fun w hw y D Φ hD hR hΦ=>cu Qka (Qtl hT hR hD hΦ)) k
theorem QsA (hT:MaxC C) {v:LiV} {x:Qc} {K:Bool→Heap→Prop} (hx:LiIs A v x) (hA:A.le H) (k:K (liOk v) H):Qdz C x K H:=by
 obtain ⟨ek,en,hs⟩:=hx
 have hlen:=hs.len
 apply Qdz.gh
 apply Qod
 unfold Qku
 refine box1 fun b1 H2 hle h1=>fI h1 rfl ?_
 have hA2:=hA.trans hle
 rw [ek]
 unfold liOk at k
 refine jp (P:=v.k=1∨v.k=2) H2 (ift.of (fun h=>⟨rfl,fun _=>.inl (by simpa using h),fun _=>h⟩) (fun h=>⟨rfl,fun h=>.inr (by simpa using h),fun h'=>?_⟩)) fun b hb=>?_
 ·rcases h' with h' | h'
  ·rw [h'] at h; cases h
  ·rw [h']; rfl
 refine ift.of (fun h=>?_) (fun h=>?_)
 ·rw [if_pos (hb.1 h)] at k
  refine fS h1 rfl (Qqu hT en ?_)
  refine ja (decide (v.a.length≤8)) H2 (fun _=>fL h1 rfl ⟨rfl,by rw [hlen]; exact lenL (m:=8)⟩) ?_
  exact ja (exsOk true v.a) H2 (fun _=>fL h1 rfl (QrW hT hs hA2 ⟨rfl,rfl⟩)) ⟨H,Gh.le hle,k⟩
 rw [if_neg (fun p=>by rw [hb.2 p] at h; cases h)] at k
 have hone:∀ {b:Bool} {K:Bool→Heap→Prop},(b && decide (v.a.length=1))=true→K (exsOk false v.a) H2→ldL H2 ((b1,0).1,(b1,0).2+4) fun x45=>ixa x45 0 fun p47=>ldT H2 Qa.c (p47.1,p47.2+(0:Int).toNat*9) fun x52=>Qdc C x52 K H2:=fun {b} {K} hb hk=>by
  simp only [Bool.and_eq_true,decide_eq_true_eq] at hb
  have h0:0 < v.a.length:=by omega
  rw [Qv0 hb.2 h0] at hk
  exact fL h1 rfl (SlIs.ld hs hA2 QN (by omega) (i:=0) rfl h0 fun y hy=>Qtl hT hy hA2 hk)
 refine ift.of (fun h=>?_) (fun h=>?_)
 ·rw [if_pos (by simpa using h)] at k
  refine fS h1 rfl ?_
  refine ja (decide (v.a.length=1)) H2 (fun _=>fL h1 rfl ⟨rfl,by rw [hlen]; exact lenI (m:=1)⟩) ?_
  refine ja (exsOk false v.a) H2 (fun h=>hone h ⟨rfl,rfl⟩) ?_
  rw [en.1,QgN]; exact ⟨H,Gh.le hle,k⟩
 rw [if_neg (by simpa using h)] at k
 refine ift.of (fun h=>?_) (fun h=>?_)
 ·rw [if_pos (by simpa using h)] at k
  refine fS h1 rfl (QoS en ?_)
  refine ja (decide (v.a.length=1)) H2 (fun _=>fL h1 rfl ⟨rfl,by rw [hlen]; exact lenI (m:=1)⟩) ?_
  exact ja (exsOk false v.a) H2 (fun h=>hone h ⟨rfl,rfl⟩) ⟨H,Gh.le hle,k⟩
 ·rw [if_neg (by simpa using h)] at k
  exact ⟨H,Gh.le hle,k⟩
theorem Qos (hT:MaxC C) {l:List LiV} {s:Sl} {K:Bool→Heap→Prop} (hs:LiL A s l) (hA:A.le H) (k:K (l.all liOk) H):QT C s (.func (.func 59) (List.toArray []) (List.toArray []):Value) K H:=
 Qsu hs hA (fun w hw y D Φ hD hR hΦ=>cu QoD (QsA hT hR hD hΦ)) k
theorem Qsz (hT:MaxC C) {v:FdV} {x:Qd} {b:Nat} {nm:Bool} {K:Bool→Heap→Prop} (hx:FdIs A v x) (hA:A.le H) (hb:H b=some (true,.row [.bool nm])) (k:K (fdOk nm v) H):QcM C x (b,0) K H:=by
 apply QcM.gh
 apply QnI
 unfold Qjm
 refine box1 fun b1 H2 hle h1=>fS h1 rfl (Qge hT hx.1 ?_)
 refine jo' (!nm && v.n.isEmpty) H2 (fun _=>fB0 (hle _ _ hb) (ja v.n.isEmpty H2 (fun _=>fS h1 rfl ⟨rfl,by rw [hx.1.1,QgN]⟩) ⟨rfl,rfl⟩)) ?_
 exact ja (tyOk v.t) H2 (fun _=>fT h1 Qrx (QuW hT v.t hx.2 (hA.trans hle) ⟨rfl,rfl⟩)) ⟨H,Gh.le hle,k⟩
theorem Qre (hT:MaxC C) {l:List FdV} {s:Sl} {nm:Bool} {K:Bool→Heap→Prop} (hs:FdL A s l) (hA:A.le H) (k:K (fdsOk nm l) H):Qcn C s nm K H:=by
 apply Qcn.gh
 apply Qpj
 unfold Qlz
 refine box1 fun b1 H2 hle h1=>?_
 have hA2:=hA.trans hle
 refine ja (l.all (fdOk nm)) H2 (fun _=>?_) ?_
 ·exact QrM (hs.le hA2 fun _ _ _ h=>h) (Heap.le.refl H2) (ok:=fdOk nm) (fun w hw y D Φ hD hR hΦ=>⟨_,[],[pv (some (b1,0))],rfl,QnQ,Qsz hT hR (hA2.trans hD) (hD _ _ h1) hΦ⟩) ⟨rfl,rfl⟩
 rw [hs.len,show decide (((l.length:Nat):Int)≤8)=decide (l.length≤8) from lenL (m:=8)]
 exact ⟨H,Gh.le hle,k⟩
theorem Qvp (hT:MaxC C) {v:CnV} {x:Qh} {K:Bool→Heap→Prop} (hx:CnIs A v x) (hA:A.le H) (k:K (cnOk v) H):Qcf C x K H:=by
 apply Qcf.gh
 apply Qm4
 unfold QiH
 refine box1 fun b1 H2 hle h1=>fS h1 rfl (Qge hT hx.1 ?_)
 exact ja (fdsOk false v.f) H2 (fun _=>fL h1 rfl (Qre hT hx.2 (hA.trans hle) ⟨rfl,rfl⟩)) ⟨H,Gh.le hle,k⟩
theorem geI {n m:Nat}:decide (((n:Nat):Int) ≥ (m:Int))=decide (m≤n):=by rw [decide_eq_decide]; omega
theorem gtI {n m:Nat}:decide (((n:Nat):Int) > (m:Int))=decide (m < n):=by rw [decide_eq_decide]; omega
theorem QsM (hT:MaxC C) {v:TdV} {x:Qf} {K:Bool→Heap→Prop} (hx:TdIs A v x) (hA:A.le H) (k:K (tdOk v) H):QdB C x K H:=by
 apply QdB.gh
 apply Qof
 unfold Qkw
 obtain ⟨_,en,hps,hcs⟩:=hx
 have l1:=SlIs.len hps
 have l2:=hcs.len
 refine box1 fun b1 H2 hle h1=>fS h1 rfl (Qge hT en ?_)
 have hA2:=hA.trans hle
 refine ja (decide (v.ps.length≤8)) H2 (fun _=>fL h1 rfl ⟨rfl,by rw [l1]; exact lenL (m:=8)⟩) ?_
 refine ja (v.ps.all parS) H2 (fun _=>fL h1 rfl (QqX hps hA2 (fun w hw D Φ hD hl hΦ=>cu Qms (Qsh hT ⟨rfl,hl⟩ hΦ)) ⟨rfl,rfl⟩)) ?_
 refine ja (decide (1≤v.cs.length)) H2 (fun _=>fL h1 rfl ⟨rfl,by rw [l2]; exact geI (m:=1)⟩) ?_
 refine ja (decide (v.cs.length≤16)) H2 (fun _=>fL h1 rfl ⟨rfl,by rw [l2]; exact lenL (m:=16)⟩) ?_
 exact ja (v.cs.all cnOk) H2 (fun _=>fL h1 rfl (Qst hcs hA2 (fun w hw y D Φ hD hR hΦ=>cu Qne (Qvp hT hR hD hΦ)) ⟨rfl,rfl⟩)) ⟨H,Gh.le hle,k⟩
theorem QvK (hT:MaxC C) {v:RuV} {x:Qk} {K:Bool→Heap→Prop} (hx:RuIs A v x) (hA:A.le H) (k:K (ruOk v) H):QfO C x K H:=by
 apply QfO.gh
 apply QqU
 unfold QnA
 obtain ⟨en,ha,hg,hb⟩:=hx
 have l1:=ha.len
 have l2:=SlIs.len hg
 refine box1 fun b1 H2 hle h1=>fS h1 rfl (Qqu hT en ?_)
 have hA2:=hA.trans hle
 refine ja (decide (v.a.length≤8)) H2 (fun _=>fL h1 rfl ⟨rfl,by rw [l1]; exact lenL (m:=8)⟩) ?_
 refine ja (decide (v.g.length=v.a.length)) H2 (fun _=>fL h1 rfl (fL h1 rfl ⟨rfl,by rw [l1,l2]; exact lenI⟩)) ?_
 refine ja (exsOk false v.a) H2 (fun _=>fL h1 rfl (Quv hT ha hA2 ⟨rfl,rfl⟩)) ?_
 refine ja (v.b.all liOk) H2 (fun _=>fL h1 rfl (Qos hT hb hA2 ⟨rfl,rfl⟩)) ?_
 refine ja (v.g.all agOk) H2 (fun _=>fL h1 rfl (QqX hg hA2 (fun w hw D Φ hD hl hΦ=>cu QpF ?_) ⟨rfl,rfl⟩)) ⟨H,Gh.le hle,k⟩
 show Qma C w Φ D
 apply Qpl
 unfold QlB
 have e:(((((w == ([]:Str)) || (w == ([99,111,117,110,116]:Str))) || (w == ([115,117,109]:Str))) || (w == ([109,105,110]:Str))) || (w == ([109,97,120]:Str)))=agOk w:=by
  unfold agOk countS sumS minS maxS
  rw [Bool.eq_iff_iff]; simp only [Bool.or_eq_true,beq_iff_eq,decide_eq_true_eq,or_assoc]
 rw [e]; exact hΦ
theorem QuD (hT:MaxC C) {v:NeV} {x:Ql} {K:Bool→Heap→Prop} (hx:NeIs A v x) (hA:A.le H) (k:K (neOk v) H):Qdw C x K H:=by
 apply Qdw.gh
 apply Qn8
 unfold Qkp
 have l1:=hx.2.len
 refine box1 fun b1 H2 hle h1=>fS h1 rfl (Qge hT hx.1 ?_)
 refine ja (decide (0 < v.b.length)) H2 (fun _=>fL h1 rfl ⟨rfl,by rw [l1]; exact gtI (m:=0)⟩) ?_
 exact ja (v.b.all liOk) H2 (fun _=>fL h1 rfl (Qos hT hx.2 (hA.trans hle) ⟨rfl,rfl⟩)) ⟨H,Gh.le hle,k⟩
theorem QtQ (hT:MaxC C) {v:RdV} {x:Qi} {K:Bool→Heap→Prop} (hx:RdIs A v x) (hA:A.le H) (k:K (rdOk v) H):Qdv C x K H:=by
 apply Qdv.gh
 apply Qn7
 unfold Qko
 refine box1 fun b1 H2 hle h1=>fS h1 rfl (Qge hT hx.2.2.1 ?_)
 exact ja (fdsOk true v.f) H2 (fun _=>fL h1 rfl (Qre hT hx.2.2.2 (hA.trans hle) ⟨rfl,rfl⟩)) ⟨H,Gh.le hle,k⟩
theorem Qtr (hT:MaxC C) {v:Str} {x:Qn} {K:Bool→Heap→Prop} (hx:ImIs v x) (k:K (namS v) H):Qdu C x K H:=by
 apply Qdu.gh
 apply Qn6
 unfold Qkn
 exact box1 fun b1 H2 hle h1=>fS h1 rfl (Qge hT hx ⟨H,Gh.le hle,k⟩)
theorem Qvv {v:RuV} {x:Qk} {K:Bool→Heap→Prop} (hx:RuIs A v x) (k:K (decide (v.b.length≤12)) H):Qdx C x K H:=by
 apply Qdx.gh
 apply Qn9
 unfold Qkq
 refine box1 fun b1 H2 hle h1=>fL h1 rfl ?_
 rw [hx.2.2.2.len,show decide (((v.b.length:Nat):Int)≤12)=decide (v.b.length≤12) from lenL (m:=12)]
 exact ⟨H,Gh.le hle,k⟩
theorem Qvw {v:NeV} {x:Ql} {K:Bool→Heap→Prop} (hx:NeIs A v x) (k:K (decide (v.b.length≤12)) H):Qdy C x K H:=by
 apply Qdy.gh
 apply Qoa
 unfold Qkr
 refine box1 fun b1 H2 hle h1=>fL h1 rfl ?_
 rw [hx.2.len,show decide (((v.b.length:Nat):Int)≤12)=decide (v.b.length≤12) from lenL (m:=12)]
 exact ⟨H,Gh.le hle,k⟩
theorem Qr4 (hT:MaxC C) {v:MoV} {x:Qg} {K:Int→Heap→Prop} (hx:MoIs A v x) (hA:A.le H) (hb:moD v≤4611686018427387904) (k:K (moC v) H):QcY C x K H:=by
 apply QcY.gh
 apply Qqg
 unfold QmK
 refine box1 fun b1 H2 hle h1=>bxT h1 ?_
 have hA2:=hA.trans hle
 refine Qvr hx hA2 hb ?_
 obtain ⟨en,him,hty,hre,hru,hne⟩:=hx
 unfold moC at k
 refine ift.of (fun h=>?_) (fun h=>?_)
 ·rw [if_pos (by have:=of_decide_eq_true h; omega)] at k; exact ⟨H,Gh.le hle,k⟩
 rw [if_neg (by have:=of_decide_eq_false h; omega)] at k
 refine fS h1 rfl (Qge hT en ?_)
 refine jo' (!v.im.all namS) H2 (fun _=>fL h1 rfl (Qs0 him hA2 (fun w hw y D Φ hD hR hΦ=>cu Qow (Qtr hT hR hΦ)) ⟨rfl,rfl⟩)) ?_
 refine jo' (!v.ty.all tdOk) H2 (fun _=>fL h1 rfl (Qsv hty hA2 (fun w hw y D Φ hD hR hΦ=>cu QoF (QsM hT hR hD hΦ)) ⟨rfl,rfl⟩)) ?_
 refine jo' (!v.re.all rdOk) H2 (fun _=>fL h1 rfl (Qs1 hre hA2 (fun w hw y D Φ hD hR hΦ=>cu Qox (QtQ hT hR hD hΦ)) ⟨rfl,rfl⟩)) ?_
 refine jo' (!v.ru.all ruOk) H2 (fun _=>fL h1 rfl (Qs2 hru hA2 (fun w hw y D Φ hD hR hΦ=>cu Qro (QvK hT hR hD hΦ)) ⟨rfl,rfl⟩)) ?_
 refine jo' (!v.ne.all neOk) H2 (fun _=>fL h1 rfl (Qr7 hne hA2 (fun w hw y D Φ hD hR hΦ=>cu Qoy (QuD hT hR hD hΦ)) ⟨rfl,rfl⟩)) ?_
 have e1:(((((!namS v.n || !v.im.all namS) || !v.ty.all tdOk) || !v.re.all rdOk) || !v.ru.all ruOk) || !v.ne.all neOk)=!moOk v:=by unfold moOk; simp only [Bool.not_and]
 rw [e1]
 refine ift.of (fun h=>?_) (fun h=>?_)
 ·rw [if_pos (by simpa using h)] at k; exact ⟨H,Gh.le hle,k⟩
 rw [if_neg (by simpa using h)] at k
 refine fL h1 rfl ?_
 refine jo' (decide (64 < v.ty.length)) H2 (fun _=>fL h1 rfl ⟨rfl,by rw [hty.len]; exact gtI (m:=64)⟩) ?_
 refine jo' (decide (64 < v.re.length)) H2 (fun _=>fL h1 rfl ⟨rfl,by rw [hre.len]; exact gtI (m:=64)⟩) ?_
 refine jo' (decide (256 < v.ru.length)) H2 (fun _=>fL h1 rfl ⟨rfl,by rw [hru.len]; exact gtI (m:=256)⟩) ?_
 refine jo' (decide (256 < v.ne.length)) H2 (fun _=>fL h1 rfl ⟨rfl,by rw [hne.len]; exact gtI (m:=256)⟩) ?_
 refine jo' (!v.ru.all (fun r=>decide (r.b.length≤12))) H2 (fun _=>fL h1 rfl (Qs2 hru hA2 (fun w hw y D Φ hD hR hΦ=>cu Qoz (Qvv hR hΦ)) ⟨rfl,rfl⟩)) ?_
 refine jo' (!v.ne.all (fun n=>decide (n.b.length≤12))) H2 (fun _=>fL h1 rfl (Qr7 hne hA2 (fun w hw y D Φ hD hR hΦ=>cu QoA (Qvw hR hΦ)) ⟨rfl,rfl⟩)) ?_
 rw [him.len,show decide (((v.im.length:Nat):Int) > 8)=decide (8 < v.im.length) from gtI (m:=8)]
 have nd:∀ a b:Nat,decide (a < b)=!decide (b≤a):=fun a b=>by rw [Bool.eq_iff_iff]; simp
 have e2:(((((((decide (8 < v.im.length)) || decide (64 < v.ty.length)) || decide (64 < v.re.length)) || decide (256 < v.ru.length)) || decide (256 < v.ne.length)) || !v.ru.all (fun r=>decide (r.b.length≤12))) || !v.ne.all (fun n=>decide (n.b.length≤12)))=!moFew v:=by
  unfold moFew; simp only [Bool.not_and,nd]
 rw [e2]
 refine ift.of (fun h=>?_) (fun h=>?_)
 ·rw [if_pos (by simpa using h)] at k; exact ⟨H,Gh.le hle,k⟩
 ·rw [if_neg (by simpa using h)] at k; exact ⟨H,Gh.le hle,k⟩
end
end
section
open Go Go.Proofs
theorem Qt4:∀ (i:Nat) (l:List TyV),tysT i l=jo [44,32] tyT i l
 | i,[]=>rfl
 | i,v::l=>by
  simp only [tysT,jo,Qt4 (i+1) l]
  cases i <;> rfl
theorem QrT (sp:Str) {sep:Nat→Str} (h:∀ i,sep i=if i=0 then [] else sp):∀ (i:Nat) (l:List ExV),exsT sep i l=jo sp exT i l
 | i,[]=>rfl
 | i,v::l=>by simp only [exsT,jo,QrT sp h (i+1) l,h i]
theorem QvV (i:Nat) (l:List ExV):exsT cm i l=jo [44,32] exT i l:=QrT _ (fun i=>by cases i <;> rfl) i l
theorem Qv8 (n:Str) (i:Nat) (l:List ExV):exsT (opSep n) i l=jo (32::(n++[32])) exT i l:=QrT _ (fun i=>by cases i <;> rfl) i l
theorem Qrc (sep:Nat→Str):∀ (l:List ExV) (j:Nat) (w:ExV),exsT sep j (l++[w])=exsT sep j l++(sep (j+l.length)++exT w)
 | [],j,w=>by simp [exsT]
 | v::l,j,w=>by
  rw [List.cons_append]
  simp only [exsT,Qrc sep l (j+1) w,List.append_assoc,List.length_cons]
  rw [show j+1+l.length=j+(l.length+1) by omega]
theorem Qtm {sep:Nat→Str} {l:List ExV} {i:Nat} (h:i < l.length):exsT sep 0 (l.take (i+1))=exsT sep 0 (l.take i)++(sep i++exT l[i]):=by
 rw [List.take_add_one,List.getElem?_eq_getElem h,Option.toList_some,Qrc,List.length_take,Nat.min_eq_left (by omega),Nat.zero_add]
theorem Quw {sep:Nat→Str} (l:List ExV) (i:Nat):(exsT sep 0 (l.take i)).length≤(exsT sep 0 l).length:=by
 have:∀ (a b:List ExV) (k:Nat),(exsT sep k a).length≤(exsT sep k (a++b)).length:=by
  intro a
  induction a with
  | nil=>intro b k; simp [exsT]
  | cons x a ih=>intro b k; have:=ih b (k+1); simp only [List.cons_append,exsT,List.length_append]; omega
 have:=this (l.take i) (l.drop i) 0
 rwa [List.take_append_drop] at this
theorem Qt3 (v:TyV):tyT v=(if v.n=tupS then [] else v.n)++(if v.n=tupS∨0 < v.a.length then 40::(jo [44,32] tyT 0 v.a++[41]) else []):=by
 obtain ⟨n,a⟩:=v
 show tyT (.mk n a)=(if n=tupS then [] else n)++(if n=tupS∨0 < a.length then 40::(jo [44,32] tyT 0 a++[41]) else [])
 simp only [tyT,Qt4]
 by_cases h:n=tupS
 ·rw [if_pos h,if_pos h,if_pos (.inl h)]; rfl
 ·rw [if_neg h,if_neg h]
  by_cases h2:a.length=0
  ·rw [if_pos h2,if_neg (by rintro (e | e); exact h e; omega)]
  ·rw [if_neg h2,if_pos (.inr (by omega))]
theorem exE1 {v:ExV} (h:v.k=1):exT v=showV v.v:=by obtain ⟨k,n,u,a⟩:=v; have h:k=1:=h; subst h; simp [exT,ExV.v]
theorem exE2 {v:ExV} (h:v.k=2):exT v=v.n:=by obtain ⟨k,n,u,a⟩:=v; have h:k=2:=h; subst h; simp [exT,ExV.n]
theorem exE3 {v:ExV} (h:v.k=3):exT v=[95]:=by obtain ⟨k,n,u,a⟩:=v; have h:k=3:=h; subst h; simp [exT]
theorem exE4 {v:ExV} (h:v.k=4):exT v=40::(exsT cm 0 v.a++[41]):=by obtain ⟨k,n,u,a⟩:=v; have h:k=4:=h; subst h; simp [exT,ExV.a]
theorem exE5 {v:ExV} (h:v.k=5):exT v=v.n++(if v.a.length=0 then [] else 40::(exsT cm 0 v.a++[41])):=by obtain ⟨k,n,u,a⟩:=v; have h:k=5:=h; subst h; simp [exT,ExV.a,ExV.n]
theorem exE6 {v:ExV} (h:v.k=6):exT v=if funB v.n=true then v.n++40::(exsT cm 0 v.a++[41]) else if v.a.length=1 then 40::(v.n++32::(exsT noSep 0 v.a++[41])) else 40::(exsT (opSep v.n) 0 v.a++[41]):=by obtain ⟨k,n,u,a⟩:=v; have h:k=6:=h; subst h; simp [exT,ExV.a,ExV.n]; rfl
theorem exE7 {v:ExV} (h:v.k=7):exT v=(if brkE v.a=true then 40::(exsT cm 0 v.a++[41]) else exsT cm 0 v.a)++46::v.n:=by obtain ⟨k,n,u,a⟩:=v; have h:k=7:=h; subst h; simp [exT,ExV.a,ExV.n]; rfl
theorem exE8 {v:ExV} (h:v.k=8):exT v=exsT ifSep 0 v.a++[41]:=by obtain ⟨k,n,u,a⟩:=v; have h:k=8:=h; subst h; simp [exT,ExV.a]
theorem Qj2 {l:List ExV} {sep:Nat→Str} (hs:sep 0=[]) (h:l.length=1) (h0:0 < l.length):exsT sep 0 l=exT l[0]:=by
 match l,h with
 | [w],_=>simp [exsT,hs]
section
variable {C:Ctx} {A:Heap} {b:Nat}
/-- a copy of an argument, laid beside the writer -/
theorem Ww.box {B:Heap} {t:Str} {cx:List Value} {K:Nat→Heap→Prop} (h:Ww A B b t) (k:∀ b1 F D,A.le F→F b1=some (true,.row cx)→Ww F D b t→K b1 D):nw cx K B:=fun b1 n1=>by
 have l1:=Heap.le_put n1 (g:=.row cx) (m:=true)
 obtain ⟨hF,hAF⟩:=(h.up l1).full
 have hbb:b1≠b:=fun e=>by
  obtain ⟨g,hg⟩:=h.bl.some
  rw [e,hg] at n1; cases n1
 exact k b1 _ _ hAF (by rw [Heap.del_ne _ hbb]; exact Heap.put_same ..) hF
theorem Ww.texts {B:Heap} {t:Str} {cs:List Value} {n:Nat} {K:Heap→Prop} (ss:List Str) (h:Ww A B b t) (hl:t.length+ss.flatten.length≤140737488355328) (k:∀ D,Ww A D b (t++ss.flatten)→K D)
 (hs:cs=ss.map sv:=by rfl) (hn:n=ss.length:=by rfl) (hb:n≤100:=by omega):nw cs (fun b2 H=>QH C (some (b,0)) (Sl.of (some (b2,0)) n n) K H) B:=fun b2 n2=>by
 have l1:=Heap.le_put n2 (g:=.row cs) (m:=true)
 have hU:=h.up l1
 have hAF:=hU.full.2
 exact QuS hU (Heap.put_same ..) hs hn hb hl fun D hD=>k D (hD.down hAF)
theorem Qv7:∀ (v:TyV) {A' B:Heap} {x:Qe} {t:Str} {K:Heap→Prop},TyIs A v x→A.le A'→Ww A' B b t→t.length+(tyT v).length≤140737488355328→(∀ D,Ww A' D b (t++tyT v)→K D)→QfP C (some (b,0)) x K B:=by
 refine TyV.rec_ fun v ih A' B x t K hx hA hW hl k=>?_
 obtain ⟨en,hs⟩:=Qc2.1 hx
 have hlen:=hs.len
 apply Ql7
 unfold Qhs
 refine hW.box fun b1 F D hF h1 hD=>?_
 rw [Qt3] at hl k
 simp only [List.length_append] at hl
 refine ⟨fun _ E=>Ww F E b (t++if v.n=tupS then [] else v.n),?_,?_⟩
 ·refine fS (hD.le _ _ h1) rfl ?_
  rw [en.1]
  refine ift.of (fun h=>⟨F,hD.le,(b,0),rfl,fS h1 rfl ?_⟩) (fun h=>?_)
  ·have hn : v.n ≠ tupS := fun e => by rw [e] at h; exact absurd h (by decide)
   rw [if_neg hn] at hl ⊢
   rw [en.1]
   exact hD.str (by omega) fun E hE=>⟨hE.le,hE⟩
  ·have hn : v.n = tupS := beq_iff_eq.1 (by rw [Bool.not_eq_false'] at h; exact h)
   rw [if_pos hn,List.append_nil]; exact hD
 rintro _ E hE
 refine fS (hE.le _ _ h1) rfl ?_
 rw [en.1]
 refine jp (P:=v.n=tupS∨0 < v.a.length) E (ift.of (fun h=>⟨rfl,fun _=>.inl (beq_iff_eq.1 h),fun _=>rfl⟩) (fun h=>fL (hE.le _ _ h1) rfl ⟨rfl,?_⟩)) fun b0 hb0=>?_
 ·rw [hlen]
  constructor
  ·intro h'; exact .inr (by have:=of_decide_eq_true h'; omega)
  ·rintro (e | e)
   ·rw [e] at h; exact absurd h (by decide)
   ·exact decide_eq_true (by omega)
 refine ift.of (fun h=>fL (hE.le _ _ h1) rfl ?_) (fun h=>?_)
 ·have hp:=hb0.1 h
  rw [if_pos hp] at hl k
  simp only [List.length_append,List.length_cons,List.length_nil] at hl
  refine Qvn (hs.le (hA.trans hF) fun _ _ _ h=>h) hE (f:=tyT) (fun w hw y D u Φ hW hR hl hk=>⟨_,[pv (some (b,0))],[],rfl,Qhk,ih w hw hR (hA.trans hF) hW hl hk⟩) (by simp only [List.length_append]; omega) fun D2 h2=>?_
  exact k D2 (by rw [← List.append_assoc]; exact h2.down hF)
 ·have hp : ¬ (v.n = tupS ∨ 0 < v.a.length) := fun p => by rw [hb0.2 p] at h; cases h
  rw [if_neg hp,List.append_nil] at k
  exact k E (hE.down hF)
/-- an expression's text, by the program -/
def EW (C:Ctx) (A:Heap) (b:Nat) (w:ExV):Prop:=∀ {A' B:Heap} {x:Qa} {t:Str} {K:Heap→Prop},ExIs A w x→A.le A'→Ww A' B b t→t.length+(exT w).length≤140737488355328→(∀ D,Ww A' D b (t++exT w)→K D)→Qaj C (some (b,0)) x K B
theorem lsE {A' D:Heap} {l:List ExV} {s:Sl} {sp u:Str} {K:Heap→Prop} (hs:ExL A s l) (he:∀ w ∈ l,EW C A b w) (hA:A.le A') (hW:Ww A' D b u) (hl:u.length+(jo sp exT 0 l).length≤140737488355328) (k:∀ D2,Ww A' D2 b (u++jo sp exT 0 l)→K D2) :
 Qa8 C (some (b,0)) s sp (.func (.func 93) (List.toArray [pv (some (b,0))]) (List.toArray []):Value) K D:=
 Qtz (hs.le hA fun _ _ _ h=>h) hW (f:=exT) (fun w hw y D u Φ hW hR hl hk=>⟨_,[pv (some (b,0))],[],rfl,Qaa,he w hw hR hA hW hl hk⟩) hl k
theorem brE {A' D:Heap} {l:List ExV} {s:Sl} {u:Str} {K:Heap→Prop} (hs:ExL A s l) (he:∀ w ∈ l,EW C A b w) (hA:A.le A') (hW:Ww A' D b u) (hl:u.length+(exsT cm 0 l).length+2≤140737488355328) (k:∀ D2,Ww A' D2 b (u++40::(exsT cm 0 l++[41]))→K D2) :
 QF C (some (b,0)) s (.func (.func 93) (List.toArray [pv (some (b,0))]) (List.toArray []):Value) K D:=by
 rw [QvV] at hl k
 exact Qvm (hs.le hA fun _ _ _ h=>h) hW (f:=exT) (fun w hw y D u Φ hW hR hl hk=>⟨_,[pv (some (b,0))],[],rfl,Qaa,he w hw hR hA hW hl hk⟩) hl k
theorem Qvo {v:ExV} (hk6:v.k=6) (he:∀ w ∈ v.a,EW C A b w) {A' B:Heap} {x:Qa} {t:Str} {K:Heap→Prop} (hx:ExIs A v x) (hA:A.le A') (hW:Ww A' B b t) (hl:t.length+(exT v).length≤140737488355328) (k:∀ D,Ww A' D b (t++exT v)→K D):Qfo C (some (b,0)) x K B:=by
 obtain ⟨ek,en,hv,hB,hs⟩:=Qay.1 hx
 have hlen:=hs.len
 apply QlL
 unfold Qg0
 rw [exE6 hk6] at hl k
 refine hW.box fun b1 F D hF h1 hD=>fS (hD.le _ _ h1) rfl ?_
 have hAF:=hA.trans hF
 refine Qom ?_
 rw [en.1]
 refine ift.of (fun h=>?_) (fun h=>?_)
 ·rw [if_pos h] at hl k
  simp only [List.length_append,List.length_cons,List.length_nil] at hl
  refine ⟨F,hD.le,(b,0),rfl,fS h1 rfl ?_⟩
  rw [en.1]
  refine hD.str (by omega) fun E hE=>⟨hE.le,fL (hE.le _ _ h1) rfl ?_⟩
  refine brE hs he hAF hE (by simp only [List.length_append]; omega) fun D2 h2=>k D2 ?_
  rw [← List.append_assoc]; exact h2.down hF
 rw [if_neg (by rw [h]; decide)] at hl k
 refine fL (hD.le _ _ h1) rfl ?_
 rw [hlen]
 refine ift.of (fun h1l=>?_) (fun h1l=>?_)
 ·have hl1:v.a.length=1:=Int.ofNat.inj (show ((v.a.length:Nat):Int)=((1:Nat):Int) from beq_iff_eq.1 h1l)
  have h0:0 < v.a.length:=by omega
  rw [if_pos hl1,Qj2 rfl hl1 h0] at hl k
  simp only [List.length_append,List.length_cons,List.length_nil] at hl
  refine fS (hD.le _ _ h1) rfl ?_
  rw [en.1]
  refine Ww.texts [[40],v.n,[32]] hD (by simp; omega) fun E hE=>fL (hE.le _ _ h1) rfl ?_
  refine SlIs.ld hs (hAF.trans hE.le) QN (by omega) (i:=0) rfl h0 fun y hy=>?_
  refine he _ (List.getElem_mem h0) hy hAF hE (by simp; omega) fun E2 h2=>⟨(b,0),rfl,?_⟩
  refine h2.byte (c:=41) rfl (by simp; omega) fun E3 h3=>k E3 ?_
  have:=h3.down hF
  simpa using this
 ·have hl1 : ¬ v.a.length = 1 := fun e => by rw [e] at h1l; cases h1l
  rw [if_neg hl1,Qv8] at hl k
  simp only [List.length_append,List.length_cons,List.length_nil] at hl
  refine ⟨(b,0),rfl,hD.byte (c:=40) rfl (by omega) fun E hE=>fL (hE.le _ _ h1) rfl (fS (hE.le _ _ h1) rfl ?_)⟩
  have hn:=en.2
  rw [en.1]
  refine ⟨by simp [catOk]; omega,by simp [catOk]; omega,?_⟩
  refine lsE hs he hAF hE (by simp; omega) fun E2 h2=>⟨(b,0),rfl,h2.byte (c:=41) rfl (by simp; omega) fun E3 h3=>k E3 ?_⟩
  have:=h3.down hF
  simpa using this
theorem Qux {v:ExV} (hk7:v.k=7) (hl1:v.a.length=1) (he:∀ w ∈ v.a,EW C A b w) {A' B:Heap} {x:Qa} {t:Str} {K:Heap→Prop} (hx:ExIs A v x) (hA:A.le A') (hW:Ww A' B b t) (hl:t.length+(exT v).length≤140737488355328) (k:∀ D,Ww A' D b (t++exT v)→K D):QeY C (some (b,0)) x K B:=by
 obtain ⟨ek,en,hv,hB,hs⟩:=Qay.1 hx
 have h0:0 < v.a.length:=by omega
 apply QkI
 unfold Qgr
 rw [exE7 hk7] at hl k
 refine hW.box fun b1 F D hF h1 hD=>fL (hD.le _ _ h1) rfl ?_
 have hAF:=hA.trans hF
 refine SlIs.ld hs (hAF.trans hD.le) QN (by omega) (i:=0) rfl h0 fun y hy=>?_
 obtain ⟨yk,yn,_⟩:=Qay.1 hy
 have hbk:brkE v.a=decide (v.a[0].k=1∨v.a[0].k=5∨(v.a[0].k=6∧funB v.a[0].n=true)):=by
  generalize v.a=l at *
  cases l with
  | nil=>simp at h0
  | cons w l=>rfl
 intro b12 n12
 refine nwT rfl ?_
 have l12:=Heap.le_put n12 (g:=.row (Qa.c y)) (m:=true)
 have c12:(D.put b12 (.row (Qa.c y))) b12=some (true,.row (Qa.c y)):=Heap.put_same ..
 have hD2:=hD.up l12
 obtain ⟨hF2,hAF2⟩:=hD2.full
 have hbb:b12≠b:=fun e'=>by
  obtain ⟨g,hg⟩:=hD.bl.some
  rw [← e',n12] at hg; cases hg
 have c12':((D.put b12 (.row (Qa.c y))).del b) b12=some (true,.row (Qa.c y)):=by rw [Heap.del_ne _ hbb]; exact c12
 generalize D.put b12 (.row (Qa.c y))=D2 at *
 generalize D2.del b=F2 at *
 have h1':=hAF2 _ _ h1
 have hAF':=hAF.trans hAF2
 simp only [List.length_append,List.length_cons] at hl
 refine ⟨fun _ E=>Ww F2 E b (t++if brkE v.a=true then 40::(exsT cm 0 v.a++[41]) else exsT cm 0 v.a),?_,?_⟩
 ·refine fI c12 rfl ?_
  rw [yk]
  refine jp (P:=v.a[0].k=1∨v.a[0].k=5) D2 (ift.of (fun h=>⟨rfl,fun _=>.inl (by simpa using h),fun _=>rfl⟩) (fun h=>fI c12 rfl ⟨rfl,?_⟩)) fun b1 hb1=>?_
  ·rw [yk]
   constructor
   ·intro h'; exact .inr (by simpa using h')
   ·rintro (e | e)
    ·rw [e] at h; cases h
    ·rw [e]; rfl
  refine jp (P:=v.a[0].k=1∨v.a[0].k=5∨(v.a[0].k=6∧funB v.a[0].n=true)) D2 (ift.of (fun h=>⟨rfl,fun _=>(hb1.1 h).elim .inl fun e=>.inr (.inl e),fun _=>rfl⟩) (fun h=>fI c12 rfl ?_)) fun b2 hb2=>?_
  ·rw [yk]
   have hno:¬ (v.a[0].k=1∨v.a[0].k=5):=fun p=>by rw [hb1.2 p] at h; cases h
   refine ja (funB v.a[0].n) D2 (fun _=>fS c12 rfl ?_) ⟨rfl,?_⟩
   ·rw [yn.1]; exact Qom ⟨rfl,rfl⟩
   ·rw [Bool.and_eq_true]
    constructor
    ·rintro ⟨a1,a2⟩; exact .inr (.inr ⟨by simpa using a1,a2⟩)
    ·rintro (e | e | ⟨e1,e2⟩)
     ·exact absurd (.inl e) hno
     ·exact absurd (.inr e) hno
     ·exact ⟨by rw [e1]; rfl,e2⟩
  refine ift.of (fun h=>fL (hD2.le _ _ h1) rfl ?_) (fun h=>bxT c12 ?_)
  ·have hp : brkE v.a = true := by rw [hbk]; exact decide_eq_true (hb2.1 h)
   rw [if_pos hp] at hl ⊢
   simp only [List.length_append,List.length_cons,List.length_nil] at hl
   exact brE hs he hAF' hF2 (by omega) fun E hE=>hE
  ·have hp : ¬ brkE v.a = true := fun p => by rw [hbk] at p; rw [hb2.2 (of_decide_eq_true p)] at h; cases h
   rw [if_neg hp] at hl ⊢
   rw [Qj2 rfl hl1 h0] at hl ⊢
   exact he _ (List.getElem_mem h0) hy hAF' hF2 (by omega) fun E hE=>hE
 rintro _ E hE
 refine fS (hE.le _ _ h1') rfl ?_
 rw [en.1]
 refine Ww.texts [[46],v.n] hE (by simp only [List.length_append]; simp; omega) fun E2 h2=>k E2 ?_
 have:=(h2.down hAF2).down hF
 simpa using this
theorem QrS {p:Bool} {k:Int} {n:Str} {m:Nat} (h1:k≠1) (h:exN p k n m=true):k=2∨k=3∨k=4∨k=5∨k=6∨k=7∨k=8:=by
 refine Classical.byContradiction fun hn=>?_
 unfold exN at h
 rw [if_neg fun e=>hn (by simp [e]),if_neg fun e=>hn (by simp [e]),if_neg fun e=>hn (by simp [e]),if_neg fun e=>hn (by simp [e]),if_neg fun e=>hn (by simp [e]),if_neg fun e=>hn (by simp [e]),if_neg fun e=>hn (by simp [e])] at h
 cases h
theorem Qqr {p:Bool} {v:ExV} (h:exOk p v=true):∀ w ∈ v.a,exOk p w=true:=by
 rw [Qm7] at h
 by_cases h1:v.k=1
 ·rw [if_pos h1] at h
  simp only [Bool.and_eq_true,decide_eq_true_eq] at h
  intro w hw
  rw [List.length_eq_zero_iff.1 h.1.2] at hw; cases hw
 ·rw [if_neg h1,Bool.and_eq_true] at h
  exact List.all_eq_true.1 h.2
theorem Qt9 (hFm:FmtC C):∀ (v:ExV),(∃ p,exOk p v=true)→EW C A b v:=by
 refine ExV.rec_ fun v ih ⟨p,hok⟩ A' B x t K hx hA hW hl k=>?_
 have he:∀ w ∈ v.a,EW C A b w:=fun w hw=>ih w hw ⟨p,Qqr hok w hw⟩
 have hx0:=hx
 obtain ⟨ek,en,hv,hB,hs⟩:=Qay.1 hx
 have hlen:=hs.len
 apply QlM
 unfold Qg1
 refine hW.box fun b1 F D hF h1 hD=>fI (hD.le _ _ h1) rfl ?_
 have hAF:=hA.trans hF
 rw [ek]
 rw [Qm7] at hok
 refine ift.of (fun h=>?_) (fun n1=>?_)
 ·have hk : v.k = 1 := by simpa using h
  rw [if_pos hk] at hok
  simp only [Bool.and_eq_true] at hok
  have hm:mayV v.v=true:=by have:=hok.1.1; unfold litV at this; simp only [Bool.and_eq_true] at this; exact this.2
  rw [exE1 hk] at hl k
  refine ⟨F,hD.le,(b,0),rfl,fT h1 QsN (Qvh hFm (hv.le (hAF.trans hD.le)) hB (fun _=>by omega) fun E hE=>⟨hD.le.trans hE,?_⟩)⟩
  rw [if_pos hm]
  exact (hD.up hE).str (by omega) fun E2 h2=>⟨h2.le,k E2 (h2.down hF)⟩
 have n1:v.k≠1:=by simpa using n1
 rw [if_neg n1,Bool.and_eq_true,Bool.and_eq_true] at hok
 have hN:=hok.1.1
 refine ift.of (fun h=>?_) (fun n2=>?_)
 ·have hk : v.k = 2 := by simpa using h
  rw [exE2 hk] at hl k
  refine ⟨F,hD.le,(b,0),rfl,fS h1 rfl ?_⟩
  rw [en.1]
  exact hD.str (by omega) fun E2 h2=>⟨h2.le,k E2 (h2.down hF)⟩
 refine ift.of (fun h=>?_) (fun n3=>?_)
 ·have hk : v.k = 3 := by simpa using h
  rw [exE3 hk] at hl k
  exact ⟨(b,0),rfl,hD.byte (c:=95) rfl (by simpa using hl) fun E2 h2=>k E2 (h2.down hF)⟩
 refine ift.of (fun h=>?_) (fun n4=>?_)
 ·have hk : v.k = 4 := by simpa using h
  rw [exE4 hk] at hl k
  simp only [List.length_append,List.length_cons,List.length_nil] at hl
  exact fL (hD.le _ _ h1) rfl (brE hs he hAF hD (by omega) fun E2 h2=>k E2 (h2.down hF))
 refine ift.of (fun h=>?_) (fun n5=>?_)
 ·have hk : v.k = 5 := by simpa using h
  rw [exE5 hk] at hl k
  simp only [List.length_append] at hl
  refine ⟨F,hD.le,(b,0),rfl,fS h1 rfl ?_⟩
  rw [en.1]
  refine hD.str (by omega) fun E2 h2=>⟨h2.le,fL (h2.le _ _ h1) rfl ?_⟩
  rw [hlen]
  refine ift.of (fun h=>?_) (fun h=>?_)
  ·have h0 : ¬ v.a.length = 0 := by have := of_decide_eq_true h; omega
   rw [if_neg h0] at hl k
   simp only [List.length_append,List.length_cons,List.length_nil] at hl
   refine fL (h2.le _ _ h1) rfl (brE hs he hAF h2 (by simp only [List.length_append]; omega) fun E3 h3=>k E3 ?_)
   rw [← List.append_assoc]; exact h3.down hF
  ·have h0 : v.a.length = 0 := by have := of_decide_eq_false h; omega
   rw [if_pos h0,List.append_nil] at k
   exact k E2 (h2.down hF)
 refine ift.of (fun h=>?_) (fun n6=>?_)
 ·have hk : v.k = 6 := by simpa using h
  exact bxT (hD.le _ _ h1) (Qvo hk he hx0 hAF hD hl fun E2 h2=>k E2 (h2.down hF))
 refine ift.of (fun h=>?_) (fun n7=>?_)
 ·have hk : v.k = 7 := by simpa using h
  rw [hk,exN7] at hN
  simp only [Bool.and_eq_true,decide_eq_true_eq] at hN
  exact bxT (hD.le _ _ h1) (Qux hk hN.2 he hx0 hAF hD hl fun E2 h2=>k E2 (h2.down hF))
 refine ift.of (fun h=>?_) (fun n8=>?_)
 ·have hk : v.k = 8 := by simpa using h
  rw [hk,exN8] at hN
  simp only [Bool.and_eq_true,decide_eq_true_eq] at hN
  have hl3:v.a.length=3:=hN.2
  rw [exE8 hk] at hl k
  simp only [List.length_append,List.length_cons,List.length_nil] at hl
  refine hD.box fun b65 F2 D2 hF2 h65 hD2=>?_
  have h1':=hF2 _ _ h1
  have hAF2:=hAF.trans hF2
  refine ⟨fun y E=>∃ i:Nat,y=(i:Int)∧i≤3∧Ww F2 E b (t++exsT ifSep 0 (v.a.take i)),fun y _=>3 - y.toNat,⟨0,rfl,by omega,by simpa [exsT] using hD2⟩,?_⟩
  rintro _ E ⟨i,rfl,hi,hE⟩
  refine ift.of (fun h=>?_) (fun h=>?_)
  ·have hlt : i < 3 := by have := of_decide_eq_true h; simp only [Sl.of] at this; omega
   have hlt2:i < v.a.length:=by omega
   have hp:=Quw (sep:=ifSep) v.a (i+1)
   have hst:=Qtm (sep:=ifSep) hlt2
   rw [hst] at hp
   simp only [List.length_append] at hp
   refine ⟨(b65,0),rfl,rfl,by omega,by simp only [Sl.of]; omega,ifSep i,?_,?_⟩
   ·show rd E (b65,0+(i:Int).toNat*1)=_
    rw [Qd9 (hE.le _ _ h65),show 0+(i:Int).toNat*1=i by omega]
    match i,hlt with
    | 0,_=>rfl
    | 1,_=>rfl
    | 2,_=>rfl
   refine ⟨(b,0),rfl,hE.str (by simp only [List.length_append]; omega) fun E2 h2=>fL (h2.le _ _ h1') rfl ?_⟩
   refine SlIs.ld hs (hAF2.trans h2.le) QN (by omega) rfl hlt2 fun y hy=>?_
   refine he _ (List.getElem_mem hlt2) hy hAF2 h2 (by simp only [List.length_append]; omega) fun E3 h3=>?_
   rw [Q0 (by omega) (by omega)]
   refine ⟨⟨i+1,by omega,by omega,?_⟩,by first | omega | (dsimp only; omega)⟩
   rw [hst]; simpa using h3
  ·have hie : i = 3 := by have := of_decide_eq_false h; simp only [Sl.of] at this; omega
   subst hie
   rw [List.take_of_length_le (by omega)] at hE
   refine ⟨(b,0),rfl,hE.byte (c:=41) rfl (by simp only [List.length_append]; omega) fun E2 h2=>k E2 ?_⟩
   rw [← List.append_assoc]; exact (h2.down hF2).down hF
 ·exfalso
  rcases QrS n1 hN with e | e | e | e | e | e | e
  ·rw [e] at n2; cases n2
  ·rw [e] at n3; cases n3
  ·rw [e] at n4; cases n4
  ·rw [e] at n5; cases n5
  ·rw [e] at n6; cases n6
  ·rw [e] at n7; cases n7
  ·rw [e] at n8; cases n8
end
end
section
open Go Go.Proofs
section
variable {C:Ctx} {A H:Heap} {b:Nat}
theorem fP0 {c:Nat} {m:Bool} {q:Option (Nat×Nat)} {K:Option (Nat×Nat)→Prop} (h:H c=some (m,.row [pv q])) (k:K q):ldP H (c,0) K:=⟨q,by rw [Qd9 h]; rfl,k⟩
theorem jS {R:Str→Heap→Prop} {body:(Str→Heap→Prop)→Prop} (v:Str) (H0:Heap) (h1:body (fun b E=>E=H0∧b=v)) (h2:R v H0):jn (α:=Str) R body:=⟨fun b E=>E=H0∧b=v,h1,by rintro _ _ ⟨rfl,rfl⟩; exact h2⟩
theorem Ww.byteX {B:Heap} {bs:Str} {c:UInt8} {i:Int} {K:Value→Heap→Prop} (h:Ww A B b bs) (hi:i=(c.toNat:Int)) (hl:bs.length+1≤140737488355328) (k:∀ D,Ww A D b (bs++[c])→(∀ c,c≠b→D c=B c)→K .nilIface D):Qo C (some (b,0)) i K B:=by
 subst hi
 exact QjM h.bl liB87 hl (k _ ⟨h.le.put _ _ h.nb,h.nb,IsB.put⟩ fun c hc=>Heap.put_ne _ _ _ hc)
theorem ews (hFm:FmtC C) {p:Bool} {l:List ExV} (h:exsOk p l=true):∀ w ∈ l,EW C A b w:=fun w hw=>by
 rw [Qdl] at h
 exact Qt9 hFm w ⟨p,List.all_eq_true.1 h w hw⟩
theorem Qvy (hFm:FmtC C) {v:LiV} (hok:liOk v=true) {A' B:Heap} {x:Qc} {t:Str} {K:Heap→Prop} (hx:LiIs A v x) (hA:A.le A') (hW:Ww A' B b t) (hl:t.length+(liT v).length≤140737488355328) (k:∀ D,Ww A' D b (t++liT v)→K D):QfX C (some (b,0)) x K B:=by
 obtain ⟨ek,en,hs⟩:=hx
 have hlen:=hs.len
 apply Qjx
 unfold QfL
 refine hW.box fun b1 F D hF h1 hD=>fI (hD.le _ _ h1) rfl ?_
 have hAF:=hA.trans hF
 rw [ek]
 unfold liOk at hok
 unfold liT at hl k
 refine ⟨fun _ E=>Ww F E b (t++if v.k=2 then [110,111,116,32] else [])∧(v.k=1∨v.k=2),?_,?_⟩
 ·refine ift.of (fun h => ?_) (fun n2 => ?_)
  ·have hk : v.k = 2 := by simpa using h
   rw [if_neg (by rw [hk]; decide),if_pos hk] at hl
   simp only [List.length_append,List.length_cons,List.length_nil] at hl
   rw [if_pos hk]
   exact ⟨(b,0),rfl,hD.str (by simp only [List.length_cons,List.length_nil]; omega) fun E hE=>⟨hE,.inr hk⟩⟩
  refine ift.of (fun h=>?_) (fun n1=>?_)
  ·have hk : v.k = 1 := by simpa using h
   rw [if_neg (by rw [hk]; decide),List.append_nil]
   exact ⟨hD,.inl hk⟩
  have m1:v.k≠1:=by simpa using n1
  have m2:v.k≠2:=by simpa using n2
  rw [if_neg m1,if_neg m2] at hl k
  rw [if_neg (fun h=>h.elim m1 m2)] at hok
  refine ift.of (fun h=>?_) (fun n4=>?_)
  ·have hk : v.k = 4 := by simpa using h
   rw [if_neg (by rw [hk]; decide),if_pos hk] at hok
   simp only [Bool.and_eq_true,decide_eq_true_eq] at hok
   have hl1:=hok.1.2
   have h0:0 < v.a.length:=by omega
   rw [if_pos hk,Qj2 rfl hl1 h0] at hl k
   simp only [List.length_append,List.length_cons,List.length_nil] at hl
   refine fS (hD.le _ _ h1) rfl ?_
   rw [en.1]
   refine Ww.texts [v.r,[32,61,32]] hD (by simp; omega) fun E hE=>fL (hE.le _ _ h1) rfl ?_
   refine SlIs.ld hs (hAF.trans hE.le) QN (by omega) (i:=0) rfl h0 fun y hy=>?_
   refine ews hFm hok.2 _ (List.getElem_mem h0) hy hAF hE (by simp; omega) fun E2 h2=>k E2 ?_
   have:=h2.down hF
   simpa using this
  ·have m4 : v.k ≠ 4 := by simpa using n4
   by_cases m3:v.k=3
   ·rw [if_pos m3] at hok
    simp only [Bool.and_eq_true,decide_eq_true_eq] at hok
    have hl1:=hok.1.2
    have h0:0 < v.a.length:=by omega
    rw [if_neg m4] at hl k
    have hbk:isMk v.a=decide (v.a[0].k=5):=by
     generalize v.a=l at *
     cases l with
     | nil=>simp at h0
     | cons w l=>rfl
    refine ⟨fun _ E=>K E,?_,fun _ E h=>h⟩
    refine fL (hD.le _ _ h1) rfl ?_
    refine SlIs.fI hs (hAF.trans hD.le) QN (by omega) (i:=0) (j:=0) rfl h0 (f:=fun y=>y.Kind) (fun _=>rfl) fun y hy=>?_
    rw [(Qay.1 hy).1]
    refine ift.of (fun h=>fL (hD.le _ _ h1) rfl ?_) (fun h=>fL (hD.le _ _ h1) rfl ?_)
    ·have hp : isMk v.a = true := by rw [hbk]; exact decide_eq_true (by simpa using h)
     rw [if_pos hp] at hl k
     simp only [List.length_append,List.length_cons,List.length_nil] at hl
     exact brE hs (ews hFm hok.2) hAF hD (by omega) fun E2 h2=>k E2 (h2.down hF)
    ·have hp : ¬ isMk v.a = true := fun p => by rw [hbk] at p; rw [of_decide_eq_true p] at h; cases h
     rw [if_neg hp,Qj2 rfl hl1 h0] at hl k
     refine SlIs.ld hs (hAF.trans hD.le) QN (by omega) (i:=0) rfl h0 fun y hy=>?_
     exact ews hFm hok.2 _ (List.getElem_mem h0) hy hAF hD (by omega) fun E2 h2=>k E2 (h2.down hF)
   ·rw [if_neg m3,if_neg m4] at hok; cases hok
 rintro _ E ⟨hE,hk⟩
 rw [if_pos hk] at hok
 simp only [Bool.and_eq_true] at hok
 have key:t.length+((if v.k=2 then [110,111,116,32] else [])++(v.r++40::(exsT cm 0 v.a++[41]))).length≤140737488355328∧∀ D,Ww A' D b (t++((if v.k=2 then [110,111,116,32] else [])++(v.r++40::(exsT cm 0 v.a++[41]))))→K D:=by
  rcases hk with hk | hk
  ·rw [if_pos hk] at hl k
   rw [if_neg (by rw [hk]; decide)]
   exact ⟨hl,k⟩
  ·rw [if_neg (by rw [hk]; decide), if_pos hk] at hl k
   rw [if_pos hk]
   exact ⟨hl,k⟩
 obtain ⟨hl,k⟩:=key
 simp only [List.length_append,List.length_cons,List.length_nil] at hl
 refine ⟨F,hE.le,(b,0),rfl,fS h1 rfl ?_⟩
 rw [en.1]
 refine hE.str (by simp only [List.length_append]; omega) fun E2 h2=>⟨h2.le,fL (h2.le _ _ h1) rfl ?_⟩
 refine brE hs (ews hFm hok.2) hAF h2 (by simp only [List.length_append]; omega) fun E3 h3=>k E3 ?_
 have:=h3.down hF
 simpa using this
theorem Qsa (hFm:FmtC C) {l:List LiV} {s:Sl} {A' B:Heap} {t:Str} {K:Heap→Prop} (hok:l.all liOk=true) (hs:LiL A s l) (hA:A.le A') (hW:Ww A' B b t) (hl:t.length+(boT l).length≤140737488355328) (k:∀ D,Ww A' D b (t++boT l)→K D) :
 Qa2 C (some (b,0)) s [44,32] (.func (.func 37) (List.toArray [pv (some (b,0))]) (List.toArray []):Value) K B:=
 QsC (hs.le hA fun _ _ _ h=>h) hW (f:=liT) (fun w hw y D u Φ hW hR hl hk=>⟨_,[pv (some (b,0))],[],rfl,QjH,Qvy hFm (List.all_eq_true.1 hok w hw) hR hA hW hl hk⟩) hl k
theorem Qrd {v:FdV} {A' B:Heap} {x:Qd} {t:Str} {K:Heap→Prop} (hx:FdIs A v x) (hA:A.le A') (hW:Ww A' B b t) (hl:t.length+(fdT v).length≤140737488355328) (k:∀ D,Ww A' D b (t++fdT v)→K D):QfH C (some (b,0)) x K B:=by
 obtain ⟨en,ht⟩:=hx
 apply QiR
 unfold QfE
 refine hW.box fun b1 F D hF h1 hD=>?_
 have hAF:=hA.trans hF
 unfold fdT at hl k
 simp only [List.length_append] at hl
 refine ⟨fun _ E=>Ww F E b (t++if v.n=[] then [] else v.n++[58,32]),?_,?_⟩
 ·refine fS (hD.le _ _ h1) rfl ?_
  rw [en.1]
  refine ift.of (fun h=>fS (hD.le _ _ h1) rfl ?_) (fun h=>?_)
  ·have hn : ¬ v.n = [] := fun e => by rw [e] at h; cases h
   rw [if_neg hn] at hl ⊢
   simp only [List.length_append,List.length_cons,List.length_nil] at hl
   rw [en.1]
   refine Ww.texts [v.n,[58,32]] hD (by simp; omega) fun E hE=>?_
   simpa using hE
  ·have hn : v.n = [] := by simpa using h
   rw [if_pos hn,List.append_nil]; exact hD
 rintro _ E hE
 refine fT (hE.le _ _ h1) Qrx (Qv7 v.t ht hAF hE (by simp only [List.length_append]; omega) fun E2 h2=>k E2 ?_)
 rw [← List.append_assoc]; exact h2.down hF
theorem QpP {l:List FdV} {s:Sl} {A' B:Heap} {t:Str} {K:Heap→Prop} (hs:FdL A s l) (hA:A.le A') (hW:Ww A' B b t) (hl:t.length+(fdsT l).length+2≤140737488355328) (k:∀ D,Ww A' D b (t++40::(fdsT l++[41]))→K D) :
 Qai C (some (b,0)) s (.func (.func 105) (List.toArray [pv (some (b,0))]) (List.toArray []):Value) K B:=
 QrN (hs.le hA fun _ _ _ h=>h) hW (f:=fdT) (fun w hw y D u Φ hW hR hl hk=>⟨_,[pv (some (b,0))],[],rfl,Qja,Qrd hR hA hW hl hk⟩) hl k
theorem QtO {p:Bool} {B:Heap} {t:Str} {K:Heap→Prop} (hW:Ww A B b t) (hl:t.length+(pubT p).length≤140737488355328) (k:∀ D,Ww A D b (t++pubT p)→K D):Qeq C (some (b,0)) p K B:=by
 apply Ql6
 unfold Qhr
 cases p with
 | true=>exact Qcc rfl ⟨(b,0),rfl,hW.str hl fun D hD=>k D hD⟩
 | false=>exact Qcw rfl (k B (by simpa [pubT] using hW))
theorem Quh {v:CnV} {b1:Nat} {A' B:Heap} {x:Qh} {t:Str} {K:Heap→Prop} (hx:CnIs A v x) (hA:A.le A') (hW:Ww A' B b t) (hp:A' b1=some (true,.row [pv (some (b,0))])) (hl:t.length+(cnT v).length≤140737488355328) (k:∀ D,Ww A' D b (t++cnT v)→K D):Qfq C x (b1,0) K B:=by
 obtain ⟨en,hs⟩:=hx
 apply Qh8
 unfold Qfe
 refine hW.box fun b4 F D hF h4 hD=>?_
 have hAF:=hA.trans hF
 have hp':=hF _ _ hp
 unfold cnT at hl k
 simp only [List.length_append] at hl
 refine ⟨F,hD.le,fP0 hp' ⟨(b,0),rfl,fS h4 rfl ?_⟩⟩
 rw [en.1]
 refine hD.str (by omega) fun E hE=>⟨hE.le,fL (hE.le _ _ h4) rfl ?_⟩
 rw [hs.len]
 refine ift.of (fun h=>?_) (fun h=>?_)
 ·have h0 : ¬ v.f.length = 0 := by have := of_decide_eq_true h; omega
  rw [if_neg h0] at hl k
  simp only [List.length_append,List.length_cons,List.length_nil] at hl
  refine fP0 (hE.le _ _ hp') (fL (hE.le _ _ h4) rfl (fP0 (hE.le _ _ hp') ?_))
  refine QpP hs hAF hE (by simp only [List.length_append]; omega) fun E2 h2=>k E2 ?_
  rw [← List.append_assoc]; exact h2.down hF
 ·have h0 : v.f.length = 0 := by have := of_decide_eq_false h; omega
  rw [if_pos h0,List.append_nil] at k
  exact k E (hE.down hF)
theorem Qr2 {v:TdV} {A' B:Heap} {x:Qf} {t:Str} {K:Heap→Prop} (hx:TdIs A v x) (hA:A.le A') (hW:Ww A' B b t) (hl:t.length+(tdT v).length≤140737488355328) (k:∀ D,Ww A' D b (t++tdT v)→K D):QfY C (some (b,0)) x K B:=by
 obtain ⟨ep,en,hps,hcs⟩:=hx
 apply Qjy
 unfold QfM
 refine hW.box fun b1 F1 D1 hF1 h1 hD1=>hD1.box fun b3 F D hF hb3 hD=>?_
 have hb1:=hF _ _ h1
 have hAF:=(hA.trans hF1).trans hF
 unfold tdT at hl k
 simp only [List.length_append,List.length_cons,List.length_nil] at hl
 refine fP0 (hD.le _ _ hb1) (fB (hD.le _ _ hb3) rfl ?_)
 rw [ep]
 refine QtO hD (by omega) fun E1 e1=>fP0 (e1.le _ _ hb1) (fS (e1.le _ _ hb3) rfl ?_)
 rw [en.1]
 refine Ww.texts [[116,121,112,101,32],v.n] e1 (by simp only [List.length_append]; simp; omega) fun E2 e2=>?_
 refine ⟨fun _ E=>Ww F E b (t++pubT v.p++[[116,121,112,101,32],v.n].flatten++(if v.ps.length=0 then [] else 40::(jo [44,32] id 0 v.ps++[41]))),?_,?_⟩
 ·refine fL (e2.le _ _ hb3) rfl ?_
  rw [SlIs.len hps]
  refine ift.of (fun h=>?_) (fun h=>?_)
  ·have h0 : ¬ v.ps.length = 0 := by have := of_decide_eq_true h; omega
   rw [if_neg h0] at hl ⊢
   simp only [List.length_append,List.length_cons,List.length_nil] at hl
   refine fP0 (e2.le _ _ hb1) (fL (e2.le _ _ hb3) rfl ?_)
   refine Qs9 (StL.le hAF hps) e2 (fun w hw D u Φ hW hl hk=>⟨_,[],[pv (some (b1,0))],rfl,Qis,?_⟩) (by simp; omega) fun E3 e3=>e3
   show Qfp C w (b1,0) Φ D
   apply Qh7
   unfold Qfd
   exact fP0 (hW.le _ _ hb1) ⟨(b,0),rfl,hW.str hl fun D2 h2=>hk D2 h2⟩
  ·have h0 : v.ps.length = 0 := by have := of_decide_eq_false h; omega
   rw [if_pos h0,List.append_nil]; exact e2
 rintro _ E3 e3
 refine fP0 (e3.le _ _ hb1) ⟨(b,0),rfl,e3.str (by simp only [List.length_append,List.length_cons,List.flatten_cons,List.flatten_nil,List.length_nil]; omega) fun E4 e4=>fP0 (e4.le _ _ hb1) (fL (e4.le _ _ hb3) rfl ?_)⟩
 refine QsB (hcs.le hAF fun _ _ _ h=>h) e4 (f:=cnT) (fun w hw y D u Φ hW hR hl hk=>⟨_,[],[pv (some (b1,0))],rfl,Qit,Quh hR hAF hW hb1 hl hk⟩) (by simp only [List.length_append,List.length_cons,List.flatten_cons,List.flatten_nil,List.length_nil]; omega) fun E5 e5=>fP0 (e5.le _ _ hb1) ⟨(b,0),rfl,?_⟩
 refine e5.byte (c:=10) rfl (by simp only [List.length_append,List.length_cons,List.flatten_cons,List.flatten_nil,List.length_nil]; omega) fun E6 e6=>k E6 ?_
 have:=(e6.down hF).down hF1
 simpa using this
theorem QsH {v:RdV} {A' B:Heap} {x:Qi} {t:Str} {K:Heap→Prop} (hx:RdIs A v x) (hA:A.le A') (hW:Ww A' B b t) (hl:t.length+(rdT v).length≤140737488355328) (k:∀ D,Ww A' D b (t++rdT v)→K D):Qgi C (some (b,0)) x K B:=by
 obtain ⟨ep,ei,en,hs⟩:=hx
 apply QjT
 unfold Qf7
 refine hW.box fun b1 F D hF h1 hD=>fB (hD.le _ _ h1) rfl ?_
 have hAF:=hA.trans hF
 rw [ep]
 unfold rdT at hl k
 simp only [List.length_append,List.length_cons,List.length_nil] at hl
 refine QtO hD (by omega) fun E1 e1=>?_
 refine jS (if v.i then [105,110,112,117,116,32] else [114,101,108,32]) E1 (fB (e1.le _ _ h1) rfl ?_) ?_
 ·rw [ei]
  refine ift.of (fun h=>⟨rfl,by rw [if_pos h]⟩) (fun h=>⟨rfl,by rw [h]; rfl⟩)
 refine fS (e1.le _ _ h1) rfl ?_
 rw [en.1]
 refine Ww.texts [if v.i then [105,110,112,117,116,32] else [114,101,108,32],v.n] e1 (by simp only [List.length_append,List.flatten_cons,List.flatten_nil,List.length_nil]; omega) fun E2 e2=>fL (e2.le _ _ h1) rfl ?_
 refine QpP hs hAF e2 (by simp only [List.length_append,List.flatten_cons,List.flatten_nil,List.length_nil]; omega) fun E3 e3=>⟨(b,0),rfl,e3.byte (c:=10) rfl (by simp only [List.length_append,List.length_cons,List.flatten_cons,List.flatten_nil,List.length_nil]; omega) fun E4 e4=>k E4 ?_⟩
 have:=e4.down hF
 simpa using this
def joi (f:Nat→Str):Nat→Str
 | 0=>[]
 | n+1=>joi f n++(cm n++f n)
theorem QnX (f:Nat→Str):∀ {n m:Nat},n≤m→(joi f n).length≤(joi f m).length
 | n,0,h=>by rw [Nat.le_zero.1 h]; exact Nat.le_refl _
 | n,m+1,h=>by
  rcases Nat.lt_or_ge n (m+1) with h1 | h1
  ·have := QnX f (n := n) (m := m) (by omega)
   simp only [joi,List.length_append]; omega
  ·rw [show n=m+1 by omega]; exact Nat.le_refl _
theorem QqW:∀ (gs:List Str) (xs:List ExV) (j:Nat) (g:Str) (x:ExV),gs.length=xs.length→agsT j (gs++[g]) (xs++[x])=agsT j gs xs++(cm (j+xs.length)++agT g x)
 | [],[],j,g,x,_=>by simp [agsT]
 | [],_::_,j,g,x,h=>by simp at h
 | _::_,[],j,g,x,h=>by simp at h
 | g'::gs,x'::xs,j,g,x,h=>by
  simp only [List.cons_append,agsT,QqW gs xs (j+1) g x (by simpa using h),List.append_assoc,List.length_cons]
  rw [show j+1+xs.length=j+(xs.length+1) by omega]
theorem Qqo {gs:List Str} {xs:List ExV} {f:Nat→Str} (hl:gs.length=xs.length) (hf:∀ (i:Nat) (h1:i < gs.length) (h2:i < xs.length),f i=agT gs[i] xs[i]):∀ n,n≤xs.length→joi f n=agsT 0 (gs.take n) (xs.take n)
 | 0,_=>rfl
 | n+1,h=>by
  rw [List.take_add_one,List.take_add_one,List.getElem?_eq_getElem (by omega),List.getElem?_eq_getElem (by omega),Option.toList_some,Option.toList_some,QqW _ _ _ _ _ (by simp; omega),joi,Qqo hl hf n (by omega),hf n (by omega) (by omega),List.length_take,Nat.min_eq_left (by omega),Nat.zero_add]
theorem lsq {A B:Heap} {q:Nat} {α:Type} {R:α→Qa→Prop} {s:Sl} {l:List α} {e:Value} {f:Nat→Str} {t:Str} {K:Heap→Prop} (hs:SlIs R Qa.c A s l) (hW:Ww A B b t) (h0:B q=some (true,.row [.int .i64 0]))
 (he:∀ (i:Nat) (hi:i < l.length) (x:Qa) (D:Heap) (u:Str) (Φ:Heap→Prop),Ww A D b u→D q=some (true,.row [.int .i64 (i:Int)])→R l[i] x→u.length+(f i).length≤140737488355328→(∀ D2,Ww A D2 b (u++f i)→D2 q=some (true,.row [.int .i64 ((i+1:Nat):Int)])→Φ D2)→callU Tryz.prog C e [.agg (Qa.c x).toArray] D (fun v H31=>v=.tuple #[]∧Φ H31))
 (hl:t.length+(joi f l.length).length≤140737488355328) (k:∀ D,Ww A D b (t++joi f l.length)→K D):Qa8 C (some (b,0)) s [44,32] e K B:=by
 have hqb:q≠b:=fun e'=>by
  rw [e'] at h0
  rcases hW.bl with h | ⟨_,h⟩
  ·rw [h] at h0; injection h0 with h0; injection h0 with _ h0; cases h0
  ·rw [h] at h0; injection h0 with h0; injection h0 with _ h0; cases h0
 apply QfW
 unfold Qee
 have hlen:=SlIs.len hs
 have hbd:=SlIs.bd hs
 refine ⟨fun y D=>∃ i:Nat,y=(i:Int)∧i≤l.length∧Ww A D b (t++joi f i)∧D q=some (true,.row [.int .i64 (i:Int)]),fun y _=>l.length - y.toNat,⟨0,rfl,Nat.zero_le _,by simpa [joi] using hW,h0⟩,?_⟩
 rintro _ D ⟨i,rfl,hi,hD,hDq⟩
 rw [hlen]
 refine ift.of (fun h=>?_) (fun h=>?_)
 ·have hlt : i < l.length := by have := of_decide_eq_true h; omega
  have hp:=QnX f (n:=i+1) (m:=l.length) (by omega)
  simp only [joi,List.length_append] at hp
  refine SlIs.ld hs hD.le QN (by omega) rfl hlt fun x hx=>?_
  intro b13 n13
  refine nwT rfl ?_
  have l13:=Heap.le_put n13 (g:=.row (Qa.c x)) (m:=true)
  have c13:(D.put b13 (.row (Qa.c x))) b13=some (true,.row (Qa.c x)):=Heap.put_same ..
  have hD2:=hD.up l13
  have hDq2:=l13 _ _ hDq
  generalize D.put b13 (.row (Qa.c x))=D2 at *
  obtain ⟨hF,hAF⟩:=hD2.full
  have hbb:b13≠b:=fun e'=>by
   obtain ⟨g,hg⟩:=hD.bl.some
   rw [← e',n13] at hg; cases hg
  refine ⟨fun _ E=>Ww (D2.del b) E b (t++joi f i++cm i),?_,?_⟩
  ·refine ift.of (fun hp0 => ?_) (fun hp0 => ?_)
   ·have hi0 : i ≠ 0 := by have := of_decide_eq_true hp0; omega
    have e2 : cm i = [44, 32] := by cases i with
     | zero=>exact absurd rfl hi0
     | succ i=>rfl
    rw [e2] at hp ⊢
    refine ⟨_,rfl,hF.str (by simp only [List.length_append]; omega) fun E hE=>hE⟩
   ·have hi0 : i = 0 := by have := of_decide_eq_false hp0; omega
    subst hi0
    simpa [cm] using hF
  ·rintro _ E hE
   have hc:E b13=some (true,.row (Qa.c x)):=hE.le _ _ (by rw [Heap.del_ne _ hbb]; exact c13)
   have hq:E q=some (true,.row [.int .i64 (i:Int)]):=hE.le _ _ (by rw [Heap.del_ne _ hqb]; exact hDq2)
   refine bxT (c:=Qa.c) hc (he i hlt x E _ _ (hE.down hAF) hq hx (by simp only [List.length_append]; omega) fun D3 h3 q3=>?_)
   rw [Q0 (by omega) (by omega)]
   refine ⟨⟨i+1,by omega,by omega,?_,q3⟩,by first | omega | (dsimp only; omega)⟩
   simp only [joi]
   simpa using h3
 ·have hie : i = l.length := by have := of_decide_eq_false h; omega
  subst hie
  exact k D hD
theorem QuI {A' D:Heap} {w:ExV} {y:Qa} {b1 b3 q i:Nat} {gs:List Str} {r:Qk} {u:Str} {K:Heap→Prop} (he:EW C A b w) (hy:ExIs A w y) (hA:A.le A') (hW:Ww A' D b u) (hDq:D q=some (true,.row [.int .i64 (i:Int)])) (hAq:A' q=none)
 (h1:A' b1=some (true,.row [pv (some (b,0))])) (h3:A' b3=some (true,.row (Qk.c r))) (hg:StL A r.Aggs gs) (hi:i < gs.length) (hl:u.length+(agT gs[i] w).length≤140737488355328)
 (k:∀ D2,Ww A' D2 b (u++agT gs[i] w)→D2 q=some (true,.row [.int .i64 ((i+1:Nat):Int)])→K D2):QeE C y (b3,0) (q,0) (b1,0) K D:=by
 have hqb:q≠b:=fun e'=>by
  rw [e'] at hDq
  rcases hW.bl with h | ⟨_,h⟩
  ·rw [h] at hDq; injection hDq with h0; injection h0 with _ h0; cases h0
  ·rw [h] at hDq; injection hDq with h0; injection h0 with _ h0; cases h0
 have hbd:=SlIs.bd hg
 apply QjU
 unfold Qf8
 intro b4 n4
 have l4:=Heap.le_put n4 (g:=.row (Qa.c y)) (m:=true)
 have c4:(D.put b4 (.row (Qa.c y))) b4=some (true,.row (Qa.c y)):=Heap.put_same ..
 have hW2:=hW.up l4
 have hq2:=l4 _ _ hDq
 have h4q:b4≠q:=fun e=>by rw [e,hDq] at n4; cases n4
 have hbb:b4≠b:=fun e'=>by
  obtain ⟨g,hg⟩:=hW.bl.some
  rw [e',hg] at n4; cases n4
 generalize D.put b4 (.row (Qa.c y))=D2 at *
 refine fL (hW2.le _ _ h3) rfl ⟨(i:Int),by rw [Qd9 hq2]; rfl,?_⟩
 refine SlIs.at_ hg (hA.trans hW2.le) (z:=1) (fun _=>rfl) (by omega) rfl hi fun p z hz hr=>⟨z,hr 0 _ rfl,⟨(i:Int),by rw [Qd9 hq2]; rfl,?_⟩⟩
 rw [hz.1]
 dsimp only
 rw [Q0 (by omega) (by omega)]
 refine ⟨_,hq2,Nat.zero_lt_one,?_⟩
 dsimp only
 have hW3:Ww A' (D2.put q (.row [.int .i64 ((i+1:Nat):Int)])) b u:=⟨hW2.le.put _ _ hAq,hW2.nb,by
  have:=hW2.bl
  unfold IsB at this ⊢
  rw [Heap.put_ne _ _ _ (Ne.symm hqb)]; exact this⟩
 have q3:(D2.put q (.row [.int .i64 ((i+1:Nat):Int)])) q=some (true,.row [.int .i64 ((i+1:Nat):Int)]):=Heap.put_same ..
 have c43:(D2.put q (.row [.int .i64 ((i+1:Nat):Int)])) b4=some (true,.row (Qa.c y)):=by rw [Heap.put_ne _ _ _ h4q]; exact c4
 rw [show (List.set [Value.int .i64 (i:Int)] 0 (.int .i64 ((i:Int)+1)))=[.int .i64 ((i+1:Nat):Int)] from by simp]
 generalize D2.put q (.row [.int .i64 ((i+1:Nat):Int)])=D3 at *
 obtain ⟨hG,hAG⟩:=hW3.full
 have gq:(D3.del b) q=some (true,.row [.int .i64 ((i+1:Nat):Int)]):=by rw [Heap.del_ne _ hqb]; exact q3
 have g4:(D3.del b) b4=some (true,.row (Qa.c y)):=by rw [Heap.del_ne _ hbb]; exact c43
 generalize D3.del b=G at *
 have g1:=hAG _ _ h1
 unfold agT at hl k
 refine ift.of (fun h=>?_) (fun h=>?_)
 ·have h0 : gs[i] = [] := by simpa using h
  rw [if_pos h0] at hl k
  refine fP0 (hG.le _ _ g1) (bxT (hG.le _ _ g4) (he hy (hA.trans hAG) hG (by omega) fun D4 h4=>k D4 (h4.down hAG) (h4.le _ _ gq)))
 ·have h0 : ¬ gs[i] = [] := fun e => by rw [e] at h; cases h
  rw [if_neg h0] at hl k
  simp only [List.length_append,List.length_cons,List.length_nil] at hl
  refine fP0 (hG.le _ _ g1) (Ww.texts [gs[i],[40]] hG (by simp; omega) fun E2 e2=>fP0 (e2.le _ _ g1) (bxT (e2.le _ _ g4) ?_))
  refine he hy (hA.trans hAG) e2 (by simp; omega) fun E3 e3=>fP0 (e3.le _ _ g1) ⟨(b,0),rfl,e3.byte (c:=41) rfl (by simp; omega) fun E4 e4=>k E4 ?_ (e4.le _ _ gq)⟩
  have:=e4.down hAG
  simpa using this
theorem QuJ (hFm:FmtC C) {v:RuV} (hok:ruOk v=true) {A' B:Heap} {x:Qk} {t:Str} {K:Heap→Prop} (hx:RuIs A v x) (hA:A.le A') (hW:Ww A' B b t) (hl:t.length+(ruT v).length≤140737488355328) (k:∀ D,Ww A' D b (t++ruT v)→K D):Qhe C (some (b,0)) x K B:=by
 obtain ⟨en,ha,hg,hb⟩:=hx
 unfold ruOk at hok
 simp only [Bool.and_eq_true,decide_eq_true_eq] at hok
 obtain ⟨⟨⟨⟨⟨o1,o2⟩,o3⟩,o4⟩,o5⟩,o6⟩:=hok
 apply QlN
 unfold Qg2
 refine hW.box fun b1 F1 D1 hF1 h1 hD1=>hD1.box fun b3 F D hF hb3 hD=>?_
 have hb1:=hF _ _ h1
 have hAF:=(hA.trans hF1).trans hF
 unfold ruT at hl k
 simp only [List.length_append,List.length_cons,List.length_nil] at hl
 refine ⟨F,hD.le,fP0 hb1 ⟨(b,0),rfl,fS hb3 rfl ?_⟩⟩
 rw [en.1]
 refine hD.str (by omega) fun E1 e1=>⟨e1.le,?_⟩
 intro q nq
 have hqb:q≠b:=fun e'=>by
  obtain ⟨g,hg⟩:=e1.bl.some
  rw [e',hg] at nq; cases nq
 have hFq:=e1.le.none nq
 refine ⟨_,Heap.put_same ..,Nat.zero_lt_one,?_⟩
 dsimp only
 rw [Heap.put_put]
 have e2:Ww F (E1.put q (.row [.int .i64 0])) b (t++v.r):=e1.up (Heap.le_put nq)
 have q2:(E1.put q (.row [.int .i64 0])) q=some (true,.row [.int .i64 0]):=Heap.put_same ..
 rw [show List.set [Value.int .i64 0] 0 (.int .i64 0)=[.int .i64 0] from rfl]
 generalize E1.put q (.row [.int .i64 0])=E2 at *
 refine fP0 (e2.le _ _ hb1) (fL (e2.le _ _ hb3) rfl ?_)
 apply QeK
 unfold Qcy
 have hfj:=Qqo (gs:=v.g) (xs:=v.a) (f:=fun i=>if h:i < v.g.length∧i < v.a.length then agT v.g[i] v.a[i] else []) o3 (fun i h1 h2=>dif_pos ⟨h1,h2⟩) v.a.length (Nat.le_refl _)
 rw [List.take_length,List.take_of_length_le (by omega)] at hfj
 refine ⟨(b,0),rfl,e2.byteX (c:=40) rfl (by simp only [List.length_append]; omega) fun E3 e3 o3'=>?_⟩
 refine lsq (f:=fun i=>if h:i < v.g.length∧i < v.a.length then agT v.g[i] v.a[i] else []) (ha.le hAF fun _ _ _ h=>h) e3 (by rw [o3' _ hqb]; exact q2) (fun i hi y D u Φ hW hq hR hl hk=>?_) (by rw [hfj]; simp only [List.length_append,List.length_cons,List.length_nil]; omega) fun E4 e4=>?_
 ·have hi2 : i < v.g.length := by omega
  rw [dif_pos ⟨hi2,hi⟩] at hl hk
  refine ⟨_,[],[pv (some (b3,0)),pv (some (q,0)),pv (some (b1,0))],rfl,Qkf,?_⟩
  show QeE C y (b3,0) (q,0) (b1,0) Φ D
  exact QuI (ews hFm o4 _ (List.getElem_mem hi)) hR hAF hW hq hFq hb1 hb3 hg hi2 hl hk
 rw [hfj] at e4
 refine ⟨(b,0),rfl,e4.byte (c:=41) rfl (by simp only [List.length_append,List.length_cons,List.length_nil]; omega) fun E5 e5=>?_⟩
 refine ⟨fun _ E=>Ww F E b (t++v.r++[40]++agsT 0 v.g v.a++[41]++(if v.b.length=0 then [] else [32,58,45,32]++boT v.b)),?_,?_⟩
 ·refine fL (e5.le _ _ hb3) rfl ?_
  rw [hb.len]
  refine ift.of (fun h=>?_) (fun h=>?_)
  ·have h0 : ¬ v.b.length = 0 := by have := of_decide_eq_true h; omega
   rw [if_neg h0] at hl ⊢
   simp only [List.length_append,List.length_cons,List.length_nil] at hl
   refine fP0 (e5.le _ _ hb1) ⟨(b,0),rfl,e5.str (by simp only [List.length_append,List.length_cons,List.length_nil]; omega) fun E6 e6=>fP0 (e6.le _ _ hb1) (fL (e6.le _ _ hb3) rfl (fP0 (e6.le _ _ hb1) ?_))⟩
   refine Qsa hFm o5 hb hAF e6 (by simp only [List.length_append,List.length_cons,List.length_nil]; omega) fun E7 e7=>?_
   simpa using e7
  ·have h0 : v.b.length = 0 := by have := of_decide_eq_false h; omega
   rw [if_pos h0,List.append_nil]; exact e5
 rintro _ E6 e6
 refine fP0 (e6.le _ _ hb1) ⟨(b,0),rfl,e6.str (by simp only [List.length_append,List.length_cons,List.length_nil]; omega) fun E7 e7=>k E7 ?_⟩
 have:=(e7.down hF).down hF1
 simpa using this
end
end
section
open Go Go.Proofs
theorem Qu7 {α:Type} (f:α→Str):∀ (i:Nat) (l:List α),jo [] f i l=(l.map f).flatten
 | i,[]=>rfl
 | i,v::l=>by simp only [jo,Qu7 f (i+1) l,List.map_cons,List.flatten_cons,ite_self,List.nil_append]
theorem QtD (m:MoV):moT m=hdT m.n++(jo [] imT 0 m.im++(jo [] tdT 0 m.ty++(jo [] rdT 0 m.re++(jo [] ruT 0 m.ru++jo [] neT 0 m.ne)))):=by
 unfold moT moL
 simp only [List.flatten_cons,List.flatten_append,Qu7]
section
variable {C:Ctx} {A H:Heap} {b:Nat}
theorem QtM {v:Str} {b1:Nat} {A' B:Heap} {x:Qn} {t:Str} {K:Heap→Prop} (hx:ImIs v x) (hW:Ww A' B b t) (hp:A' b1=some (true,.row [pv (some (b,0))])) (hl:t.length+(imT v).length≤140737488355328) (k:∀ D,Ww A' D b (t++imT v)→K D):QkT C x (b1,0) K B:=by
 apply Qob
 unfold Qks
 refine hW.box fun b4 F D hF h4 hD=>?_
 unfold imT at hl k
 simp only [List.length_append,List.length_cons,List.length_nil] at hl
 refine fP0 (hD.le _ _ (hF _ _ hp)) (fS (hD.le _ _ h4) rfl ?_)
 rw [hx.1]
 refine Ww.texts [[105,109,112,111,114,116,32],v,[10]] hD (by simp; omega) fun E hE=>k E ?_
 have:=hE.down hF
 simpa using this
theorem QtN (hFm:FmtC C) {v:NeV} (hok:neOk v=true) {b1:Nat} {A' B:Heap} {x:Ql} {t:Str} {K:Heap→Prop} (hx:NeIs A v x) (hA:A.le A') (hW:Ww A' B b t) (hp:A' b1=some (true,.row [pv (some (b,0))])) (hl:t.length+(neT v).length≤140737488355328) (k:∀ D,Ww A' D b (t++neT v)→K D):QkU C x (b1,0) K B:=by
 unfold neOk at hok
 simp only [Bool.and_eq_true] at hok
 apply Qoc
 unfold Qkt
 refine hW.box fun b4 F D hF h4 hD=>?_
 have hp':=hF _ _ hp
 unfold neT at hl k
 simp only [List.length_append,List.length_cons,List.length_nil] at hl
 refine fP0 (hD.le _ _ hp') (fS (hD.le _ _ h4) rfl ?_)
 rw [hx.1.1]
 refine Ww.texts [[110,101,118,101,114,32],v.n,[32,58,45,32]] hD (by simp; omega) fun E hE=>?_
 refine fP0 (hE.le _ _ hp') (fL (hE.le _ _ h4) rfl (fP0 (hE.le _ _ hp') ?_))
 refine Qsa hFm hok.2 hx.2 (hA.trans hF) hE (by simp; omega) fun E2 h2=>fP0 (h2.le _ _ hp') ⟨(b,0),rfl,?_⟩
 refine h2.str (by simp; omega) fun E3 h3=>k E3 ?_
 have:=h3.down hF
 simpa using this
theorem Qr5 (hT:MaxC C) (hFm:FmtC C) {v:MoV} {x:Qg} {K:Str→Int→Heap→Prop} (hx:MoIs A v x) (hA:A.le H) (hb:moD v≤4611686018427387904) (hl:moC v=0→(moT v).length≤140737488355328) (k:∀ D,H.le D→K (if moC v=0 then moT v else []) (moC v) D):QcZ C x K H:=by
 apply Qqh
 unfold QmL
 refine box1 fun b1 H2 hle h1=>bxT h1 (Qr4 hT hx (hA.trans hle) hb ?_)
 refine ift.of (fun h=>?_) (fun h=>?_)
 ·have hc : ¬ moC v = 0 := by simpa using h
  have:=k H2 hle
  rw [if_neg hc] at this; exact this
 have hc:moC v=0:=by simpa using h
 have hl:=hl hc
 have k:=fun D hD=>k D hD
 rw [if_pos hc,hc] at k
 have hok:moOk v=true:=by
  unfold moC at hc
  split at hc
  ·cases hc
  ·split at hc
   ·cases hc
   ·rename_i h2; simpa using h2
 obtain ⟨en,him,hty,hre,hru,hne⟩:=hx
 unfold moOk at hok
 simp only [Bool.and_eq_true] at hok
 obtain ⟨⟨⟨⟨⟨o1,o2⟩,o3⟩,o4⟩,o5⟩,o6⟩:=hok
 rw [QtD] at hl k
 simp only [List.length_append] at hl
 intro b n8
 have hW0:Ww H2 (H2.put b (.trow 87 0 [pv none,slv Sl.nil])) b []:=⟨Heap.le_put n8,n8,IsB.new⟩
 generalize H2.put b (.trow 87 0 [pv none,slv Sl.nil])=D0 at *
 intro b10 n10
 refine ⟨_,Heap.put_same ..,Nat.zero_lt_one,?_⟩
 dsimp only
 rw [Heap.put_put,show List.set [pv none] 0 (pv (some (b,0)))=[pv (some (b,0))] from rfl]
 have hbb:b10≠b:=fun e'=>by
  obtain ⟨g,hg⟩:=hW0.bl.some
  rw [e',hg] at n10; cases n10
 obtain ⟨hW,hHF⟩:=(hW0.up (Heap.le_put n10 (g:=.row [pv (some (b,0))]))).full
 have hp:((D0.put b10 (.row [pv (some (b,0))])).del b) b10=some (true,.row [pv (some (b,0))]):=by rw [Heap.del_ne _ hbb]; exact Heap.put_same ..
 generalize D0.put b10 (.row [pv (some (b,0))])=D1 at *
 generalize D1.del b=F at *
 have h1':=hHF _ _ h1
 have hAF:=(hA.trans hle).trans hHF
 refine fP0 (hW.le _ _ hp) (fS (hW.le _ _ h1') rfl ?_)
 rw [en.1]
 have hh:[[109,111,100,117,108,101,32],v.n,[10]].flatten=hdT v.n:=by simp [hdT]
 refine Ww.texts [[109,111,100,117,108,101,32],v.n,[10]] hW (by rw [hh]; simp only [List.length_nil]; omega) fun E1 e1=>?_
 rw [hh,List.nil_append] at e1
 refine fP0 (e1.le _ _ hp) (fL (e1.le _ _ h1') rfl ?_)
 refine QtA (him.le hAF fun _ _ _ h=>h) e1 (f:=imT) (fun w hw y D u Φ hW hR hl hk=>⟨_,[],[pv (some (b10,0))],rfl,QoB,QtM hR hW hp hl hk⟩) (by omega) fun E2 e2=>?_
 refine fP0 (e2.le _ _ hp) (fL (e2.le _ _ h1') rfl (fP0 (e2.le _ _ hp) ?_))
 refine QsD (hty.le hAF fun _ _ _ h=>h) e2 (f:=tdT) (fun w hw y D u Φ hW hR hl hk=>⟨_,[pv (some (b,0))],[],rfl,QjI,Qr2 hR hAF hW hl hk⟩) (by simp only [List.length_append]; omega) fun E3 e3=>?_
 refine fP0 (e3.le _ _ hp) (fL (e3.le _ _ h1') rfl (fP0 (e3.le _ _ hp) ?_))
 refine QtB (hre.le hAF fun _ _ _ h=>h) e3 (f:=rdT) (fun w hw y D u Φ hW hR hl hk=>⟨_,[pv (some (b,0))],[],rfl,Qke,QsH hR hAF hW hl hk⟩) (by simp only [List.length_append]; omega) fun E4 e4=>?_
 refine fP0 (e4.le _ _ hp) (fL (e4.le _ _ h1') rfl (fP0 (e4.le _ _ hp) ?_))
 refine QvA (hru.le hAF fun _ _ _ h=>h) e4 (f:=ruT) (fun w hw y D u Φ hW hR hl hk=>⟨_,[pv (some (b,0))],[],rfl,QlZ,QuJ hFm (List.all_eq_true.1 o5 w hw) hR hAF hW hl hk⟩) (by simp only [List.length_append]; omega) fun E5 e5=>?_
 refine fP0 (e5.le _ _ hp) (fL (e5.le _ _ h1') rfl ?_)
 refine QuB (hne.le hAF fun _ _ _ h=>h) e5 (f:=neT) (fun w hw y D u Φ hW hR hl hk=>⟨_,[],[pv (some (b10,0))],rfl,QoC,QtN hFm (List.all_eq_true.1 o6 w hw) hR hAF hW hp hl hk⟩) (by simp only [List.length_append]; omega) fun E6 e6=>?_
 refine fP0 (e6.le _ _ hp) ⟨(b,0),rfl,QqK e6.bl liB87 (by simp only [List.length_append]; omega) ?_⟩
 have:=k (E6.put b (.bld tyW tyE (hdT v.n++jo [] imT 0 v.im++jo [] tdT 0 v.ty++jo [] rdT 0 v.re++jo [] ruT 0 v.ru++jo [] neT 0 v.ne))) ((hle.trans hHF).trans (e6.le.put _ _ e6.nb))
 simpa only [List.append_assoc] using this
end
end
section
open Go Go.Proofs
/-- the sum of a list -/
def sL {α:Type} (f:α→Nat):List α→Nat
 | []=>0
 | v::l=>f v+sL f l
theorem QoO {α:Type} (f:α→Nat):∀ (a b:List α),sL f (a++b)=sL f a+sL f b
 | [],b=>by simp [sL]
 | v::a,b=>by simp only [List.cons_append,sL,QoO f a b]; omega
theorem QgV {α:Type} {f:α→Nat} {l:List α} {i:Nat} (h:i < l.length):sL f (l.take (i+1))=sL f (l.take i)+f l[i]:=by
 rw [List.take_add_one,List.getElem?_eq_getElem h,Option.toList_some,QoO]; simp [sL]
theorem Qjc {α:Type} {f g:α→Nat} {l:List α} (h:∀ v ∈ l,f v≤g v):sL f l≤sL g l:=by
 induction l with
 | nil=>exact Nat.le_refl _
 | cons v l ih=>
  simp only [sL]
  have:=h v (List.mem_cons_self ..)
  have:=ih fun w hw=>h w (List.mem_cons_of_mem _ hw)
  omega
theorem Qkg {α : Type} (c : Nat) (f : α → Nat) : ∀ l : List α, sL (fun v => c * f v) l = c * sL f l
 | []=>rfl
 | v::l=>by simp only [sL,Qkg c f l,Nat.mul_add]
theorem Qrs {α : Type} : ∀ l : List α, sL (fun _ => 1) l = l.length
 | []=>rfl
 | v::l=>by simp only [sL,Qrs l,List.length_cons]; omega
theorem Qj4 {α:Type} {f g:α→Nat} {l:List α} (h:∀ v ∈ l,f v≤g v):mxL f l≤sL g l:=by
 induction l with
 | nil=>exact Nat.le_refl _
 | cons v l ih=>
  simp only [sL,mxL]
  have:=h v (List.mem_cons_self ..)
  have:=ih fun w hw=>h w (List.mem_cons_of_mem _ hw)
  omega
mutual
def tySz:TyV→Nat
 | .mk _ a=>tysSz a+1
def tysSz:List TyV→Nat
 | []=>0
 | v::l=>tySz v+tysSz l
end
mutual
def exSz:ExV→Nat
 | .mk _ _ _ a=>exsSz a+1
def exsSz:List ExV→Nat
 | []=>0
 | v::l=>exSz v+exsSz l
end
theorem QqH (v:TyV):tySz v=sL tySz v.a+1:=by
 obtain ⟨n,a⟩:=v
 have:∀ l,tysSz l=sL tySz l:=fun l=>by
  induction l with
  | nil=>rfl
  | cons v l ih=>simp only [tysSz,sL,ih]
 simp only [tySz,TyV.a,this]
theorem Qm8 (v:ExV):exSz v=sL exSz v.a+1:=by
 obtain ⟨k,n,u,a⟩:=v
 have:∀ l,exsSz l=sL exSz l:=fun l=>by
  induction l with
  | nil=>rfl
  | cons v l ih=>simp only [exsSz,sL,ih]
 simp only [exSz,ExV.a,this]
def fdsSz (l:List FdV):Nat:=sL (fun f=>tySz f.t) l
def liSz (x:LiV):Nat:=sL exSz x.a+1
def cnSz (c:CnV):Nat:=fdsSz c.f+1
def tdSz (t:TdV):Nat:=sL cnSz t.cs+t.ps.length+1
def rdSz (r:RdV):Nat:=fdsSz r.f+1
def ruSz (r:RuV):Nat:=sL exSz r.a+sL liSz r.b+1
def neSz (n:NeV):Nat:=sL liSz n.b+1
def moSz (m:MoV):Nat:=m.im.length+sL tdSz m.ty+sL rdSz m.re+sL ruSz m.ru+sL neSz m.ne
theorem Qv5:∀ v,tyD v≤tySz v:=by
 refine TyV.rec_ fun v ih=>?_
 rw [Qt2,QqH]
 have:=Qj4 ih
 omega
theorem Qu4:∀ v,exD v≤exSz v:=by
 refine ExV.rec_ fun v ih=>?_
 rw [Qtj,Qm8]
 have:=Qj4 ih
 omega
theorem Qto (l:List FdV):fdsD l≤fdsSz l:=Qj4 fun v _=>Qv5 v.t
theorem QvY (x:LiV):liD x≤liSz x:=by
 unfold liD liSz
 rw [QlS]
 have:=Qj4 (l:=x.a) fun v _=>Qu4 v
 omega
theorem Qu9 (m:MoV):moD m≤moSz m:=by
 unfold moD moSz
 have h1:mxL tdD m.ty≤sL tdSz m.ty:=Qj4 fun t _=>by
  unfold tdD tdSz
  have:=Qj4 (f:=fun c:CnV=>fdsD c.f) (g:=cnSz) (l:=t.cs) fun c _=>by unfold cnSz; have:=Qto c.f; omega
  omega
 have h2:mxL (fun r:RdV=>fdsD r.f) m.re≤sL rdSz m.re:=Qj4 fun r _=>by unfold rdSz; have:=Qto r.f; omega
 have hl:∀ l:List LiV,lisD l≤sL liSz l:=fun l=>Qj4 fun x _=>QvY x
 have h3:mxL ruD m.ru≤sL ruSz m.ru:=Qj4 fun r _=>by
  unfold ruD ruSz
  rw [QlS]
  have:=Qj4 (l:=r.a) fun v _=>Qu4 v
  have:=hl r.b
  omega
 have h4:mxL (fun n:NeV=>lisD n.b) m.ne≤sL neSz m.ne:=Qj4 fun n _=>by unfold neSz; have:=hl n.b; omega
 omega
theorem Qop {α : Type} {sep : Str} {f : α → Str} : ∀ (i : Nat) (l : List α), (jo sep f i l).length ≤ sL (fun v => (f v).length + sep.length) l
 | i,[]=>Nat.le_refl _
 | i,v::l=>by
  have:=Qop (sep:=sep) (f:=f) (i+1) l
  simp only [jo,sL,List.length_append]
  by_cases h:i=0
  ·rw [if_pos h]; simp only [List.length_nil]; omega
  ·rw [if_neg h]; omega
theorem Qqs {sep : Nat → Str} (hs : ∀ i, (sep i).length ≤ 6) : ∀ (i : Nat) (l : List ExV), (exsT sep i l).length ≤ sL (fun v => (exT v).length + 6) l
 | i,[]=>Nat.le_refl _
 | i,v::l=>by
  have:=Qqs hs (i+1) l
  have:=hs i
  simp only [exsT,sL,List.length_append]; omega
theorem Qgd {s:Str} (h:namS s=true):s.length≤32:=by
 unfold namS nameS at h
 simp only [Bool.and_eq_true,decide_eq_true_eq] at h
 exact h.1.1.1.2
theorem QnY {s:Str} (h:longS s=true):s.length≤65:=by
 unfold longS at h
 by_cases hm:(46:UInt8) ∈ s
 ·obtain ⟨a,b,e1,e2⟩:=QnV s hm
  rw [e1,QlP a b e2] at h
  simp only [Bool.and_eq_true] at h
  have:=Qgd h.1
  have:=Qgd h.2
  rw [e1]; simp only [List.length_append,List.length_cons]; omega
 ·rw [QlQ s hm] at h
  have:=Qgd h; omega
theorem QtH {s:Str} (h:parS s=true):s.length≤33:=by
 cases s with
 | nil=>simp
 | cons c t=>
  simp only [parS,Bool.and_eq_true] at h
  have:=Qgd h.2
  simp only [List.length_cons]; omega
theorem Qt7 {s:Str} (h:varS s=true):s.length≤32:=by
 unfold varS at h
 simp only [Bool.and_eq_true,decide_eq_true_eq] at h
 exact h.1.1.2
theorem Qv1 {s:Str} (h:0 < arS s):s.length≤3:=by
 unfold arS at h
 split at h
 ·rename_i h1
  have h1:=List.contains_iff_mem.1 h1
  revert h1
  have:∀ w ∈ opsW,w.length≤3:=by decide
  exact this s
 ·split at h
  ·rename_i h1
   rcases h1 with h1 | h1
   ·rw [h1]; decide
   ·unfold funB at h1
    rcases of_decide_eq_true h1 with h1 | h1 | h1 | h1 <;> rw [h1] <;> decide
  ·omega
theorem QvS {s:Str} (h:agOk s=true):s.length≤5:=by
 rcases of_decide_eq_true h with h | h | h | h | h <;> rw [h] <;> decide
theorem QvO {n:Str} {m:Nat} (h:tyN n m=true):n.length≤65:=by
 unfold tyN at h
 split at h
 ·rename_i h1; rcases h1 with h1 | h1 | h1 | h1 <;> rw [h1] <;> decide
 ·split at h
  ·rename_i h1; rw [h1]; decide
  ·simp only [Bool.or_eq_true,Bool.and_eq_true] at h
   rcases h with h | h
   ·have:=QtH h.1; omega
   ·exact QnY h.1
theorem QvP:∀ v,tyOk v=true→(tyT v).length+2≤100*tySz v:=by
 refine TyV.rec_ fun v ih h=>?_
 rw [Qr1,Bool.and_eq_true,List.all_eq_true] at h
 have h1:=QvO h.1
 have h2:(jo [44,32] tyT 0 v.a).length≤100*sL tySz v.a:=by
  refine Nat.le_trans (Qop 0 v.a) ?_
  rw [← Qkg]
  exact Qjc fun w hw=>ih w hw (h.2 w hw)
 rw [Qt3,QqH]
 simp only [List.length_append]
 have h3:(if v.n=tupS then ([]:Str) else v.n).length≤65:=by split <;> first | exact h1 | simp
 have h4:(if v.n=tupS∨0 < v.a.length then 40::(jo [44,32] tyT 0 v.a++[41]) else []).length≤(jo [44,32] tyT 0 v.a).length+2:=by split <;> simp
 omega
theorem Qse {nm:Bool} {l:List FdV} (h:∀ f ∈ l,fdOk nm f=true):(fdsT l).length≤100*(fdsSz l+l.length):=by
 unfold fdsT fdsSz
 refine Nat.le_trans (Qop 0 l) ?_
 rw [Nat.mul_add,← Qkg,← Qrs l,← Qkg]
 have:∀ l:List FdV,(∀ f ∈ l,fdOk nm f=true)→sL (fun v=>(fdT v).length+([44,32]:Str).length) l≤sL (fun v=>100*tySz v.t) l+sL (fun _=>100*1) l:=by
  intro l
  induction l with
  | nil=>intro _; exact Nat.le_refl _
  | cons f l ih=>
   intro h
   have h1:=h f (List.mem_cons_self ..)
   have h2:=ih fun w hw=>h w (List.mem_cons_of_mem _ hw)
   unfold fdOk at h1
   simp only [Bool.and_eq_true,Bool.or_eq_true] at h1
   have h3:=QvP f.t h1.2
   have h4:f.n.length≤32:=by
    rcases h1.1 with h1 | h1
    ·exact Qgd h1
    ·rw [List.isEmpty_iff.1 h1.2]; simp
   simp only [sL]
   have h5:(fdT f).length≤f.n.length+2+(tyT f.t).length:=by
    unfold fdT
    simp only [List.length_append]
    split <;> simp
   simp only [List.length_cons,List.length_nil] at h2 ⊢
   omega
 exact this l h
theorem QuV (v:TyV):1≤tySz v:=by rw [QqH]; omega
theorem Qut (v:ExV):1≤exSz v:=by rw [Qm8]; omega
theorem Qtp (l:List FdV):l.length≤fdsSz l:=by
 rw [← Qrs l]; exact Qjc fun v _=>QuV v.t
theorem QtG (i:Nat):(noSep i).length≤6:=by simp [noSep]
theorem QqY (i:Nat):(cm i).length≤6:=by cases i <;> simp [cm]
theorem QvX (i:Nat):(ifSep i).length≤6:=by
 match i with
 | 0=>simp [ifSep]
 | 1=>simp [ifSep]
 | i+2=>simp [ifSep]
section
variable {A:Heap}
theorem Qtv {v:V} (hB:VB v) (h:litV v=true):(showV v).length≤17000:=by
 unfold litV at h
 simp only [Bool.and_eq_true,decide_eq_true_eq] at h
 have hm:=(Qqw v).1 h.2
 have:=QtY v hB hm.2.1 hm.2.2
 have hl:v.l=[]:=by
  rcases (Qqx hm.2.1).2 with h1 | h1 | h1 | h1 | h1 | h1
  ·exact h1.2.2.2
  ·exact h1.2.2
  ·exact h1.2.2.2
  ·exact h1.2.2
  ·exfalso; have:=h1.1; omega
  ·exfalso; have:=h1.1; omega
 have hz:vsize v=1:=by
  obtain ⟨k,n,s,l⟩:=v
  have hl:l=[]:=hl
  subst hl; rfl
 rw [hz] at this; omega
theorem Qtk {p:Bool}:∀ v:ExV,∀ x,ExIs A v x→exOk p v=true→(exT v).length+6≤18000*exSz v:=by
 refine ExV.rec_ fun v ih x hx h=>?_
 obtain ⟨ek,en,hv,hB,hs⟩:=Qay.1 hx
 have hsub:=Qqr h
 have hl:∀ {sep:Nat→Str},(∀ i,(sep i).length≤6)→(exsT sep 0 v.a).length≤18000*sL exSz v.a:=fun hsep=>by
  refine Nat.le_trans (Qqs hsep 0 v.a) ?_
  rw [← Qkg]
  refine Qjc fun w hw=>?_
  obtain ⟨i,hi,rfl⟩:=List.getElem_of_mem hw
  obtain ⟨xs,_,_,h3,_,h4⟩:=hs
  exact ih _ hw _ (h4 i _ _ (List.getElem?_eq_getElem hi) (List.getElem?_eq_getElem (by omega))) (hsub _ hw)
 rw [Qm8]
 have hcm:=hl QqY
 rw [Qm7] at h
 by_cases h1:v.k=1
 ·rw [if_pos h1] at h
  simp only [Bool.and_eq_true] at h
  rw [exE1 h1]
  have:=Qtv hB h.1.1
  omega
 rw [if_neg h1] at h
 simp only [Bool.and_eq_true] at h
 have hN:=h.1.1
 rcases QrS h1 hN with hk | hk | hk | hk | hk | hk | hk
 ·rw [exE2 hk]
  rw [hk,exN2,Bool.and_eq_true] at hN
  have:=Qt7 hN.1; omega
 ·rw [exE3 hk]; simp only [List.length_cons,List.length_nil]; omega
 ·rw [exE4 hk]
  simp only [List.length_append,List.length_cons,List.length_nil]; omega
 ·rw [exE5 hk]
  rw [hk,exN5,Bool.and_eq_true] at hN
  have:=QnY hN.1
  have h4:(if v.a.length=0 then ([]:Str) else 40::(exsT cm 0 v.a++[41])).length≤(exsT cm 0 v.a).length+2:=by split <;> simp
  simp only [List.length_append]; omega
 ·rw [exE6 hk]
  rw [hk,exN6] at hN
  simp only [Bool.and_eq_true,decide_eq_true_eq] at hN
  have ho:=Qv1 hN.1.2
  have hno:=hl QtG
  have hop:=hl (sep:=opSep v.n) (fun i=>by
   cases i with
   | zero=>simp [opSep]
   | succ i=>simp only [opSep,List.length_cons,List.length_append,List.length_nil]; omega)
  split
  ·simp only [List.length_append,List.length_cons,List.length_nil]; omega
  ·split
   ·simp only [List.length_append,List.length_cons,List.length_nil]; omega
   ·simp only [List.length_append,List.length_cons,List.length_nil]; omega
 ·rw [exE7 hk]
  rw [hk,exN7] at hN
  simp only [Bool.and_eq_true] at hN
  have:=Qgd hN.1.2
  have h4:(if brkE v.a=true then 40::(exsT cm 0 v.a++[41]) else exsT cm 0 v.a).length≤(exsT cm 0 v.a).length+2:=by split <;> simp
  simp only [List.length_append,List.length_cons]; omega
 ·rw [exE8 hk]
  have:=hl QvX
  simp only [List.length_append,List.length_cons,List.length_nil]; omega
theorem QrU {p:Bool} {l:List ExV} {s:Sl} {sep:Nat→Str} (hs:ExL A s l) (hsep:∀ i,(sep i).length≤6) (hok:exsOk p l=true):(exsT sep 0 l).length≤18000*sL exSz l:=by
 refine Nat.le_trans (Qqs hsep 0 l) ?_
 rw [← Qkg]
 refine Qjc fun w hw=>?_
 rw [Qdl] at hok
 obtain ⟨i,hi,rfl⟩:=List.getElem_of_mem hw
 obtain ⟨xs,_,_,h3,_,h4⟩:=hs
 exact Qtk _ _ (h4 i _ _ (List.getElem?_eq_getElem hi) (List.getElem?_eq_getElem (by omega))) (List.all_eq_true.1 hok _ hw)
theorem Qvx {v:LiV} {x:Qc} (hx:LiIs A v x) (h:liOk v=true):(liT v).length+2≤18000*liSz v:=by
 obtain ⟨ek,en,hs⟩:=hx
 unfold liOk at h
 unfold liT liSz
 by_cases h12:v.k=1∨v.k=2
 ·rw [if_pos h12] at h
  simp only [Bool.and_eq_true] at h
  have h1:=QrU hs QqY h.2
  have h2:=QnY h.1.1
  rcases h12 with hk | hk
  ·rw [if_pos hk]; simp only [List.length_append,List.length_cons,List.length_nil]; omega
  ·rw [if_neg (by rw [hk]; decide),if_pos hk]; simp only [List.length_append,List.length_cons,List.length_nil]; omega
 rw [if_neg h12] at h
 rw [if_neg fun e=>h12 (.inl e),if_neg fun e=>h12 (.inr e)]
 by_cases h3:v.k=3
 ·rw [if_pos h3] at h
  simp only [Bool.and_eq_true] at h
  have h1:=QrU hs QqY h.2
  rw [if_neg (by rw [h3]; decide)]
  split
  ·simp only [List.length_append,List.length_cons,List.length_nil]; omega
  ·omega
 rw [if_neg h3] at h
 by_cases h4:v.k=4
 ·rw [if_pos h4] at h
  simp only [Bool.and_eq_true] at h
  have h1:=QrU hs QqY h.2
  have h2:=Qt7 h.1.1
  rw [if_pos h4]; simp only [List.length_append,List.length_cons,List.length_nil]; omega
 ·rw [if_neg h4] at h; cases h
theorem SlIs.mem {α β:Type} {R:α→β→Prop} {c:β→List Value} {s:Sl} {l:List α} (hs:SlIs R c A s l) {v:α} (hv:v ∈ l):∃ x,R v x:=by
 obtain ⟨i,hi,rfl⟩:=List.getElem_of_mem hv
 obtain ⟨xs,_,_,h3,_,h4⟩:=hs
 exact ⟨_,h4 i _ _ (List.getElem?_eq_getElem hi) (List.getElem?_eq_getElem (by omega))⟩
theorem Qs7 {l:List LiV} {s:Sl} (hs:LiL A s l) (h:l.all liOk=true):(boT l).length≤18000*sL liSz l:=by
 unfold boT
 refine Nat.le_trans (Qop 0 l) ?_
 rw [← Qkg]
 refine Qjc fun w hw=>?_
 obtain ⟨x,hx⟩:=hs.mem hw
 exact Qvx hx (List.all_eq_true.1 h w hw)
theorem Qr6 : ∀ (i : Nat) (gs : List Str) (xs : List ExV), (∀ g ∈ gs, g.length ≤ 5) → (agsT i gs xs).length ≤ sL (fun v => (exT v).length + 6) xs + 9 * gs.length
 | i,[],xs,_=>by simp [agsT]
 | i,g::gs,[],_=>by simp [agsT]
 | i,g::gs,x::xs,h=>by
  have h1:=Qr6 (i+1) gs xs fun g hg=>h g (List.mem_cons_of_mem _ hg)
  have h2:=h g (List.mem_cons_self ..)
  have h3:=QqY i
  simp only [agsT,sL,List.length_append,List.length_cons]
  have h4:(agT g x).length≤g.length+(exT x).length+2:=by
   unfold agT
   split
   ·omega
   ·simp only [List.length_append,List.length_cons,List.length_nil]; omega
  omega
theorem QvJ {v:RuV} {x:Qk} (hx:RuIs A v x) (h:ruOk v=true):(ruT v).length≤18000*ruSz v:=by
 obtain ⟨en,ha,hg,hb⟩:=hx
 unfold ruOk at h
 simp only [Bool.and_eq_true,decide_eq_true_eq] at h
 obtain ⟨⟨⟨⟨⟨o1,o2⟩,o3⟩,o4⟩,o5⟩,o6⟩:=h
 have h1:=QnY o1
 have h2:=Qs7 hb o5
 have h3:=Qr6 0 v.g v.a fun g hg=>QvS (List.all_eq_true.1 o6 g hg)
 have h4:sL (fun v=>(exT v).length+6) v.a≤18000*sL exSz v.a:=by
  rw [← Qkg]
  refine Qjc fun w hw=>?_
  rw [Qdl] at o4
  obtain ⟨x,hx⟩:=ha.mem hw
  exact Qtk w x hx (List.all_eq_true.1 o4 w hw)
 unfold ruT ruSz
 have h5:(if v.b.length=0 then ([]:Str) else [32,58,45,32]++boT v.b).length≤(boT v.b).length+4:=by
  split
  ·simp
  ·simp only [List.length_append,List.length_cons,List.length_nil]; omega
 simp only [List.length_append,List.length_cons,List.length_nil]
 omega
theorem QvD {v:NeV} {x:Ql} (hx:NeIs A v x) (h:neOk v=true):(neT v).length≤18000*neSz v:=by
 unfold neOk at h
 simp only [Bool.and_eq_true] at h
 have h1:=Qgd h.1.1
 have h2:=Qs7 hx.2 h.2
 unfold neT neSz
 simp only [List.length_append,List.length_cons,List.length_nil]
 omega
theorem QvN {v:TdV} (h:tdOk v=true):(tdT v).length≤18000*tdSz v:=by
 unfold tdOk at h
 simp only [Bool.and_eq_true,decide_eq_true_eq] at h
 obtain ⟨⟨⟨⟨⟨o1,o2⟩,o3⟩,o4⟩,o5⟩,o6⟩:=h
 have h1:=Qgd o1
 have h2:(jo [44,32] id 0 v.ps).length≤100*v.ps.length:=by
  refine Nat.le_trans (Qop 0 v.ps) ?_
  rw [← Qrs v.ps,← Qkg]
  refine Qjc fun w hw=>?_
  have:=QtH (List.all_eq_true.1 o3 w hw)
  simp only [id_eq,List.length_cons,List.length_nil]; omega
 have h3:(jo [32,124,32] cnT 0 v.cs).length≤1000*sL cnSz v.cs:=by
  refine Nat.le_trans (Qop 0 v.cs) ?_
  rw [← Qkg]
  refine Qjc fun w hw=>?_
  have h4:=List.all_eq_true.1 o6 w hw
  unfold cnOk fdsOk at h4
  simp only [Bool.and_eq_true,decide_eq_true_eq] at h4
  have h5:=Qgd h4.1
  have h6:=Qse (List.all_eq_true.1 h4.2.2)
  have h7:=Qtp w.f
  unfold cnT cnSz
  have h8:(if w.f.length=0 then ([]:Str) else 40::(fdsT w.f++[41])).length≤(fdsT w.f).length+2:=by split <;> simp
  simp only [List.length_append,List.length_cons,List.length_nil] at h8 ⊢
  omega
 unfold tdT tdSz
 have h4:(if v.ps.length=0 then ([]:Str) else 40::(jo [44,32] id 0 v.ps++[41])).length≤(jo [44,32] id 0 v.ps).length+2:=by split <;> simp
 have h5:(pubT v.p).length≤4:=by cases v.p <;> simp [pubT]
 simp only [List.length_append,List.length_cons,List.length_nil] at h4 ⊢
 omega
theorem QvH {v:RdV} (h:rdOk v=true):(rdT v).length≤18000*rdSz v:=by
 unfold rdOk fdsOk at h
 simp only [Bool.and_eq_true,decide_eq_true_eq] at h
 have h1:=Qgd h.1
 have h6:=Qse (List.all_eq_true.1 h.2.2)
 have h7:=Qtp v.f
 unfold rdT rdSz
 have h5:(pubT v.p).length≤4:=by cases v.p <;> simp [pubT]
 have h8:(if v.i=true then ([105,110,112,117,116,32]:Str) else [114,101,108,32]).length≤6:=by split <;> simp
 simp only [List.length_append,List.length_cons,List.length_nil]
 omega
theorem Qon {α:Type} {f:α→Str} {g:α→Nat} {l:List α} (h:∀ v ∈ l,(f v).length≤18000*g v):(jo [] f 0 l).length≤18000*sL g l:=by
 refine Nat.le_trans (Qop 0 l) ?_
 rw [← Qkg]
 exact Qjc fun w hw=>h w hw
theorem QtE {v:MoV} {x:Qg} (hx:MoIs A v x) (h:moOk v=true):(moT v).length≤18000*(moSz v+1):=by
 obtain ⟨en,him,hty,hre,hru,hne⟩:=hx
 unfold moOk at h
 simp only [Bool.and_eq_true] at h
 obtain ⟨⟨⟨⟨⟨o1,o2⟩,o3⟩,o4⟩,o5⟩,o6⟩:=h
 have h0:=Qgd o1
 have h1:(jo [] imT 0 v.im).length≤18000*sL (fun _=>1) v.im:=Qon fun w hw=>by
  have:=Qgd (List.all_eq_true.1 o2 w hw)
  unfold imT; simp only [List.length_append,List.length_cons,List.length_nil]; omega
 have h2:(jo [] tdT 0 v.ty).length≤18000*sL tdSz v.ty:=Qon fun w hw=>QvN (List.all_eq_true.1 o3 w hw)
 have h3:(jo [] rdT 0 v.re).length≤18000*sL rdSz v.re:=Qon fun w hw=>QvH (List.all_eq_true.1 o4 w hw)
 have h4:(jo [] ruT 0 v.ru).length≤18000*sL ruSz v.ru:=Qon fun w hw=>by
  obtain ⟨y,hy⟩:=hru.mem hw
  exact QvJ hy (List.all_eq_true.1 o5 w hw)
 have h5:(jo [] neT 0 v.ne).length≤18000*sL neSz v.ne:=Qon fun w hw=>by
  obtain ⟨y,hy⟩:=hne.mem hw
  exact QvD hy (List.all_eq_true.1 o6 w hw)
 rw [Qrs] at h1
 rw [QtD]
 unfold moSz hdT
 simp only [List.length_append,List.length_cons,List.length_nil]
 omega
end
end
section
open Go Go.Proofs
theorem andLt {a b:Int} {q:Bool} (h:(decide (a < b) && q)=true):a < b∧q=true:=by rw [Bool.and_eq_true] at h; exact ⟨of_decide_eq_true h.1,h.2⟩
theorem lpQ {Q:Int→Nat→Prop} {n0:Int} {N:Nat} {H:Heap} {body:Int×Int→(Int×Int→Heap→Prop)→Heap→Prop} (hb:N≤140737488355328) (h0:Q n0 0)
 (step:∀ (n:Int) (i:Nat) (D:Heap) (J:Int×Int→Heap→Prop),H.le D→i≤N→Q n i→(i < N→∀ n' D',H.le D'→Q n' (i+1)→J (n',w .i64 ((i:Int)+1)) D')→body (n,(i:Int)) J D):lp (α:=Int×Int) (n0,0) H body:=by
 refine ⟨fun x D=>H.le D∧∃ i:Nat,x.2=(i:Int)∧i≤N∧Q x.1 i,fun x _=>N - x.2.toNat,⟨Heap.le.refl _,0,rfl,Nat.zero_le _,h0⟩,?_⟩
 rintro ⟨n,_⟩ D ⟨hD,i,rfl,hi,hQ⟩
 refine step n i D _ hD hi hQ fun hlt n' D' hD' hQ'=>?_
 rw [Q0 (by omega) (by omega)]
 exact ⟨⟨hD',i+1,rfl,by omega,hQ'⟩,by first | omega | (dsimp only; omega)⟩
theorem tdv {n:Nat} (h:n≤140737488355328):∃ a:Int,w .i64 (Int.tdiv (n:Int) 50)=a∧0≤a∧a≤140737488355328:=by
 have h1:Int.tdiv (n:Int) 50=((n / 50:Nat):Int):=rfl
 rw [h1,Q0 (by omega) (by omega)]
 exact ⟨_,rfl,by omega,by omega⟩
/-- what a count tells: within bounds, and whole if it is below the bound -/
structure Cnt (B:Int) (m:Int) (z:Nat) (r:Int):Prop where
 lo:0≤r
 hi:0≤m→r≤m*1125899906842624+B
 no:m≤0→r=0
 sz:r < m→(z:Int)≤r
section
variable {C:Ctx} {H A:Heap}
theorem Qrz {l:List TyV} {s:Sl} {m:Int} {K:Int→Heap→Prop} (hs:TyL A s l) (hA:A.le H) (hm:m≤4000∧-4611686018427387904≤m)
 (ih:∀ p ∈ l,∀ {s:Sl} {m:Int} {K:Int→Heap→Prop} {H:Heap},TyL A s p.a→A.le H→m≤4000∧-4611686018427387904≤m→(∀ r,Cnt 0 m (sL tySz p.a) r→K r H)→QaW C s m K H) (k:∀ r,Cnt 0 m (sL tySz l) r→K r H):QaW C s m K H:=by
 apply QaW.gh
 apply QoX
 unfold Qld
 refine lpQ (N:=l.length) (Q:=fun n i=>Cnt 0 m (sL tySz (l.take i)) n) hs.bd ⟨by omega,fun h=>by omega,fun _=>rfl,fun _=>by simp [sL]⟩ fun n i D J hD hi hQ hJ=>?_
 obtain ⟨q1,q2,q3,q4⟩:=hQ
 rw [hs.len]
 refine ift.of (fun h=>?_) (fun h=>⟨H,Gh.le hD,k _ ⟨q1,q2,q3,fun hn=>?_⟩⟩)
 ·obtain ⟨g1,g2⟩:=andLt h
  have hlt:i < l.length:=by omega
  have hnm:n < m:=of_decide_eq_true g2
  have hAD:=hA.trans hD
  refine SlIs.fS hs hAD QgB (by omega) rfl hlt (f:=fun y=>y.Name) (fun _=>rfl) fun y1 hy1=>SlIs.fL hs hAD QgB (by omega) rfl hlt (f:=fun y=>y.Args) (fun _=>rfl) fun y2 hy2=>?_
  have hn1:=(Qc2.1 hy1).1
  obtain ⟨a,ea,a1,a2⟩:=tdv (n:=y1.Name.length) (by rw [hn1.1]; exact hn1.2)
  rw [ea]
  dsimp only
  have e1:w .i64 (n+1)=n+1:=Q0 (by omega) (by omega)
  have e2:w .i64 (n+1+a)=n+1+a:=Q0 (by omega) (by omega)
  have e3:w .i64 (m - (n+1+a))=m - (n+1+a):=Q0 (by omega) (by omega)
  simp only [e1,e2,e3]
  refine ih _ (List.getElem_mem hlt) (Qc2.1 hy2).2 hAD ⟨by omega,by omega⟩ fun r ⟨r1,r2,r3,r4⟩=>?_
  have e4:w .i64 (n+1+a+r)=n+1+a+r:=Q0 (by omega) (by omega)
  rw [e4]
  refine hJ hlt _ _ hD ⟨by omega,fun h=>by omega,fun h=>by omega,fun h=>?_⟩
  rw [QgV hlt,QqH]
  have:=q4 (by omega)
  have:=r4 (by omega)
  omega
 ·have hie : i = l.length := by
   rw [Bool.and_eq_false_iff] at h
   rcases h with h | h
   ·have:=of_decide_eq_false h; dsimp only at this; omega
   ·exact absurd hn (of_decide_eq_false h)
  have:=q4 hn
  rw [hie,List.take_length] at this
  exact this
theorem QuX:∀ (v:TyV) {s:Sl} {m:Int} {K:Int→Heap→Prop} {H:Heap},TyL A s v.a→A.le H→m≤4000∧-4611686018427387904≤m→(∀ r,Cnt 0 m (sL tySz v.a) r→K r H)→QaW C s m K H:=by
 refine TyV.rec_ fun v ih s m K H hs hA hm k=>?_
 exact Qrz hs hA hm (fun p hp s m K H g1 g2 g3 g4=>ih p hp g1 g2 g3 g4) k
theorem QuY {l:List TyV} {s:Sl} {m:Int} {K:Int→Heap→Prop} (hs:TyL A s l) (hA:A.le H) (hm:m≤4000∧-4611686018427387904≤m) (k:∀ r,Cnt 0 m (sL tySz l) r→K r H):QaW C s m K H:=
 Qrz hs hA hm (fun p _ s m K H g1 g2 g3 g4=>QuX p g1 g2 g3 g4) k
theorem Qrb {l:List ExV} {s:Sl} {m:Int} {K:Int→Heap→Prop} (hs:ExL A s l) (hA:A.le H) (hm:m≤4000∧-4611686018427387904≤m)
 (ih:∀ p ∈ l,∀ {s:Sl} {m:Int} {K:Int→Heap→Prop} {H:Heap},ExL A s p.a→A.le H→m≤4000∧-4611686018427387904≤m→(∀ r,Cnt 0 m (sL exSz p.a) r→K r H)→Qaz C s m K H) (k:∀ r,Cnt 0 m (sL exSz l) r→K r H):Qaz C s m K H:=by
 apply Qaz.gh
 apply QoV
 unfold Qlb
 refine lpQ (N:=l.length) (Q:=fun n i=>Cnt 0 m (sL exSz (l.take i)) n) hs.bd ⟨by omega,fun h=>by omega,fun _=>rfl,fun _=>by simp [sL]⟩ fun n i D J hD hi hQ hJ=>?_
 obtain ⟨q1,q2,q3,q4⟩:=hQ
 rw [hs.len]
 refine ift.of (fun h=>?_) (fun h=>⟨H,Gh.le hD,k _ ⟨q1,q2,q3,fun hn=>?_⟩⟩)
 ·obtain ⟨g1,g2⟩:=andLt h
  have hlt:i < l.length:=by omega
  have hnm:n < m:=of_decide_eq_true g2
  have hAD:=hA.trans hD
  refine SlIs.fS hs hAD QN (by omega) rfl hlt (j:=3) (f:=fun y=>y.Name) (fun _=>rfl) fun y1 hy1=>?_
  refine SlIs.fS hs hAD QN (by omega) rfl hlt (j:=6) (f:=fun y=>y.Value_.S) (fun _=>rfl) fun y2 hy2=>?_
  refine SlIs.fL hs hAD QN (by omega) rfl hlt (j:=7) (f:=fun y=>y.Value_.L) (fun _=>rfl) fun y3 hy3=>?_
  refine SlIs.fL hs hAD QN (by omega) rfl hlt (j:=8) (f:=fun y=>y.Args) (fun _=>rfl) fun y4 hy4=>?_
  have hn1:=(Qay.1 hy1).2.1
  obtain ⟨_,_,v2,B2,_⟩:=Qay.1 hy2
  obtain ⟨_,_,v3,B3,_⟩:=Qay.1 hy3
  obtain ⟨a,ea,a1,a2⟩:=tdv (n:=y1.Name.length) (by rw [hn1.1]; exact hn1.2)
  obtain ⟨b,eb,b1,b2⟩:=tdv (n:=y2.Value_.S.length) (by rw [(Qew.1 v2).2.2.1]; exact B2.s)
  have hc:y3.Value_.L.len≤140737488355328:=by rw [(Qew.1 v3).2.2.2.len]; exact B3.l
  rw [ea,eb]
  dsimp only
  generalize y3.Value_.L.len=c at *
  have e1:w .i64 (n+1)=n+1:=Q0 (by omega) (by omega)
  have e2:w .i64 (n+1+a)=n+1+a:=Q0 (by omega) (by omega)
  have e2b:w .i64 (n+1+a+b)=n+1+a+b:=Q0 (by omega) (by omega)
  have e2c:w .i64 (n+1+a+b+(c:Int))=n+1+a+b+c:=Q0 (by omega) (by omega)
  have e3:w .i64 (m - (n+1+a+b+c))=m - (n+1+a+b+c):=Q0 (by omega) (by omega)
  simp only [e1,e2,e2b,e2c,e3]
  refine ih _ (List.getElem_mem hlt) (Qay.1 hy4).2.2.2.2 hAD ⟨by omega,by omega⟩ fun r ⟨r1,r2,r3,r4⟩=>?_
  have e4:w .i64 (n+1+a+b+c+r)=n+1+a+b+c+r:=Q0 (by omega) (by omega)
  rw [e4]
  refine hJ hlt _ _ hD ⟨by omega,fun h=>by omega,fun h=>by omega,fun h=>?_⟩
  rw [QgV hlt,Qm8]
  have:=q4 (by omega)
  have:=r4 (by omega)
  omega
 ·have hie : i = l.length := by
   rw [Bool.and_eq_false_iff] at h
   rcases h with h | h
   ·have:=of_decide_eq_false h; dsimp only at this; omega
   ·exact absurd hn (of_decide_eq_false h)
  have:=q4 hn
  rw [hie,List.take_length] at this
  exact this
theorem Quu:∀ (v:ExV) {s:Sl} {m:Int} {K:Int→Heap→Prop} {H:Heap},ExL A s v.a→A.le H→m≤4000∧-4611686018427387904≤m→(∀ r,Cnt 0 m (sL exSz v.a) r→K r H)→Qaz C s m K H:=by
 refine ExV.rec_ fun v ih s m K H hs hA hm k=>?_
 exact Qrb hs hA hm (fun p hp s m K H g1 g2 g3 g4=>ih p hp g1 g2 g3 g4) k
theorem Qsd {l:List ExV} {s:Sl} {m:Int} {K:Int→Heap→Prop} (hs:ExL A s l) (hA:A.le H) (hm:m≤4000∧-4611686018427387904≤m) (k:∀ r,Cnt 0 m (sL exSz l) r→K r H):Qaz C s m K H:=
 Qrb hs hA hm (fun p _ s m K H g1 g2 g3 g4=>Quu p g1 g2 g3 g4) k
theorem Qs8 {l:List LiV} {s:Sl} {m:Int} {K:Int→Heap→Prop} (hs:LiL A s l) (hA:A.le H) (hm:m≤4000∧-4611686018427387904≤m) (k:∀ r,Cnt 0 m (sL liSz l) r→K r H):QcV C s m K H:=by
 apply QcV.gh
 apply Qp2
 unfold Qmw
 refine lpQ (N:=l.length) (Q:=fun n i=>Cnt 0 m (sL liSz (l.take i)) n) hs.bd ⟨by omega,fun h=>by omega,fun _=>rfl,fun _=>by simp [sL]⟩ fun n i D J hD hi hQ hJ=>?_
 obtain ⟨q1,q2,q3,q4⟩:=hQ
 rw [hs.len]
 refine ift.of (fun h=>?_) (fun h=>⟨H,Gh.le hD,k _ ⟨q1,q2,q3,fun hn=>?_⟩⟩)
 ·obtain ⟨g1,g2⟩:=andLt h
  have hlt:i < l.length:=by omega
  have hnm:n < m:=of_decide_eq_true g2
  have hAD:=hA.trans hD
  refine SlIs.fS hs hAD Qcx (by omega) rfl hlt (f:=fun y=>y.Rel) (fun _=>rfl) fun y1 hy1=>SlIs.fL hs hAD Qcx (by omega) rfl hlt (f:=fun y=>y.Args) (fun _=>rfl) fun y2 hy2=>?_
  have hn1:=hy1.2.1
  obtain ⟨a,ea,a1,a2⟩:=tdv (n:=y1.Rel.length) (by rw [hn1.1]; exact hn1.2)
  rw [ea]
  dsimp only
  have e1:w .i64 (n+1)=n+1:=Q0 (by omega) (by omega)
  have e2:w .i64 (n+1+a)=n+1+a:=Q0 (by omega) (by omega)
  have e3:w .i64 (m - (n+1+a))=m - (n+1+a):=Q0 (by omega) (by omega)
  simp only [e1,e2,e3]
  refine Qsd hy2.2.2 hAD ⟨by omega,by omega⟩ fun r ⟨r1,r2,r3,r4⟩=>?_
  have e4:w .i64 (n+1+a+r)=n+1+a+r:=Q0 (by omega) (by omega)
  rw [e4]
  refine hJ hlt _ _ hD ⟨by omega,fun h=>by omega,fun h=>by omega,fun h=>?_⟩
  rw [QgV hlt]
  unfold liSz at *
  have:=q4 (by omega)
  have:=r4 (by omega)
  omega
 ·have hie : i = l.length := by
   rw [Bool.and_eq_false_iff] at h
   rcases h with h | h
   ·have:=of_decide_eq_false h; dsimp only at this; omega
   ·exact absurd hn (of_decide_eq_false h)
  have:=q4 hn
  rw [hie,List.take_length] at this
  exact this
theorem Qrf {l:List FdV} {s:Sl} {m:Int} {K:Int→Heap→Prop} (hs:FdL A s l) (hA:A.le H) (hm:m≤4000∧-4611686018427387904≤m) (k:∀ r,Cnt 140737488355328 m (fdsSz l) r→K r H):QbX C s m K H:=by
 apply QbX.gh
 apply Qn0
 unfold Qkh
 refine lpQ (N:=l.length) (Q:=fun n i=>Cnt 140737488355328 m (fdsSz (l.take i)) n) hs.bd ⟨by omega,fun h=>by omega,fun _=>rfl,fun _=>by simp [fdsSz,sL]⟩ fun n i D J hD hi hQ hJ=>?_
 obtain ⟨q1,q2,q3,q4⟩:=hQ
 rw [hs.len]
 refine ift.of (fun h=>?_) (fun h=>⟨H,Gh.le hD,k _ ⟨q1,q2,q3,fun hn=>?_⟩⟩)
 ·obtain ⟨g1,g2⟩:=andLt h
  have hlt:i < l.length:=by omega
  have hnm:n < m:=of_decide_eq_true g2
  have hAD:=hA.trans hD
  refine ⟨D,Heap.le.refl _,SlIs.fS hs hAD Qav (by omega) rfl hlt (f:=fun y=>y.Name) (fun _=>rfl) fun y1 hy1=>SlIs.fT hs hAD Qav (by omega) rfl hlt (f:=fun y=>y.Type_) (fun y n v hn=>Qrx n v hn) fun y2 hy2=>?_⟩
  intro b n1
  have l1:=Heap.le_put n1 (g:=.row (Qe.c y2.Type_++[])) (m:=true)
  have h1:(D.put b (.row (Qe.c y2.Type_++[]))) b=some (true,.row (Qe.c y2.Type_++[])):=Heap.put_same ..
  generalize D.put b (.row (Qe.c y2.Type_++[]))=E at *
  have hT:TyL E (Sl.of (some (b,0)) 1 1) [l[i].t]:=⟨[y2.Type_],.inr ⟨rfl,_,rfl,Qjb h1 fun j v hj=>by simpa using hj⟩,rfl,rfl,by simp,fun j v x hv hx=>by
   cases j with
   | zero=>simp at hv hx; subst hv; subst hx; exact TyIs.le (hAD.trans l1) _ _ hy2.2
   | succ j=>simp at hv⟩
  obtain ⟨a,ea,a1,a2⟩:=tdv (n:=y1.Name.length) (by rw [hy1.1.1]; exact hy1.1.2)
  rw [ea]
  dsimp only
  have e1:w .i64 (n+a)=n+a:=Q0 (by omega) (by omega)
  have e3:w .i64 (m - n)=m - n:=Q0 (by omega) (by omega)
  simp only [e1,e3]
  refine ⟨l1,QuY hT (Heap.le.refl _) ⟨by omega,by omega⟩ fun r ⟨r1,r2,r3,r4⟩=>⟨l1,?_⟩⟩
  have e4:w .i64 (n+a+r)=n+a+r:=Q0 (by omega) (by omega)
  rw [e4]
  simp only [sL] at r4
  refine hJ hlt _ _ (hD.trans l1) ⟨by omega,fun h=>by omega,fun h=>by omega,fun h=>?_⟩
  unfold fdsSz at *
  rw [QgV hlt]
  have:=q4 (by omega)
  have:=r4 (by omega)
  omega
 ·have hie : i = l.length := by
   rw [Bool.and_eq_false_iff] at h
   rcases h with h | h
   ·have:=of_decide_eq_false h; dsimp only at this; omega
   ·exact absurd hn (of_decide_eq_false h)
  have:=q4 hn
  rw [hie,List.take_length] at this
  exact this
theorem Quz {v:MoV} {x:Qg} {K:Bool→Heap→Prop} (hx:MoIs A v x) (hA:A.le H) (k:∀ b,(b=false→moSz v≤2000)→K b H):Qc6 C x K H:=by
 apply Qc6.gh
 apply QoW
 unfold Qlc
 refine box1 fun b1 H2 hle h1=>?_
 have hA2:=hA.trans hle
 obtain ⟨x1,x2,x3,x4,x5,x6⟩:=hx
 refine fL h1 rfl (fS h1 rfl ?_)
 have lim:=x2.bd
 rw [x2.len]
 obtain ⟨a,ea,a1,a2⟩:=tdv (n:=x.Name.length) (by rw [x1.1]; exact x1.2)
 rw [ea]
 have e0:w .i64 ((v.im.length:Int)+a)=(v.im.length:Int)+a:=Q0 (by omega) (by omega)
 rw [e0]
 refine lpQ (N:=v.ty.length) (Q:=fun n i=>0≤n∧n≤4700000000000000000∧(n < 2000→((v.im.length+sL tdSz (v.ty.take i):Nat):Int)≤n)) x3.bd ⟨by omega,by omega,fun _=>by simp [sL]; omega⟩ fun n i D J hD hi hQ hJ=>fL (hD _ _ h1) rfl ?_
 obtain ⟨q1,q2,q3⟩:=hQ
 rw [x3.len]
 refine ift.of (fun h=>?_) (fun h=>?_)
 ·obtain ⟨g1,g2⟩:=andLt h
  have hlt:i < v.ty.length:=by omega
  have hnm:n < 2000:=of_decide_eq_true g2
  have q3:=q3 hnm
  refine fL (hD _ _ h1) rfl (SlIs.fL x3 (hA2.trans hD) Qca (by omega) rfl hlt (f:=fun y=>y.Params) (fun _=>rfl) fun y1 hy1=>?_)
  have lps:=SlIs.bd hy1.2.2.1
  rw [SlIs.len hy1.2.2.1]
  dsimp only
  have e1:w .i64 (n+1)=n+1:=Q0 (by omega) (by omega)
  have e2:w .i64 (n+1+(v.ty[i].ps.length:Int))=n+1+(v.ty[i].ps.length:Int):=Q0 (by omega) (by omega)
  rw [e1,e2]
  refine lpQ (N:=v.ty[i].cs.length) (Q:=fun n2 i2=>0≤n2∧n2≤4700000000000000000∧(n2 < 2000→n+1+(v.ty[i].ps.length:Int)+((sL cnSz (v.ty[i].cs.take i2):Nat):Int)≤n2)) hy1.2.2.2.bd ⟨by omega,by omega,fun _=>by simp [sL]⟩ fun n2 i2 D2 J2 hD2 hi2 hQ2 hJ2=>?_
  obtain ⟨p1,p2,p3⟩:=hQ2
  have hDD:=hD.trans hD2
  refine fL (hDD _ _ h1) rfl (SlIs.fL x3 (hA2.trans hDD) Qca (by omega) rfl hlt (f:=fun y=>y.Cons) (fun _=>rfl) fun y2 hy2=>?_)
  rw [hy2.2.2.2.len]
  refine ift.of (fun h=>?_) (fun h=>hJ hlt _ _ hDD ⟨p1,p2,fun hn=>?_⟩)
  ·obtain ⟨g1,g2⟩:=andLt h
   have hlt2:i2 < v.ty[i].cs.length:=by omega
   have hnm2:n2 < 2000:=of_decide_eq_true g2
   have p3:=p3 hnm2
   refine fL (hDD _ _ h1) rfl (SlIs.fL x3 (hA2.trans hDD) Qca (by omega) rfl hlt (f:=fun y=>y.Cons) (fun _=>rfl) fun y3 hy3=>?_)
   refine SlIs.fL hy3.2.2.2 (hA2.trans hDD) Qb9 (by omega) rfl hlt2 (f:=fun y=>y.Fields) (fun _=>rfl) fun y4 hy4=>?_
   dsimp only
   have e3:w .i64 (2000 - n2)=2000 - n2:=Q0 (by omega) (by omega)
   have e4:w .i64 (n2+1)=n2+1:=Q0 (by omega) (by omega)
   simp only [e3,e4]
   refine Qrf hy4.2 (hA2.trans hDD) ⟨by omega,by omega⟩ fun r ⟨r1,r2,r3,r4⟩=>?_
   have e5:w .i64 (n2+1+r)=n2+1+r:=Q0 (by omega) (by omega)
   rw [e5]
   refine hJ2 hlt2 _ _ hD2 ⟨by omega,by omega,fun hn=>?_⟩
   have:=r4 (by omega)
   rw [QgV hlt2]
   unfold cnSz at *
   omega
  ·have hie : i2 = v.ty[i].cs.length := by
    rw [Bool.and_eq_false_iff] at h
    rcases h with h | h
    ·have:=of_decide_eq_false h; dsimp only at this; omega
    ·exact absurd hn (of_decide_eq_false h)
   have:=p3 hn
   rw [hie,List.take_length] at this
   rw [QgV hlt]
   unfold tdSz at *
   omega
 have q3:n < 2000→((v.im.length+sL tdSz v.ty:Nat):Int)≤n:=fun hn=>by
  have hie:i=v.ty.length:=by
   rw [Bool.and_eq_false_iff] at h
   rcases h with h | h
   ·have:=of_decide_eq_false h; dsimp only at this; omega
   ·exact absurd hn (of_decide_eq_false h)
  have:=q3 hn
  rw [hie,List.take_length] at this
  exact this
 clear h hJ hi
 dsimp only
 refine lpQ (N:=v.re.length) (Q:=fun n i=>0≤n∧n≤4700000000000000000∧(n < 2000→((v.im.length+sL tdSz v.ty+sL rdSz (v.re.take i):Nat):Int)≤n)) x4.bd ⟨q1,q2,fun h=>by have:=q3 h; simpa [sL] using this⟩ fun n i D2 J hD2 hi hQ hJ=>?_
 clear q1 q2 q3
 obtain ⟨q1,q2,q3⟩:=hQ
 have hD:=hD.trans hD2
 refine fL (hD _ _ h1) rfl ?_
 rw [x4.len]
 refine ift.of (fun h=>?_) (fun h=>?_)
 ·obtain ⟨g1,g2⟩:=andLt h
  have hlt:i < v.re.length:=by omega
  have hnm:n < 2000:=of_decide_eq_true g2
  have q3:=q3 hnm
  refine fL (hD _ _ h1) rfl (SlIs.fL x4 (hA2.trans hD) QdC (by omega) rfl hlt (f:=fun y=>y.Fields) (fun _=>rfl) fun y1 hy1=>?_)
  dsimp only
  have e3:w .i64 (2000 - n)=2000 - n:=Q0 (by omega) (by omega)
  have e4:w .i64 (n+1)=n+1:=Q0 (by omega) (by omega)
  simp only [e3,e4]
  refine Qrf hy1.2.2.2 (hA2.trans hD) ⟨by omega,by omega⟩ fun r ⟨r1,r2,r3,r4⟩=>?_
  have e5:w .i64 (n+1+r)=n+1+r:=Q0 (by omega) (by omega)
  rw [e5]
  refine hJ hlt _ _ hD2 ⟨by omega,by omega,fun hn=>?_⟩
  have:=r4 (by omega)
  rw [QgV hlt]
  unfold rdSz at *
  omega
 have q3:n < 2000→((v.im.length+sL tdSz v.ty+sL rdSz v.re:Nat):Int)≤n:=fun hn=>by
  have hie:i=v.re.length:=by
   rw [Bool.and_eq_false_iff] at h
   rcases h with h | h
   ·have:=of_decide_eq_false h; dsimp only at this; omega
   ·exact absurd hn (of_decide_eq_false h)
  have:=q3 hn
  rw [hie,List.take_length] at this
  exact this
 clear h hJ hi
 dsimp only
 refine lpQ (N:=v.ru.length) (Q:=fun n i=>0≤n∧n≤4700000000000000000∧(n < 2000→((v.im.length+sL tdSz v.ty+sL rdSz v.re+sL ruSz (v.ru.take i):Nat):Int)≤n)) x5.bd ⟨q1,q2,fun h=>by have:=q3 h; simpa [sL] using this⟩ fun n i D3 J hD3 hi hQ hJ=>?_
 clear q1 q2 q3
 obtain ⟨q1,q2,q3⟩:=hQ
 have hD:=hD.trans hD3
 refine fL (hD _ _ h1) rfl ?_
 rw [x5.len]
 refine ift.of (fun h=>?_) (fun h=>?_)
 ·obtain ⟨g1,g2⟩:=andLt h
  have hlt:i < v.ru.length:=by omega
  have hnm:n < 2000:=of_decide_eq_true g2
  have q3:=q3 hnm
  have hAD:=hA2.trans hD
  refine ⟨D3,Heap.le.refl _,fL (hD _ _ h1) rfl (SlIs.fL x5 hAD Qer (by omega) rfl hlt (f:=fun y=>y.Aggs) (fun _=>rfl) fun y1 hy1=>?_)⟩
  refine fL (hD _ _ h1) rfl (SlIs.fL x5 hAD Qer (by omega) rfl hlt (f:=fun y=>y.Args) (fun _=>rfl) fun y2 hy2=>?_)
  refine fL (hD _ _ h1) rfl (SlIs.fL x5 hAD Qer (by omega) rfl hlt (f:=fun y=>y.Body) (fun _=>rfl) fun y3 hy3=>?_)
  have lgs:=SlIs.bd hy1.2.2.1
  rw [SlIs.len hy1.2.2.1]
  dsimp only
  have e3:w .i64 (2000 - n)=2000 - n:=Q0 (by omega) (by omega)
  have e4:w .i64 (n+1)=n+1:=Q0 (by omega) (by omega)
  have e5:w .i64 (n+1+(v.ru[i].g.length:Int))=n+1+(v.ru[i].g.length:Int):=Q0 (by omega) (by omega)
  simp only [e3,e4,e5]
  refine Qsd hy2.2.1 hAD ⟨by omega,by omega⟩ fun r ⟨r1,r2,r3,r4⟩=>⟨Heap.le.refl _,Qs8 hy3.2.2.2 hAD ⟨by omega,by omega⟩ fun r' ⟨r1',r2',r3',r4'⟩=>⟨Heap.le.refl _,?_⟩⟩
  have e6:w .i64 (n+1+(v.ru[i].g.length:Int)+r)=n+1+(v.ru[i].g.length:Int)+r:=Q0 (by omega) (by omega)
  have e7:w .i64 (n+1+(v.ru[i].g.length:Int)+r+r')=n+1+(v.ru[i].g.length:Int)+r+r':=Q0 (by omega) (by omega)
  rw [e6,e7]
  refine hJ hlt _ _ hD3 ⟨by omega,by omega,fun hn=>?_⟩
  have:=r4 (by omega)
  have:=r4' (by omega)
  rw [QgV hlt]
  unfold ruSz at *
  omega
 have q3:n < 2000→((v.im.length+sL tdSz v.ty+sL rdSz v.re+sL ruSz v.ru:Nat):Int)≤n:=fun hn=>by
  have hie:i=v.ru.length:=by
   rw [Bool.and_eq_false_iff] at h
   rcases h with h | h
   ·have:=of_decide_eq_false h; dsimp only at this; omega
   ·exact absurd hn (of_decide_eq_false h)
  have:=q3 hn
  rw [hie,List.take_length] at this
  exact this
 clear h hJ hi
 dsimp only
 refine lpQ (N:=v.ne.length) (Q:=fun n i=>0≤n∧n≤4700000000000000000∧(n < 2000→((v.im.length+sL tdSz v.ty+sL rdSz v.re+sL ruSz v.ru+sL neSz (v.ne.take i):Nat):Int)≤n)) x6.bd ⟨q1,q2,fun h=>by have:=q3 h; simpa [sL] using this⟩ fun n i D4 J hD4 hi hQ hJ=>?_
 clear q1 q2 q3
 obtain ⟨q1,q2,q3⟩:=hQ
 have hD:=hD.trans hD4
 refine fL (hD _ _ h1) rfl ?_
 rw [x6.len]
 refine ift.of (fun h=>?_) (fun h=>⟨H,Gh.le (hle.trans hD),k _ fun hb=>?_⟩)
 ·obtain ⟨g1,g2⟩:=andLt h
  have hlt:i < v.ne.length:=by omega
  have hnm:n < 2000:=of_decide_eq_true g2
  have q3:=q3 hnm
  refine fL (hD _ _ h1) rfl (SlIs.fL x6 (hA2.trans hD) Qdm (by omega) rfl hlt (f:=fun y=>y.Body) (fun _=>rfl) fun y1 hy1=>?_)
  dsimp only
  have e3:w .i64 (2000 - n)=2000 - n:=Q0 (by omega) (by omega)
  have e4:w .i64 (n+1)=n+1:=Q0 (by omega) (by omega)
  simp only [e3,e4]
  refine Qs8 hy1.2 (hA2.trans hD) ⟨by omega,by omega⟩ fun r ⟨r1,r2,r3,r4⟩=>?_
  have e5:w .i64 (n+1+r)=n+1+r:=Q0 (by omega) (by omega)
  rw [e5]
  refine hJ hlt _ _ hD4 ⟨by omega,by omega,fun hn=>?_⟩
  have:=r4 (by omega)
  rw [QgV hlt]
  unfold neSz at *
  omega
 ·have hn : n < 2000 := by have := of_decide_eq_false hb; dsimp only at this; omega
  have hie:i=v.ne.length:=by
   rw [Bool.and_eq_false_iff] at h
   rcases h with h | h
   ·have:=of_decide_eq_false h; dsimp only at this; omega
   ·exact absurd hn (of_decide_eq_false h)
  have:=q3 hn
  rw [hie,List.take_length] at this
  unfold moSz
  omega
end
end
section
open Go Go.Proofs
theorem jb {P:Prop} {R:Bool→Heap→Prop} {body:(Bool→Heap→Prop)→Prop} (H0:Heap) (h1:body (fun b E=>E=H0∧(b=true↔P))) (h2:∀ b,(b=true↔P)→R b H0):jn (α:=Bool) R body:=⟨fun b E=>E=H0∧(b=true↔P),h1,fun b E hh=>by obtain ⟨e,h⟩:=hh; subst e; exact h2 b h⟩
theorem nand {b:Bool} {P Q:Prop} (hb:b=true↔P) (h:b=false):(false=true↔P∧Q):=⟨fun h'=>(nomatch h'),fun ⟨hp,_⟩=>by rw [hb.2 hp] at h; cases h⟩
theorem yand {b r:Bool} {P Q:Prop} (hb:b=true↔P) (h:b=true) (hr:r=true↔Q):(r=true↔P∧Q):=⟨fun h'=>⟨hb.1 h,hr.1 h'⟩,fun ⟨_,hq⟩=>hr.2 hq⟩
theorem QnS {α:Type} {v w:α} {b:Bool} (h:b=true↔v=w):b=sm v w:=by
 rw [Bool.eq_iff_iff,h,sm_t]
theorem iq {a b a' b':Int} (ha:a=a') (hb:b=b'):((a == b)=true↔a' = b'):=by rw [ha,hb]; simp
theorem sq {a b a' b':Str} (ha:a=a') (hb:b=b'):((a == b)=true↔a' = b'):=by rw [ha,hb]; simp
theorem sqN {a b a' b':Str} (ha:Nm a a') (hb:Nm b b'):((a == b)=true↔a' = b'):=sq ha.1 hb.1
theorem bq {a b a' b':Bool} (ha:a=a') (hb:b=b'):((a == b)=true↔a' = b'):=by rw [ha,hb]; simp
theorem V.eq_iff {v w:V}:v=w↔((v.k=w.k∧v.n=w.n)∧v.s=w.s)∧v.l=w.l:=by
 obtain ⟨a,b,c,d⟩:=v; obtain ⟨e,f,g,h⟩:=w
 constructor
 ·rintro ⟨⟩; exact ⟨⟨⟨rfl,rfl⟩,rfl⟩,rfl⟩
 ·rintro ⟨⟨⟨h1,h2⟩,h3⟩,h4⟩
  have h1:a=e:=h1; have h2:b=f:=h2; have h3:c=g:=h3; have h4:d=h:=h4
  rw [h1,h2,h3,h4]
theorem TyV.eq_iff {v w:TyV}:v=w↔v.n=w.n∧v.a=w.a:=by
 obtain ⟨a,b⟩:=v; obtain ⟨e,f⟩:=w
 constructor
 ·rintro ⟨⟩; exact ⟨rfl,rfl⟩
 ·rintro ⟨h1,h2⟩
  have h1:a=e:=h1; have h2:b=f:=h2
  rw [h1,h2]
theorem ExV.eq_iff {v w:ExV}:v=w↔((v.k=w.k∧v.n=w.n)∧v.v=w.v)∧v.a=w.a:=by
 obtain ⟨a,b,c,d⟩:=v; obtain ⟨e,f,g,h⟩:=w
 constructor
 ·rintro ⟨⟩; exact ⟨⟨⟨rfl,rfl⟩,rfl⟩,rfl⟩
 ·rintro ⟨⟨⟨h1,h2⟩,h3⟩,h4⟩
  have h1:a=e:=h1; have h2:b=f:=h2; have h3:c=g:=h3; have h4:d=h:=h4
  rw [h1,h2,h3,h4]
theorem LiV.eq_iff {v w:LiV}:v=w↔(v.k=w.k∧v.r=w.r)∧v.a=w.a:=by cases v; cases w; simp [and_assoc]
theorem FdV.eq_iff {v w:FdV}:v=w↔v.n=w.n∧v.t=w.t:=by cases v; cases w; simp
theorem CnV.eq_iff {v w:CnV}:v=w↔v.n=w.n∧v.f=w.f:=by cases v; cases w; simp
theorem TdV.eq_iff {v w:TdV}:v=w↔((v.p=w.p∧v.n=w.n)∧v.ps=w.ps)∧v.cs=w.cs:=by cases v; cases w; simp [and_assoc]
theorem RdV.eq_iff {v w:RdV}:v=w↔((v.p=w.p∧v.i=w.i)∧v.n=w.n)∧v.f=w.f:=by cases v; cases w; simp [and_assoc]
theorem RuV.eq_iff {v w:RuV}:v=w↔((v.r=w.r∧v.a=w.a)∧v.g=w.g)∧v.b=w.b:=by cases v; cases w; simp [and_assoc]
theorem NeV.eq_iff {v w:NeV}:v=w↔v.n=w.n∧v.b=w.b:=by cases v; cases w; simp
theorem MoV.eq_iff {v w:MoV}:v=w↔((((v.n=w.n∧v.im=w.im)∧v.ty=w.ty)∧v.re=w.re)∧v.ru=w.ru)∧v.ne=w.ne:=by cases v; cases w; simp [and_assoc]
theorem VL {A:Heap} {t:Sl} {l:List V} (h:VRow A t l) (hb:l.length≤140737488355328):SlIs (VIs A) Qb.c A t l:=by
 obtain ⟨xs,h1,h2,h3⟩:=h
 exact ⟨xs,h1,h2,h3.len,hb,fun i v x hv hx=>h3.get i v x hv hx⟩
section
variable {C:Ctx} {H A:Heap}
theorem SlIs.ldS {s:Sl} {l:List Str} {i:Nat} {x:Int} {K:Str→Prop} (h:StL A s l) (hle:A.le H) (hx:x=i) (hi:i < l.length) (k:K l[i]):ixa s x fun p=>Sx.ldS H (p.1,p.2+x.toNat*1) K:=
 SlIs.at_ h hle (z:=1) (fun _=>rfl) (by omega) hx hi fun p y hy hr=>⟨y,by have:=hr 0 _ rfl; rw [Nat.add_zero] at this; exact this,by rw [hy.1]; exact k⟩
theorem QsK {l m:List Str} {s t:Sl} {K:Bool→Heap→Prop} (hs:StL A s l) (ht:StL A t m) (hA:A.le H) (k:K (sm l m) H) :
 ift (((Sl.len s:Int):Int) != (Sl.len t:Int))
  (K false H)
  (lp (α:=Int) 0 H (fun x2 J3 H4=>
  ift (decide ((x2:Int) < (Sl.len s:Int)))
  (ixa s x2 fun p6=>
  Sx.ldS H4 (p6.1,p6.2+(x2:Int).toNat*1) fun x11=>
  ixa t x2 fun p13=>
  Sx.ldS H4 (p13.1,p13.2+(x2:Int).toNat*1) fun x18=>
  ift (!(x11 == x18))
  (K false H4)
  (J3 (w .i64 (x2+1)) H4))
  (K true H4))):=by
 rw [SlIs.len hs,SlIs.len ht]
 refine ift.of (fun h=>?_) (fun h=>?_)
 ·have : l ≠ m := fun e => by subst e; simp at h
  rw [QtZ this] at k; exact k
 have hl:l.length=m.length:=Int.ofNat.inj (show (l.length:Int)=m.length by simpa using h)
 have hb:=SlIs.bd hs
 refine ⟨fun x D=>D=H∧∃ i:Nat,x=(i:Int)∧i≤l.length∧l.take i=m.take i,fun x _=>l.length - x.toNat,⟨rfl,0,rfl,Nat.zero_le _,rfl⟩,?_⟩
 rintro _ D ⟨rfl,i,rfl,hi,hq⟩
 refine ift.of (fun h=>?_) (fun h=>?_)
 ·have hlt : i < l.length := by have := of_decide_eq_true h; omega
  have hlt2:i < m.length:=by omega
  refine SlIs.ldS hs hA rfl hlt (SlIs.ldS ht hA rfl hlt2 ?_)
  refine ift.of (fun h=>?_) (fun h=>?_)
  ·have : l[i] ≠ m[i] := by simpa using h
   rw [QtZ (Qu5 hlt hlt2 this)] at k; exact k
  ·have : l[i] = m[i] := by simpa using h
   rw [Q0 (by omega) (by omega)]
   exact ⟨⟨rfl,i+1,by omega,by omega,Qt1 hlt hlt2 hq this⟩,by first | omega | (dsimp only; omega)⟩
 ·have hie : i = l.length := by have := of_decide_eq_false h; omega
  rw [Qsn (Qso hie hl hq)] at k
  exact k
theorem Qu3 {l m:List Str} {s t:Sl} {K:Bool→Heap→Prop} (hs:StL A s l) (ht:StL A t m) (hA:A.le H) (k:K (sm l m) H):QaQ C s t K H:=by
 apply Qga
 unfold Qdr
 exact QsK hs ht hA k
theorem Qru:∀ (v:V) {w:V} {x y:TV} {H:Heap} {K:Bool→Heap→Prop},VIs A v x→VIs A w y→VB v→VB w→A.le H→K (sm v w) H→QbN C x y K H:=by
 refine V.rec_ fun v ih w x y H K hx hy hv hw hA k=>?_
 have hx':=Qew.1 hx
 have hy':=Qew.1 hy
 apply QbN.gh
 apply Qm3
 unfold QiG
 refine box2 fun b1 b3 H4 hle h1 h3=>fI h1 rfl (fI h3 rfl ?_)
 have hA4:=hA.trans hle
 refine jb (P:=v.k=w.k∧v.n=w.n) H4 ?_ fun b9 hb9=>?_
 ·have i1:=iq hx'.1 hy'.1
  exact ift.of (fun h=>fI h1 rfl (fI h3 rfl ⟨rfl,yand i1 h (iq hx'.2.1 hy'.2.1)⟩)) (fun h=>⟨rfl,nand i1 h⟩)
 refine jb (P:=(v.k=w.k∧v.n=w.n)∧v.s=w.s) H4 ?_ fun b18 hb18=>?_
 ·exact ift.of (fun h=>fS h1 rfl (fS h3 rfl ⟨rfl,yand hb9 h (sq hx'.2.2.1 hy'.2.2.1)⟩)) (fun h=>⟨rfl,nand hb9 h⟩)
 refine jb (P:=v=w) H4 ?_ fun b27 hb27=>⟨H,Gh.le hle,by rw [QnS hb27]; exact k⟩
 rw [V.eq_iff]
 refine ift.of (fun h=>fL h1 rfl (fL h3 rfl ?_)) (fun h=>⟨rfl,nand hb18 h⟩)
 refine QsQ (VL hx'.2.2.2 hv.l) (VL hy'.2.2.2 hw.l) hA4 (fun i g1 g2 x2 y2 D Φ hD q1 q2 hΦ=>cu Qiq (ih _ (List.getElem_mem g1) q1 q2 (hv.ls.mem (List.getElem_mem g1)) (hw.ls.mem (List.getElem_mem g2)) hD hΦ)) ⟨rfl,yand hb18 h sm_t⟩
theorem Qr0:∀ (v:TyV) {w:TyV} {x y:Qe} {H:Heap} {K:Bool→Heap→Prop},TyIs A v x→TyIs A w y→A.le H→K (sm v w) H→Qb8 C x y K H:=by
 refine TyV.rec_ fun v ih w x y H K hx hy hA k=>?_
 have hx':=Qc2.1 hx
 have hy':=Qc2.1 hy
 apply Qb8.gh
 apply QnL
 unfold Qjp
 refine box2 fun b1 b3 H4 hle h1 h3=>fS h1 rfl (fS h3 rfl ?_)
 refine jb (P:=v=w) H4 ?_ fun b hb=>⟨H,Gh.le hle,by rw [QnS hb]; exact k⟩
 rw [TyV.eq_iff]
 have i1:=sqN hx'.1 hy'.1
 refine ift.of (fun h=>fL h1 rfl (fL h3 rfl ?_)) (fun h=>⟨rfl,nand i1 h⟩)
 exact Qub hx'.2 hy'.2 (hA.trans hle) (fun i g1 g2 x2 y2 D Φ hD q1 q2 hΦ=>cu Qjg (ih _ (List.getElem_mem g1) q1 q2 hD hΦ)) ⟨rfl,yand i1 h sm_t⟩
theorem QoP:∀ (v:ExV) {w:ExV} {x y:Qa} {H:Heap} {K:Bool→Heap→Prop},ExIs A v x→ExIs A w y→A.le H→K (sm v w) H→QcO C x y K H:=by
 refine ExV.rec_ fun v ih w x y H K hx hy hA k=>?_
 have hx':=Qay.1 hx
 have hy':=Qay.1 hy
 apply QcO.gh
 apply QnK
 unfold Qjo
 refine box2 fun b1 b3 H4 hle h1 h3=>fI h1 rfl (fI h3 rfl ?_)
 have hA4:=hA.trans hle
 refine jb (P:=v.k=w.k∧v.n=w.n) H4 ?_ fun b9 hb9=>?_
 ·have i1:=iq hx'.1 hy'.1
  exact ift.of (fun h=>fS h1 rfl (fS h3 rfl ⟨rfl,yand i1 h (sqN hx'.2.1 hy'.2.1)⟩)) (fun h=>⟨rfl,nand i1 h⟩)
 refine jb (P:=(v.k=w.k∧v.n=w.n)∧v.v=w.v) H4 ?_ fun b18 hb18=>?_
 ·refine ift.of (fun h => fT h1 (x := x.Value_) (fun i u hi => ?_) (fT h3 (x := y.Value_) (fun i u hi => ?_) (Qru _ hx'.2.2.1 hy'.2.2.1 hx'.2.2.2.1 hy'.2.2.2.1 hA4 ⟨rfl, yand hb9 h sm_t⟩))) (fun h => ⟨rfl, nand hb9 h⟩)
  all_goals
   match i,hi with
   | 0,hi=>exact hi
   | 1,hi=>exact hi
   | 2,hi=>exact hi
   | 3,hi=>exact hi
   | i+4,hi=>simp [Qb.c] at hi
 refine jb (P:=v=w) H4 ?_ fun b27 hb27=>⟨H,Gh.le hle,by rw [QnS hb27]; exact k⟩
 rw [ExV.eq_iff]
 refine ift.of (fun h=>fL h1 rfl (fL h3 rfl ?_)) (fun h=>⟨rfl,nand hb18 h⟩)
 exact QpZ hx'.2.2.2.2 hy'.2.2.2.2 hA4 (fun i g1 g2 x2 y2 D Φ hD q1 q2 hΦ=>cu Qgh (ih _ (List.getElem_mem g1) q1 q2 hD hΦ)) ⟨rfl,yand hb18 h sm_t⟩
theorem QpK {v w:LiV} {x y:Qc} {K:Bool→Heap→Prop} (hx:LiIs A v x) (hy:LiIs A w y) (hA:A.le H) (k:K (sm v w) H):QbG C x y K H:=by
 apply QbG.gh
 apply QlK
 unfold QgZ
 refine box2 fun b1 b3 H4 hle h1 h3=>fI h1 rfl (fI h3 rfl ?_)
 refine jb (P:=v.k=w.k∧v.r=w.r) H4 ?_ fun b9 hb9=>?_
 ·have i1:=iq hx.1 hy.1
  exact ift.of (fun h=>fS h1 rfl (fS h3 rfl ⟨rfl,yand i1 h (sqN hx.2.1 hy.2.1)⟩)) (fun h=>⟨rfl,nand i1 h⟩)
 refine jb (P:=v=w) H4 ?_ fun b hb=>⟨H,Gh.le hle,by rw [QnS hb]; exact k⟩
 rw [LiV.eq_iff]
 refine ift.of (fun h=>fL h1 rfl (fL h3 rfl ?_)) (fun h=>⟨rfl,nand hb9 h⟩)
 exact QpZ hx.2.2 hy.2.2 (hA.trans hle) (fun i g1 g2 x2 y2 D Φ hD q1 q2 hΦ=>cu Qgh (QoP _ q1 q2 hD hΦ)) ⟨rfl,yand hb9 h sm_t⟩
theorem Qv6 {x:Qd} (i:Nat) (u:Value) (hi:(Qe.c x.Type_)[i]? = some u):(Qd.c x)[1+i]? = some u:=by
 match i,hi with
 | 0,hi=>exact hi
 | 1,hi=>exact hi
 | i+2,hi=>simp [Qe.c] at hi
theorem Qrt {v w:FdV} {x y:Qd} {K:Bool→Heap→Prop} (hx:FdIs A v x) (hy:FdIs A w y) (hA:A.le H) (k:K (sm v w) H):Qce C x y K H:=by
 apply Qce.gh
 apply Qm2
 unfold QiF
 refine box2 fun b1 b3 H4 hle h1 h3=>fS h1 rfl (fS h3 rfl ?_)
 refine jb (P:=v=w) H4 ?_ fun b hb=>⟨H,Gh.le hle,by rw [QnS hb]; exact k⟩
 rw [FdV.eq_iff]
 have i1:=sqN hx.1 hy.1
 exact ift.of (fun h=>fT h1 Qv6 (fT h3 Qv6 (Qr0 _ hx.2 hy.2 (hA.trans hle) ⟨rfl,yand i1 h sm_t⟩))) (fun h=>⟨rfl,nand i1 h⟩)
theorem QqJ {l m:List FdV} {s t:Sl} {K:Bool→Heap→Prop} (hs:FdL A s l) (ht:FdL A t m) (hA:A.le H) (k:K (sm l m) H):Qr C s t (.func (.func 76) (List.toArray []) (List.toArray []):Value) K H:=
 QqI hs ht hA (fun i g1 g2 x2 y2 D Φ hD q1 q2 hΦ=>cu Qnd (Qrt q1 q2 hD hΦ)) k
theorem QsO {l m:List LiV} {s t:Sl} {K:Bool→Heap→Prop} (hs:LiL A s l) (ht:LiL A t m) (hA:A.le H) (k:K (sm l m) H):Qs C s t (.func (.func 84) (List.toArray []) (List.toArray []):Value) K H:=
 QrH hs ht hA (fun i g1 g2 x2 y2 D Φ hD q1 q2 hΦ=>cu QlX (QpK q1 q2 hD hΦ)) k
theorem QsV {v w:Str} {x y:Qn} {K:Bool→Heap→Prop} (hx:ImIs v x) (hy:ImIs w y) (k:K (sm v w) H):Qeg C x y K H:=by
 apply Qeg.gh
 apply Qo9
 unfold Qlp
 refine box2 fun b1 b3 H4 hle h1 h3=>fS h1 rfl (fS h3 rfl ⟨H,Gh.le hle,?_⟩)
 rw [QnS (sqN hx hy)]; exact k
theorem QrK {v w:CnV} {x y:Qh} {K:Bool→Heap→Prop} (hx:CnIs A v x) (hy:CnIs A w y) (hA:A.le H) (k:K (sm v w) H):QcJ C x y K H:=by
 apply QcJ.gh
 apply QnG
 unfold Qjk
 refine box2 fun b1 b3 H4 hle h1 h3=>fS h1 rfl (fS h3 rfl ?_)
 refine jb (P:=v=w) H4 ?_ fun b hb=>⟨H,Gh.le hle,by rw [QnS hb]; exact k⟩
 rw [CnV.eq_iff]
 have i1:=sqN hx.1 hy.1
 exact ift.of (fun h=>fL h1 rfl (fL h3 rfl (QqJ hx.2 hy.2 (hA.trans hle) ⟨rfl,yand i1 h sm_t⟩))) (fun h=>⟨rfl,nand i1 h⟩)
theorem QsW {v w:TdV} {x y:Qf} {K:Bool→Heap→Prop} (hx:TdIs A v x) (hy:TdIs A w y) (hA:A.le H) (k:K (sm v w) H):Qeh C x y K H:=by
 apply Qeh.gh
 apply Qpa
 unfold Qlq
 refine box2 fun b1 b3 H4 hle h1 h3=>fB h1 rfl (fB h3 rfl ?_)
 have hA4:=hA.trans hle
 refine jb (P:=v.p=w.p∧v.n=w.n) H4 ?_ fun b9 hb9=>?_
 ·have i1:=bq hx.1 hy.1
  exact ift.of (fun h=>fS h1 rfl (fS h3 rfl ⟨rfl,yand i1 h (sqN hx.2.1 hy.2.1)⟩)) (fun h=>⟨rfl,nand i1 h⟩)
 refine jb (P:=(v.p=w.p∧v.n=w.n)∧v.ps=w.ps) H4 ?_ fun b18 hb18=>?_
 ·exact ift.of (fun h=>fL h1 rfl (fL h3 rfl (Qu3 hx.2.2.1 hy.2.2.1 hA4 ⟨rfl,yand hb9 h sm_t⟩))) (fun h=>⟨rfl,nand hb9 h⟩)
 refine jb (P:=v=w) H4 ?_ fun b hb=>⟨H,Gh.le hle,by rw [QnS hb]; exact k⟩
 rw [TdV.eq_iff]
 exact ift.of (fun h=>fL h1 rfl (fL h3 rfl (QrG hx.2.2.2 hy.2.2.2 hA4 (fun i g1 g2 x2 y2 D Φ hD q1 q2 hΦ=>cu QnO (QrK q1 q2 hD hΦ)) ⟨rfl,yand hb18 h sm_t⟩))) (fun h=>⟨rfl,nand hb18 h⟩)
theorem QsX {v w:RdV} {x y:Qi} {K:Bool→Heap→Prop} (hx:RdIs A v x) (hy:RdIs A w y) (hA:A.le H) (k:K (sm v w) H):Qei C x y K H:=by
 apply Qei.gh
 apply Qpb
 unfold Qlr
 refine box2 fun b1 b3 H4 hle h1 h3=>fB h1 rfl (fB h3 rfl ?_)
 have hA4:=hA.trans hle
 refine jb (P:=v.p=w.p∧v.i=w.i) H4 ?_ fun b9 hb9=>?_
 ·have i1:=bq hx.1 hy.1
  exact ift.of (fun h=>fB h1 rfl (fB h3 rfl ⟨rfl,yand i1 h (bq hx.2.1 hy.2.1)⟩)) (fun h=>⟨rfl,nand i1 h⟩)
 refine jb (P:=(v.p=w.p∧v.i=w.i)∧v.n=w.n) H4 ?_ fun b18 hb18=>?_
 ·exact ift.of (fun h=>fS h1 rfl (fS h3 rfl ⟨rfl,yand hb9 h (sqN hx.2.2.1 hy.2.2.1)⟩)) (fun h=>⟨rfl,nand hb9 h⟩)
 refine jb (P:=v=w) H4 ?_ fun b hb=>⟨H,Gh.le hle,by rw [QnS hb]; exact k⟩
 rw [RdV.eq_iff]
 exact ift.of (fun h=>fL h1 rfl (fL h3 rfl (QqJ hx.2.2.2 hy.2.2.2 hA4 ⟨rfl,yand hb18 h sm_t⟩))) (fun h=>⟨rfl,nand hb18 h⟩)
theorem QsY {v w:RuV} {x y:Qk} {K:Bool→Heap→Prop} (hx:RuIs A v x) (hy:RuIs A w y) (hA:A.le H) (k:K (sm v w) H):Qej C x y K H:=by
 apply Qej.gh
 apply Qpc
 unfold Qls
 refine box2 fun b1 b3 H4 hle h1 h3=>fS h1 rfl (fS h3 rfl ?_)
 have hA4:=hA.trans hle
 refine jb (P:=v.r=w.r∧v.a=w.a) H4 ?_ fun b9 hb9=>?_
 ·have i1:=sqN hx.1 hy.1
  exact ift.of (fun h=>fL h1 rfl (fL h3 rfl (QpZ hx.2.1 hy.2.1 hA4 (fun i g1 g2 x2 y2 D Φ hD q1 q2 hΦ=>cu Qgh (QoP _ q1 q2 hD hΦ)) ⟨rfl,yand i1 h sm_t⟩))) (fun h=>⟨rfl,nand i1 h⟩)
 refine jb (P:=(v.r=w.r∧v.a=w.a)∧v.g=w.g) H4 ?_ fun b18 hb18=>?_
 ·exact ift.of (fun h=>fL h1 rfl (fL h3 rfl (Qu3 hx.2.2.1 hy.2.2.1 hA4 ⟨rfl,yand hb9 h sm_t⟩))) (fun h=>⟨rfl,nand hb9 h⟩)
 refine jb (P:=v=w) H4 ?_ fun b hb=>⟨H,Gh.le hle,by rw [QnS hb]; exact k⟩
 rw [RuV.eq_iff]
 exact ift.of (fun h=>fL h1 rfl (fL h3 rfl (QsO hx.2.2.2 hy.2.2.2 hA4 ⟨rfl,yand hb18 h sm_t⟩))) (fun h=>⟨rfl,nand hb18 h⟩)
theorem QsZ {v w:NeV} {x y:Ql} {K:Bool→Heap→Prop} (hx:NeIs A v x) (hy:NeIs A w y) (hA:A.le H) (k:K (sm v w) H):Qek C x y K H:=by
 apply Qek.gh
 apply Qpd
 unfold Qlt
 refine box2 fun b1 b3 H4 hle h1 h3=>fS h1 rfl (fS h3 rfl ?_)
 refine jb (P:=v=w) H4 ?_ fun b hb=>⟨H,Gh.le hle,by rw [QnS hb]; exact k⟩
 rw [NeV.eq_iff]
 have i1:=sqN hx.1 hy.1
 exact ift.of (fun h=>fL h1 rfl (fL h3 rfl (QsO hx.2 hy.2 (hA.trans hle) ⟨rfl,yand i1 h sm_t⟩))) (fun h=>⟨rfl,nand i1 h⟩)
theorem QuR {v w:MoV} {x y:Qg} {K:Bool→Heap→Prop} (hx:MoIs A v x) (hy:MoIs A w y) (hA:A.le H) (k:K (sm v w) H):QeW C x y K H:=by
 apply QeW.gh
 apply QqM
 unfold Qns
 refine box2 fun b1 b3 H4 hle h1 h3=>fS h1 rfl (fS h3 rfl ?_)
 have hA4:=hA.trans hle
 obtain ⟨x1,x2,x3,x4,x5,x6⟩:=hx
 obtain ⟨y1,y2,y3,y4,y5,y6⟩:=hy
 refine jb (P:=v.n=w.n∧v.im=w.im) H4 ?_ fun b9 hb9=>?_
 ·have i1:=sqN x1 y1
  exact ift.of (fun h=>fL h1 rfl (fL h3 rfl (Qsq x2 y2 hA4 (fun i g1 g2 x2 y2 D Φ hD q1 q2 hΦ=>cu Qpv (QsV q1 q2 hΦ)) ⟨rfl,yand i1 h sm_t⟩))) (fun h=>⟨rfl,nand i1 h⟩)
 refine jb (P:=(v.n=w.n∧v.im=w.im)∧v.ty=w.ty) H4 ?_ fun b20 hb20=>?_
 ·exact ift.of (fun h=>fL h1 rfl (fL h3 rfl (QrI x3 y3 hA4 (fun i g1 g2 x2 y2 D Φ hD q1 q2 hΦ=>cu Qpw (QsW q1 q2 hD hΦ)) ⟨rfl,yand hb9 h sm_t⟩))) (fun h=>⟨rfl,nand hb9 h⟩)
 refine jb (P:=((v.n=w.n∧v.im=w.im)∧v.ty=w.ty)∧v.re=w.re) H4 ?_ fun b31 hb31=>?_
 ·exact ift.of (fun h=>fL h1 rfl (fL h3 rfl (Qsr x4 y4 hA4 (fun i g1 g2 x2 y2 D Φ hD q1 q2 hΦ=>cu Qpx (QsX q1 q2 hD hΦ)) ⟨rfl,yand hb20 h sm_t⟩))) (fun h=>⟨rfl,nand hb20 h⟩)
 refine jb (P:=(((v.n=w.n∧v.im=w.im)∧v.ty=w.ty)∧v.re=w.re)∧v.ru=w.ru) H4 ?_ fun b42 hb42=>?_
 ·exact ift.of (fun h=>fL h1 rfl (fL h3 rfl (Qua x5 y5 hA4 (fun i g1 g2 x2 y2 D Φ hD q1 q2 hΦ=>cu Qpy (QsY q1 q2 hD hΦ)) ⟨rfl,yand hb31 h sm_t⟩))) (fun h=>⟨rfl,nand hb31 h⟩)
 refine jb (P:=v=w) H4 ?_ fun b hb=>⟨H,Gh.le hle,by rw [QnS hb]; exact k⟩
 rw [MoV.eq_iff]
 exact ift.of (fun h=>fL h1 rfl (fL h3 rfl (QsP x6 y6 hA4 (fun i g1 g2 x2 y2 D Φ hD q1 q2 hΦ=>cu Qpz (QsZ q1 q2 hD hΦ)) ⟨rfl,yand hb42 h sm_t⟩))) (fun h=>⟨rfl,nand hb42 h⟩)
end
end
section
open Go Go.Proofs
mutual
def vaD:List Str→ExV→List Str
 | ns,.mk k n _ a=>if k=2 then (if ns.contains n then ns else ns++[n]) else vasD ns a
def vasD:List Str→List ExV→List Str
 | ns,[]=>ns
 | ns,v::l=>vasD (vaD ns v) l
end
theorem Qve (ns:List Str) (v:ExV):vaD ns v=if v.k=2 then (if ns.contains v.n then ns else ns++[v.n]) else vasD ns v.a:=by obtain ⟨k,n,u,a⟩:=v; simp only [vaD,ExV.k,ExV.n,ExV.a]; rfl
theorem QrB:∀ (l:List ExV) (ns:List Str) (v:ExV),vasD ns (l++[v])=vaD (vasD ns l) v
 | [],ns,v=>rfl
 | w::l,ns,v=>by rw [List.cons_append]; simp only [vasD,QrB l]
theorem QrC {l:List ExV} {ns:List Str} {i:Nat} (h:i < l.length):vasD ns (l.take (i+1))=vaD (vasD ns (l.take i)) l[i]:=by
 rw [List.take_add_one,List.getElem?_eq_getElem h,Option.toList_some,QrB]
theorem Qt6:∀ (v:ExV) (ns:List Str),(vaD ns v).length≤ns.length+exSz v:=by
 refine ExV.rec_ fun v ih ns=>?_
 rw [Qve,Qm8]
 have:∀ (l:List ExV) (ns:List Str),(∀ w ∈ l,∀ ns:List Str,(vaD ns w).length≤ns.length+exSz w)→(vasD ns l).length≤ns.length+sL exSz l:=by
  intro l
  induction l with
  | nil=>intro ns _; exact Nat.le_refl _
  | cons w l ih=>
   intro ns h
   have h1:=h w (List.mem_cons_self ..) ns
   have h2:=ih (vaD ns w) fun w hw=>h w (List.mem_cons_of_mem _ hw)
   simp only [vasD,sL]; omega
 have:=this v.a ns ih
 split
 ·split
  ·omega
  ·simp only [List.length_append,List.length_cons,List.length_nil]; omega
 ·omega
theorem fmS (l:List Str):l.flatMap (fun x=>[sv x])=l.map sv:=by
 induction l with
 | nil=>rfl
 | cons a l ih=>rw [List.flatMap_cons,ih]; rfl
section
variable {C:Ctx} {A F:Heap} {b3 b5:Nat}
structure Inv (F D:Heap) (b3:Nat) (ns:List Str) (s:Sl):Prop where
 cell:D b3=some (true,.row [slv s])
 no:F b3=none
 own:OwnF F D 1 s (ns.map sv)
 ne:∀ p,s.p=some p→p.1≠b3
theorem Inv.up {D E:Heap} {ns:List Str} {s:Sl} (h:Inv F D b3 ns s) (hle:D.le E):Inv F E b3 ns s:=⟨hle _ _ h.cell,h.no,h.own.up hle,h.ne⟩
theorem Inv.len {D:Heap} {ns:List Str} {s:Sl} (h:Inv F D b3 ns s):s.len=ns.length:=by have:=h.own.own.1; simpa using this.symm
theorem Qv2 {F D:Heap} {b:Nat} {g:GO} (h:F.le D) (hb:D b=some (true,g)):(F.put b g).le D:=fun c e hc=>by
 by_cases hcb:c=b
 ·subst hcb; rw [Heap.put_same] at hc; injection hc with hc; subst hc; exact hb
 ·rw [Heap.put_ne _ _ _ hcb] at hc; exact h _ _ hc
theorem Qui {D:Heap} {ns:List Str} {s:Sl} {x:Str} {K:Bool→Heap→Prop} (hr:rdsl D s (ns.map sv)) (hl:s.len=ns.length) (hb:ns.length≤1000000) (k:K (ns.contains x) D):Qbn C s x K D:=by
 apply QfF
 unfold QcA
 apply Qgb
 unfold Qds
 have hs:SlIs (fun (v:Str) (x:Str)=>x=v) (fun x=>[sv x]) D s ns:=⟨ns,by rw [fmS]; exact hr,hl,rfl,by omega,fun i v x hv hx=>by rw [hv] at hx; injection hx with hx; exact hx.symm⟩
 rw [hl]
 refine ⟨fun y E=>E=D∧∃ i:Nat,y=(i:Int)∧i≤ns.length∧x ∉ ns.take i,fun y _=>ns.length - y.toNat,⟨rfl,0,rfl,Nat.zero_le _,by simp⟩,?_⟩
 rintro _ E ⟨rfl,i,rfl,hi,hno⟩
 refine ift.of (fun h=>?_) (fun h=>?_)
 ·have hlt : i < ns.length := by have := of_decide_eq_true h; omega
  refine SlIs.at_ hs (Heap.le.refl _) (z:=1) (fun _=>rfl) (by omega) rfl hlt fun p y hy hr=>⟨y,hr 0 _ rfl,?_⟩
  rw [hy]
  refine ift.of (fun h=>?_) (fun h=>?_)
  ·have hx:x=ns[i]:=beq_iff_eq.1 h
   have hc:ns.contains x=true:=by rw [List.contains_iff_mem,hx]; exact List.getElem_mem hlt
   rw [hc] at k
   have e0:decide ((i:Int) ≥ 0)=true:=decide_eq_true (by omega)
   dsimp only
   rw [e0]; exact k
  ·have hx : x ≠ ns[i] := fun e => by rw [e] at h; simp at h
   rw [Q0 (by omega) (by omega)]
   refine ⟨⟨rfl,i+1,by omega,by omega,?_⟩,by first | omega | (dsimp only; omega)⟩
   rw [List.take_add_one,List.getElem?_eq_getElem hlt,Option.toList_some,List.mem_append,List.mem_singleton]
   exact fun h=>h.elim hno hx
 ·have hie : i = ns.length := by have := of_decide_eq_false h; omega
  rw [hie,List.take_length] at hno
  have hc:ns.contains x=false:=by
   cases hh:ns.contains x with
   | false=>rfl
   | true=>exact absurd (List.contains_iff_mem.1 hh) hno
  rw [hc] at k; exact k
theorem fL0 {D:Heap} {c:Nat} {m:Bool} {s:Sl} {K:Sl→Prop} (h:D c=some (m,.row [slv s])) (k:K s):ldL D (c,0) K:=⟨s,by rw [Qd9 h]; rfl,k⟩
theorem QuA (hA:A.le F) (h5:F b5=some (true,.row [.func (.func 97) (List.toArray []) (List.toArray [pv (some (b3,0)),pv (some (b5,0))])])):∀ (e:ExV) {x:Qa} {D:Heap} {ns:List Str} {s:Sl} {Φ:Heap→Prop},ExIs A e x→Inv F D b3 ns s→ns.length+exSz e≤1000000→(∀ D2 s2,Inv F D2 b3 (vaD ns e) s2→Φ D2)→Ql9 C x (b3,0) (b5,0) Φ D:=by
 refine ExV.rec_ fun e ih x D ns s Φ hx hI hsz k=>?_
 obtain ⟨ek,en,hv,hB,hs⟩:=Qay.1 hx
 have hlen:=hs.len
 apply Qpe
 unfold Qlu
 refine box1 fun b1 D1 hle h1=>fI h1 rfl ?_
 rw [ek]
 have hI1:=hI.up hle
 rw [Qve] at k
 have hp:=Qut e
 refine ift.of (fun h=>?_) (fun h=>?_)
 ·rw [if_pos (by simpa using h)] at k
  refine fL0 hI1.cell (fS h1 rfl ?_)
  rw [en.1]
  refine Qui hI1.own.own.rdsl hI1.len (by omega) ?_
  refine ift.of (fun h=>?_) (fun h=>?_)
  ·rw [if_neg (by intro e; rw [e] at h; cases h)] at k
   refine fL0 hI1.cell (fS h1 rfl ?_)
   have ho:OwnF (F.put b3 (.row [slv s])) D1 1 s (ns.map sv):=⟨Qv2 hI1.own.le hI1.cell,hI1.own.own,fun p hp=>by rw [Heap.put_ne _ _ _ (hI1.ne p hp)]; exact hI1.own.fresh p hp⟩
   have hl:=hI1.len
   refine QnU ho rfl (by omega) (by omega) fun r D2 h2 hr=>?_
   rw [en.1] at h2
   have c2:D2 b3=some (true,.row [slv s]):=h2.le _ _ (Heap.put_same ..)
   refine ⟨_,c2,Nat.zero_lt_one,?_⟩
   have hne:∀ p,r.p=some p→p.1≠b3:=fun p hp e'=>by
    have:=h2.fresh p hp
    rw [e',Heap.put_same] at this; cases this
   refine k _ r ⟨Heap.put_same ..,hI1.no,⟨?_,?_,fun p hp=>?_⟩,hne⟩
   ·exact fun c v hc => by
     have hcb:c≠b3:=fun e'=>by rw [e',hI1.no] at hc; cases hc
     rw [Heap.put_ne _ _ _ hcb]
     exact h2.le _ _ (by rw [Heap.put_ne _ _ _ hcb]; exact hc)
   ·have:=h2.own
    rw [show ns.map sv++[sv e.n]=(ns++[e.n]).map sv by simp] at this
    exact this.but (fun c v hc hv=>by rw [Heap.put_ne _ _ _ hc]; exact hv) hne
   ·have:=h2.fresh p hp
    rw [Heap.put_ne _ _ _ (hne p hp)] at this; exact this
  ·have hc : ns.contains e.n = true := by simpa using h
   rw [if_pos hc] at k
   exact k D1 s hI1
 ·rw [if_neg (fun e' => by rw [e'] at h; cases h)] at k
  rw [Qm8] at hsz
  refine fL h1 rfl ?_
  rw [hlen]
  have hvl:∀ i≤e.a.length,(vasD ns (e.a.take i)).length≤ns.length+sL exSz (e.a.take i):=by
   intro i
   induction i with
   | zero=>intro _; simp [vasD]
   | succ i ih=>
    intro hi
    have:=ih (by omega)
    rw [QrC (by omega),QgV (by omega)]
    have := Qt6 (e.a[i]'(by omega)) (vasD ns (e.a.take i))
    omega
  refine ⟨fun y E=>∃ (i:Nat) (s:Sl),y=(i:Int)∧i≤e.a.length∧Inv F E b3 (vasD ns (e.a.take i)) s,fun y _=>e.a.length - y.toNat,⟨0,s,rfl,Nat.zero_le _,hI1⟩,?_⟩
  rintro _ E ⟨i,s,rfl,hi,hE⟩
  have hbd:=hs.bd
  refine ift.of (fun h=>?_) (fun h=>?_)
  ·have hlt : i < e.a.length := by have := of_decide_eq_true h; omega
   refine SlIs.ld hs (hA.trans hE.own.le) QN (by omega) rfl hlt fun y hy=>?_
   intro b33 n33
   refine nwT rfl ?_
   have l33:=Heap.le_put n33 (g:=.row (Qa.c y)) (m:=true)
   have c33:(E.put b33 (.row (Qa.c y))) b33=some (true,.row (Qa.c y)):=Heap.put_same ..
   have hE2:=hE.up l33
   generalize E.put b33 (.row (Qa.c y))=E2 at *
   refine ⟨_,by rw [Qd9 (hE2.own.le _ _ h5)]; rfl,bxT c33 ⟨97,[],[pv (some (b3,0)),pv (some (b5,0))],rfl,Qk5,?_⟩⟩
   refine ih _ (List.getElem_mem hlt) hy hE2 ?_ fun D3 s3 h3=>?_
   ·have:=hvl i hi
    have h2:sL exSz (e.a.take (i+1))≤sL exSz e.a:=by
     have:=QoO exSz (e.a.take (i+1)) (e.a.drop (i+1))
     rw [List.take_append_drop] at this; omega
    rw [QgV hlt] at h2
    omega
   ·rw [Q0 (by omega) (by omega)]
    exact ⟨⟨i+1,s3,by omega,by omega,by rw [QrC hlt]; exact h3⟩,by first | omega | (dsimp only; omega)⟩
  ·have hie : i = e.a.length := by have := of_decide_eq_false h; omega
   subst hie
   rw [List.take_length] at hE
   exact k E s hE
theorem Qvj {H:Heap} {e:ExV} {x:Qa} {K:Sl→Heap→Prop} (hx:ExIs A e x) (hA:A.le H) (hsz:exSz e≤1000000) (k:∀ D s,H.le D→SlIs (fun (v:Str) (x:Str)=>x=v) (fun x=>[sv x]) D s (vaD [] e)→K s D):QlO C x K H:=by
 apply QqN
 unfold Qnt
 refine box1 fun b1 H2 hle h1=>?_
 intro b3 n3 b5 n5
 have hne:b5≠b3:=fun e=>by rw [e,Heap.put_same] at n5; cases n5
 have n5':H2 b5=none:=by rw [Heap.put_ne _ _ _ hne] at n5; exact n5
 refine ⟨_,Heap.put_same ..,Nat.zero_lt_one,?_⟩
 dsimp only
 rw [Heap.put_put,show List.set [Value.nilFunc] 0 (.func (.func 97) (List.toArray []) (List.toArray [pv (some (b3,0)),pv (some (b5,0))]))=[.func (.func 97) (List.toArray []) (List.toArray [pv (some (b3,0)),pv (some (b5,0))])] from rfl]
 generalize hFN:Value.func (.func 97) (List.toArray []) (List.toArray [pv (some (b3,0)),pv (some (b5,0))])=FN
 have hF5:(H2.put b5 (.row [FN])) b5=some (true,.row [FN]):=Heap.put_same ..
 have hF3:(H2.put b5 (.row [FN])) b3=none:=by rw [Heap.put_ne _ _ _ (Ne.symm hne)]; exact n3
 have hFD:(H2.put b5 (.row [FN])).le ((H2.put b3 (.row [slv Sl.nil])).put b5 (.row [FN])):=fun c v hc=>by
  by_cases h5:c=b5
  ·subst h5; rw [Heap.put_same] at hc ⊢; exact hc
  ·rw [Heap.put_ne _ _ _ h5] at hc ⊢
   have h3:c≠b3:=fun e=>by rw [e,n3] at hc; cases hc
   rw [Heap.put_ne _ _ _ h3]; exact hc
 have hHF:=Heap.le_put n5' (g:=.row [FN]) (m:=true)
 have c3:((H2.put b3 (.row [slv Sl.nil])).put b5 (.row [FN])) b3=some (true,.row [slv Sl.nil]):=by rw [Heap.put_ne _ _ _ (Ne.symm hne),Heap.put_same]
 generalize (H2.put b3 (.row [slv Sl.nil])).put b5 (.row [FN])=D at *
 generalize H2.put b5 (.row [FN])=F at *
 refine ⟨FN,by rw [Qd9 (hFD _ _ hF5)]; rfl,bxT (hFD _ _ (hHF _ _ h1)) ?_⟩
 rw [← hFN]
 refine ⟨97,[],[pv (some (b3,0)),pv (some (b5,0))],rfl,Qk5,?_⟩
 refine QuA ((hA.trans hle).trans hHF) (by rw [hFN]; exact hF5) e hx (ns:=[]) (s:=Sl.nil) ⟨c3,hF3,⟨hFD,Own.nil _ _,Fresh.nil _⟩,fun p hp=>by cases hp⟩ (by simpa using hsz) fun D2 s2 h2=>?_
 have hvl:=Qt6 e []
 refine fL0 h2.cell (k D2 s2 ((hle.trans hHF).trans h2.own.le) ⟨vaD [] e,?_,h2.len,rfl,by simp only [List.length_nil] at hvl; omega,fun i v x hv hx=>by rw [hv] at hx; injection hx with hx; exact hx.symm⟩)
 have:=h2.own.own.rdsl
 rw [fmS]
 exact this
end
end
section
open Go
def V0:V:=.mk 0 0 [] []
def awX:ExV:=.mk 2 [88] V0 []
def awZ:ExV:=.mk 2 [90] V0 []
def awTa:TyV:=.mk [39,97] []
def awI:TyV:=.mk [105,110,116] []
def awTd:TdV:=⟨true,[108,105,115,116],[[39,97]],[⟨[110,105,108],[]⟩,⟨[99,111,110,115],[⟨[104,101,97,100],awTa⟩,⟨[],.mk [108,105,115,116] [awTa]⟩]⟩]⟩
def awRd:RdV:=⟨true,true,[101,100,103,101],[⟨[102,114,111,109],awI⟩,⟨[116,111],awI⟩]⟩
def awRu:RuV:=⟨[112,97,116,104],[awX,awZ],[[],[99,111,117,110,116]],[⟨1,[98,97,115,101,46,112,97,116,104],[awX,.mk 3 [] V0 []]⟩,⟨4,[90],[awX]⟩]⟩
def awNe:NeV:=⟨[108,111,111,112],[⟨2,[101,100,103,101],[awX,awX]⟩,⟨3,[],[.mk 5 [110,105,108] V0 []]⟩]⟩
def awM:MoV:=⟨[103,114,97,112,104],[[98,97,115,101]],[awTd],[awRd],[awRu],[awNe]⟩
def awT:Str:=[109,111,100,117,108,101,32,103,114,97,112,104,10,105,109,112,111,114,116,32,98,97,115,101,10,112,117,98,32,116,121,112,101,32,108,105,115,116,40,39,97,41,32,61,32,110,105,108,32,124,32,99,111,110,115,40,104,101,97,100,58,32,39,97,44,32,108,105,115,116,40,39,97,41,41,10,112,117,98,32,105,110,112,117,116,32,101,100,103,101,40,102,114,111,109,58,32,105,110,116,44,32,116,111,58,32,105,110,116,41,10,112,97,116,104,40,88,44,32,99,111,117,110,116,40,90,41,41,32,58,45,32,98,97,115,101,46,112,97,116,104,40,88,44,32,95,41,44,32,90,32,61,32,88,46,10,110,101,118,101,114,32,108,111,111,112,32,58,45,32,110,111,116,32,101,100,103,101,40,88,44,32,88,41,44,32,40,110,105,108,41,46,10]
theorem aw_c:moC awM=0:=by decide +kernel
theorem aw_t:moT awM=awT:=by decide +kernel
theorem aw_d:moD awM≤100:=by decide +kernel
end
section
open Go Go.Proofs
/-- a module that nothing was laid into yet -/
def zM:List Value:=Qg.c Qg.zero
open Classical in
/-- all but such modules -/
noncomputable def G (D:Heap):Heap:=fun b=>if D b=some (true,.row zM) then none else D b
theorem G_le (D:Heap):(G D).le D:=fun c e h=>by
 unfold G at h
 split at h
 ·cases h
 ·exact h
theorem Qu0 {D:Heap} {c:Nat} {e:Bool×GO} (h:D c=some e) (hn:e≠(true,.row zM)):G D c=some e:=by
 unfold G
 rw [if_neg (fun h'=>hn (Option.some.inj (h.symm.trans h')))]; exact h
theorem QbE {A B:Heap} (h:A.le B):(G A).le (G B):=fun c e hc=>by
 refine Qu0 (h _ _ (G_le A _ _ hc)) fun he=>?_
 subst he
 unfold G at hc
 split at hc
 ·cases hc
 ·rename_i h2; exact h2 hc
theorem all1 {α β:Type} {P:α→β→Prop} {v:α} {x:β} (h:P v x):∀ (i:Nat) (v':α) (x':β),[v][i]? = some v'→[x][i]? = some x'→P v' x'
 | 0,v',x',hv,hx=>by simp at hv hx; subst hv; subst hx; exact h
 | i+1,v',x',hv,hx=>by simp at hv
theorem all2 {α β:Type} {P:α→β→Prop} {v w:α} {x y:β} (h:P v x) (h2:P w y):∀ (i:Nat) (v':α) (x':β),[v,w][i]? = some v'→[x,y][i]? = some x'→P v' x'
 | 0,v',x',hv,hx=>by simp at hv hx; subst hv; subst hx; exact h
 | 1,v',x',hv,hx=>by simp at hv hx; subst hv; subst hx; exact h2
 | i+2,v',x',hv,hx=>by simp at hv
theorem sl0 {α β:Type} {R:α→β→Prop} {c:β→List Value} {E:Heap}:SlIs R c E Sl.nil ([]:List α):=⟨[],.inl rfl,rfl,rfl,by simp,fun i v x hv=>by simp at hv⟩
/-- a list of one or two, laid in a new block -/
theorem slN {α β : Type} {R : Heap → α → β → Prop} {c : β → List Value} {D : Heap} (xs : List β) (l : List α) {cs : List Value} {n : Nat} (hR : ∀ (i : Nat) (v : α) (x : β), l[i]? = some v → xs[i]? = some x → R (G D) v x) (hm : ∀ {E : Heap} {v : α} {x : β}, (G D).le E → R (G D) v x → R E v x) (hne : cs ≠ zM) (hc : cs = xs.flatMap c := by simp [Qn.c, Qe.c, Qd.c, Qh.c, Qf.c, Qi.c, Qa.c, Qc.c, Qk.c, Ql.c]) (hn : n = xs.length := by rfl) (hl : l.length = xs.length := by rfl) (hb : l.length ≤ 100 := by decide) :
 nw cs (fun b H'=>Heap.le D H'∧SlIs (R (G H')) c (G H') (Sl.of (some (b,0)) n n) l) D:=fun b nb=>by
 have hle:=Heap.le_put nb (g:=.row cs) (m:=true)
 refine ⟨hle,xs,.inr ⟨rfl,_,rfl,Qjb (Qu0 (Heap.put_same ..) fun h=>hne (by injection h with _ h; injection h)) fun j v hj=>?_⟩,hn,hl,by omega,fun i v x hv hx=>hm (QbE hle) (hR i v x hv hx)⟩
 rw [Nat.zero_add,hc]; exact hj
theorem slTx {D : Heap} (l : List Str) {cs : List Value} {n : Nat} (hN : ∀ v ∈ l, v.length ≤ 140737488355328) (hne : cs ≠ zM) (hc : cs = l.map sv := by rfl) (hn : n = l.length := by rfl) (hb : l.length ≤ 100 := by decide) :
 nw cs (fun b H'=>Heap.le D H'∧StL (G H') (Sl.of (some (b,0)) n n) l) D:=by
 refine slN (R:=fun _ (v:Str) (x:Str)=>Nm x v) l l (fun i v x hv hx=>?_) (fun _ h=>h) hne (by rw [hc,fmS]) hn rfl hb
 rw [hv] at hx; injection hx with hx
 exact ⟨hx.symm,hN v (List.mem_of_getElem? hv)⟩
theorem Qud {E:Heap}:VIs E V0 Qb.zero:=Qew.2 ⟨rfl,rfl,rfl,[],.inl rfl,rfl,trivial⟩
theorem V0_B:VB V0:=by simp [V0,VB,VBs]
theorem ex0 {E:Heap} {k:Int} {s:Str} {p:Qp} (hs:s.length≤140737488355328):ExIs E (.mk k s V0 []) ⟨k,p,s,Qb.zero,Sl.nil⟩:=Qay.2 ⟨rfl,⟨rfl,hs⟩,Qud,V0_B,sl0⟩
section
variable {C:Ctx} {H:Heap}
theorem Qfl {s:Str} {K:Qa→Heap→Prop} (hs:s.length≤140737488355328) (k:∀ x D,H.le D→(∀ E,ExIs E (.mk 2 s V0 []) x)→K x D):Qal C s K H:=by
 apply QnE
 unfold Qji
 intro b1 n1
 refine nwT rfl ?_
 exact bxT (Heap.put_same ..) (k _ _ (Heap.le_put n1) fun E=>ex0 hs)
theorem six1 {a b:Value} {l m:List Value} (h:a≠b):(a::l)≠(b::m):=fun e=>h (by injection e)
theorem lenNe {a b:List Value} (h:a.length≠b.length):a≠b:=fun e=>h (by rw [e])
theorem isv {q:IntKind} {n:Int} {s:Str}:(Value.int q n)≠sv s:=fun h=>by cases h
theorem svv {s t:Str} (h:s≠t):sv s≠sv t:=fun e=>h (Qvd e)
theorem Qv4 {α:Type} (v:α):sm v v=true:=Qsn rfl
theorem Qr9 (hT:MaxC C) (hFm:FmtC C) {K:Bool→Heap→Prop} (k:∀ D,H.le D→K true D):Qgy C K H:=by
 apply QoU
 unfold Qla
 intro b1 n1
 refine nwT rfl ?_
 have hle:=Heap.le_put n1 (g:=.row (Qe.c (⟨[39,97],Sl.nil⟩:Qe))) (m:=true)
 have h1:(H.put b1 (.row (Qe.c (⟨[39,97],Sl.nil⟩:Qe)))) b1=some (true,.row (Qe.c (⟨[39,97],Sl.nil⟩:Qe))):=Heap.put_same ..
 generalize H.put b1 (.row (Qe.c (⟨[39,97],Sl.nil⟩:Qe)))=H3 at *
 refine ⟨fun p E=>H3.le E∧p.2=0∧∃ x,E p.1=some (true,.row (Qg.c x))∧MoIs E awM x,?_,?_⟩
 ·refine ⟨H3,Heap.le.refl _,bxT h1 (bxT h1 ?_)⟩
  have ta:∀ E,TyIs E awTa (⟨[39,97],Sl.nil⟩:Qe):=fun E=>Qc2.2 ⟨⟨rfl,by decide⟩,sl0⟩
  have ti:∀ E,TyIs E awI (⟨[105,110,116],Sl.nil⟩:Qe):=fun E=>Qc2.2 ⟨⟨rfl,by decide⟩,sl0⟩
  refine ⟨fun s D => ImL (G D) s awM.im, fun s D => StL (G D) s awTd.ps, fun s D => TyL (G D) s [awTa], fun s D => FdL (G D) s [⟨[104, 101, 97, 100], awTa⟩, ⟨[], .mk [108, 105, 115, 116] [awTa]⟩], fun s D => CnL (G D) s awTd.cs, fun s D => TdL (G D) s awM.ty, fun s D => FdL (G D) s awRd.f, fun s D => RdL (G D) s awM.re,
   fun x D=>∀ E,ExIs E awX x,fun x D=>∀ E,ExIs E awZ x,fun s D=>ExL (G D) s awRu.a,fun s D=>StL (G D) s awRu.g,fun x D=>∀ E,ExIs E awX x,fun s D=>ExL (G D) s [awX,.mk 3 [] V0 []],fun x D=>∀ E,ExIs E awX x,fun s D=>ExL (G D) s [awX],fun s D=>LiL (G D) s awRu.b,fun s D=>RuL (G D) s awM.ru,
   fun x D=>∀ E,ExIs E awX x,fun x D=>∀ E,ExIs E awX x,fun s D=>ExL (G D) s [awX,awX],fun s D=>ExL (G D) s [.mk 5 [110,105,108] V0 []],fun s D=>LiL (G D) s awNe.b,fun s D=>NeL (G D) s awM.ne,fun p D=>p.2=0∧D p.1=some (true,.row zM)∧H3 p.1=none,
   ?_,?_,?_,?_,?_,?_,?_,?_,?_,?_,?_,?_,?_,?_,?_,?_,?_,?_,?_,?_,?_,?_,?_,?_,?_,?_,?_,?_,?_,?_,?_,?_,?_,?_,?_,?_,?_,?_,?_,?_,?_,?_,?_,?_,?_,?_,?_,?_,?_,?_,?_⟩
  ·exact fun x A B hle h=>SlIs.le (QbE hle) h fun _ _ _ h=>h
  ·exact fun x A B hle h=>StL.le (QbE hle) h
  ·exact fun x A B hle h=>SlIs.le (QbE hle) h fun v _ x h=>TyIs.le (QbE hle) v x h
  ·exact fun x A B hle h=>SlIs.le (QbE hle) h fun v _ x h=>FdIs.le (QbE hle) h
  ·exact fun x A B hle h=>SlIs.le (QbE hle) h fun v _ x h=>CnIs.le (QbE hle) h
  ·exact fun x A B hle h=>SlIs.le (QbE hle) h fun v _ x h=>TdIs.le (QbE hle) h
  ·exact fun x A B hle h=>SlIs.le (QbE hle) h fun v _ x h=>FdIs.le (QbE hle) h
  ·exact fun x A B hle h=>SlIs.le (QbE hle) h fun v _ x h=>RdIs.le (QbE hle) h
  ·exact fun x A B hle h=>h
  ·exact fun x A B hle h=>h
  ·exact fun x A B hle h=>SlIs.le (QbE hle) h fun v _ x h=>ExIs.le (QbE hle) v x h
  ·exact fun x A B hle h=>StL.le (QbE hle) h
  ·exact fun x A B hle h=>h
  ·exact fun x A B hle h=>SlIs.le (QbE hle) h fun v _ x h=>ExIs.le (QbE hle) v x h
  ·exact fun x A B hle h=>h
  ·exact fun x A B hle h=>SlIs.le (QbE hle) h fun v _ x h=>ExIs.le (QbE hle) v x h
  ·exact fun x A B hle h=>SlIs.le (QbE hle) h fun v _ x h=>LiIs.le (QbE hle) h
  ·exact fun x A B hle h=>SlIs.le (QbE hle) h fun v _ x h=>RuIs.le (QbE hle) h
  ·exact fun x A B hle h=>h
  ·exact fun x A B hle h=>h
  ·exact fun x A B hle h=>SlIs.le (QbE hle) h fun v _ x h=>ExIs.le (QbE hle) v x h
  ·exact fun x A B hle h=>SlIs.le (QbE hle) h fun v _ x h=>ExIs.le (QbE hle) v x h
  ·exact fun x A B hle h=>SlIs.le (QbE hle) h fun v _ x h=>LiIs.le (QbE hle) h
  ·exact fun x A B hle h=>SlIs.le (QbE hle) h fun v _ x h=>NeIs.le (QbE hle) h
  ·exact fun x A B hle h=>⟨h.1,hle _ _ h.2.1,h.2.2⟩
  ·exact fun D hD=>slN (R:=fun _=>ImIs) [⟨Qp.zero,[98,97,115,101]⟩] awM.im (all1 ⟨rfl,by decide⟩) (fun _ h=>h) (lenNe (by decide))
  ·exact fun D hD=>slTx awTd.ps (by decide) (lenNe (by decide))
  ·exact fun D hD=>slN (R:=TyIs) [⟨[39,97],Sl.nil⟩] [awTa] (all1 (ta _)) (fun h h2=>TyIs.le h _ _ h2) (lenNe (by decide))
  ·exact fun D hD u19 h19=>slN (R:=FdIs) [⟨[104,101,97,100],⟨[39,97],Sl.nil⟩⟩,⟨[],⟨[108,105,115,116],u19⟩⟩] _ (all2 ⟨⟨rfl,by decide⟩,ta _⟩ ⟨⟨rfl,by decide⟩,Qc2.2 ⟨⟨rfl,by decide⟩,h19⟩⟩) (fun h h2=>FdIs.le h h2) (six1 (svv (by decide)))
  ·exact fun D hD u22 h22=>slN (R:=CnIs) [⟨[110,105,108],Sl.nil⟩,⟨[99,111,110,115],u22⟩] awTd.cs (all2 ⟨⟨rfl,by decide⟩,sl0⟩ ⟨⟨rfl,by decide⟩,h22⟩) (fun h h2=>CnIs.le h h2) (lenNe (by simp [Qh.c,zM,Qg.c]))
  ·exact fun D hD u26 u27 h26 h27=>slN (R:=TdIs) [⟨Qp.zero,true,[108,105,115,116],u26,u27⟩] awM.ty (all1 ⟨rfl,⟨rfl,by decide⟩,h26,h27⟩) (fun h h2=>TdIs.le h h2) (six1 isv)
  ·exact fun D hD=>slN (R:=FdIs) [⟨[102,114,111,109],⟨[105,110,116],Sl.nil⟩⟩,⟨[116,111],⟨[105,110,116],Sl.nil⟩⟩] awRd.f (all2 ⟨⟨rfl,by decide⟩,ti _⟩ ⟨⟨rfl,by decide⟩,ti _⟩) (fun h h2=>FdIs.le h h2) (six1 (svv (by decide)))
  ·exact fun D hD u31 h31=>slN (R:=RdIs) [⟨Qp.zero,true,true,[101,100,103,101],u31⟩] awM.re (all1 ⟨rfl,rfl,⟨rfl,by decide⟩,h31⟩) (fun h h2=>RdIs.le h h2) (six1 isv)
  ·exact fun D hD=>Qfl (by decide) fun x D2 h2 hx=>⟨h2,hx⟩
  ·exact fun D hD=>Qfl (by decide) fun x D2 h2 hx=>⟨h2,hx⟩
  ·exact fun D hD u35 u36 h35 h36=>slN (R:=ExIs) [u35,u36] awRu.a (all2 (h35 _) (h36 _)) (fun h h2=>ExIs.le h _ _ h2) (lenNe (by simp [Qa.c,zM,Qg.c]))
  ·exact fun D hD=>slTx awRu.g (by decide) (lenNe (by decide))
  ·exact fun D hD=>Qfl (by decide) fun x D2 h2 hx=>⟨h2,hx⟩
  ·exact fun D hD u40 h40=>slN (R:=ExIs) [u40,⟨3,Qp.zero,[],Qb.zero,Sl.nil⟩] _ (all2 (h40 _) (ex0 (by decide))) (fun h h2=>ExIs.le h _ _ h2) (lenNe (by simp [Qa.c,zM,Qg.c]))
  ·exact fun D hD=>Qfl (by decide) fun x D2 h2 hx=>⟨h2,hx⟩
  ·exact fun D hD u44 h44=>slN (R:=ExIs) [u44] _ (all1 (h44 _)) (fun h h2=>ExIs.le h _ _ h2) (lenNe (by simp [Qa.c,zM,Qg.c]))
  ·exact fun D hD u47 u48 h47 h48=>slN (R:=LiIs) [⟨1,Qp.zero,[98,97,115,101,46,112,97,116,104],u47⟩,⟨4,Qp.zero,[90],u48⟩] awRu.b (all2 ⟨rfl,⟨rfl,by decide⟩,h47⟩ ⟨rfl,⟨rfl,by decide⟩,h48⟩) (fun h h2=>LiIs.le h h2) (lenNe (by simp [Qc.c,zM,Qg.c]))
  ·exact fun D hD u53 u54 u55 h53 h54 h55=>slN (R:=RuIs) [⟨Qp.zero,[112,97,116,104],u53,u54,u55⟩] awM.ru (all1 ⟨⟨rfl,by decide⟩,h53,h54,h55⟩) (fun h h2=>RuIs.le h h2) (six1 isv)
  ·exact fun D hD=>Qfl (by decide) fun x D2 h2 hx=>⟨h2,hx⟩
  ·exact fun D hD=>Qfl (by decide) fun x D2 h2 hx=>⟨h2,hx⟩
  ·exact fun D hD u59 u60 h59 h60=>slN (R:=ExIs) [u59,u60] _ (all2 (h59 _) (h60 _)) (fun h h2=>ExIs.le h _ _ h2) (lenNe (by simp [Qa.c,zM,Qg.c]))
  ·exact fun D hD=>slN (R:=ExIs) [⟨5,Qp.zero,[110,105,108],Qb.zero,Sl.nil⟩] _ (all1 (ex0 (by decide))) (fun h h2=>ExIs.le h _ _ h2) (lenNe (by simp [Qa.c,zM,Qg.c]))
  ·exact fun D hD u65 u66 h65 h66=>slN (R:=LiIs) [⟨2,Qp.zero,[101,100,103,101],u65⟩,⟨3,Qp.zero,[],u66⟩] awNe.b (all2 ⟨rfl,⟨rfl,by decide⟩,h65⟩ ⟨rfl,⟨rfl,by decide⟩,h66⟩) (fun h h2=>LiIs.le h h2) (lenNe (by simp [Qc.c,zM,Qg.c]))
  ·exact fun D hD u69 h69=>slN (R:=NeIs) [⟨Qp.zero,[108,111,111,112],u69⟩] awM.ne (all1 ⟨⟨rfl,by decide⟩,h69⟩) (fun h h2=>NeIs.le h h2) (lenNe (by simp [Ql.c,zM,Qg.c]))
  ·exact fun D hD b nb=>⟨Heap.le_put nb,rfl,Heap.put_same ..,hD.none nb⟩
  ·rintro D hD ⟨b,o⟩ u5 u6 u7 u8 u9 ⟨ho,hb,hn⟩ g5 g6 g7 g8 g9
   dsimp only at ho hb hn
   subst ho
   refine ⟨zM,hb,Nat.le_refl _,?_⟩
   dsimp only
   have e:splice zM 0 (Qg.c (⟨[103,114,97,112,104],u5,u6,u7,u8,u9⟩:Qg))=Qg.c (⟨[103,114,97,112,104],u5,u6,u7,u8,u9⟩:Qg):=by
    unfold splice
    rw [List.take_zero,List.nil_append,List.drop_of_length_le (by simp [zM,Qg.c]),List.append_nil]
   rw [e]
   have hG:(G D).le (D.put b (.row (Qg.c (⟨[103,114,97,112,104],u5,u6,u7,u8,u9⟩:Qg)))):=fun c v hc=>by
    have hcb:c≠b:=fun e=>by
     rw [e] at hc
     unfold G at hc
     rw [if_pos hb] at hc; cases hc
    rw [Heap.put_ne _ _ _ hcb]; exact G_le D _ _ hc
   have hH:H3.le (D.put b (.row (Qg.c (⟨[103,114,97,112,104],u5,u6,u7,u8,u9⟩:Qg)))):=hD.put _ _ hn
   refine ⟨hH,hH,rfl,_,Heap.put_same ..,MoIs.le hG ⟨⟨rfl,by decide⟩,g5,g6,g7,g8,g9⟩⟩
 rintro ⟨b,o⟩ E ⟨hE,ho,x,hb,hx⟩
 dsimp only at ho hb
 subst ho
 refine bxT hb (Qr5 hT hFm hx (Heap.le.refl E) (by have:=aw_d; omega) (fun _=>by rw [aw_t]; decide) fun E1 h1'=>?_)
 rw [aw_c,aw_t,if_pos rfl]
 refine Qfl (by decide) fun xB E2 h2 hB=>Qfl (by decide) fun xA E3 h3 hA=>Qfl (by decide) fun xB2 E4 h4 hB2=>?_
 intro b5 n5
 have l5:=Heap.le_put n5 (g:=.row (Qa.c xA++Qa.c xB2++[])) (m:=true)
 have c5:(E4.put b5 (.row (Qa.c xA++Qa.c xB2++[]))) b5=some (true,.row (Qa.c xA++Qa.c xB2++[])):=Heap.put_same ..
 generalize E4.put b5 (.row (Qa.c xA++Qa.c xB2++[]))=E5 at *
 have hL5:ExL E5 (Sl.of (some (b5,0)) 2 2) [.mk 2 [65] V0 [],.mk 2 [66] V0 []]:=⟨[xA,xB2],.inr ⟨rfl,_,rfl,Qjb c5 fun j v hj=>by simpa using hj⟩,rfl,rfl,by decide,all2 (hA _) (hB2 _)⟩
 intro b6 n6
 have l6:=Heap.le_put n6 (g:=.row (Qa.c xB++Qa.c (⟨4,Qp.zero,[],Qb.zero,Sl.of (some (b5,0)) 2 2⟩:Qa)++[])) (m:=true)
 have c6:(E5.put b6 (.row (Qa.c xB++Qa.c (⟨4,Qp.zero,[],Qb.zero,Sl.of (some (b5,0)) 2 2⟩:Qa)++[]))) b6=some (true,.row (Qa.c xB++Qa.c (⟨4,Qp.zero,[],Qb.zero,Sl.of (some (b5,0)) 2 2⟩:Qa)++[])):=Heap.put_same ..
 generalize E5.put b6 (.row (Qa.c xB++Qa.c (⟨4,Qp.zero,[],Qb.zero,Sl.of (some (b5,0)) 2 2⟩:Qa)++[]))=E6 at *
 have hL6:ExL E6 (Sl.of (some (b6,0)) 2 2) [.mk 2 [66] V0 [],.mk 4 [] V0 [.mk 2 [65] V0 [],.mk 2 [66] V0 []]]:=⟨[xB,⟨4,Qp.zero,[],Qb.zero,Sl.of (some (b5,0)) 2 2⟩],.inr ⟨rfl,_,rfl,Qjb c6 fun j v hj=>by simpa using hj⟩,rfl,rfl,by decide,all2 (hB _) (Qay.2 ⟨rfl,⟨rfl,by decide⟩,Qud,V0_B,SlIs.le l6 hL5 fun v _ x h=>ExIs.le l6 v x h⟩)⟩
 have hEE:E.le E6:=((((h1'.trans h2).trans h3).trans h4).trans l5).trans l6
 refine Qvj (e:=.mk 6 [43] V0 [.mk 2 [66] V0 [],.mk 4 [] V0 [.mk 2 [65] V0 [],.mk 2 [66] V0 []]]) (A:=E6) (Qay.2 ⟨rfl,⟨rfl,by decide⟩,Qud,V0_B,hL6⟩) (Heap.le.refl _) (by decide) fun E7 s h7 hs=>?_
 have hv:vaD [] (.mk 6 [43] V0 [.mk 2 [66] V0 [],.mk 4 [] V0 [.mk 2 [65] V0 [],.mk 2 [66] V0 []]])=[[66],[65]]:=by decide
 rw [hv] at hs
 have hx7:=MoIs.le (hEE.trans h7) hx
 have hb7:=(hEE.trans h7) _ _ hb
 have hlen:=hs.len
 refine ja true E7 (fun _=>bxT hb7 (bxT hb7 (QuR hx7 hx7 (Heap.le.refl _) ⟨rfl,Qv4 _⟩))) ?_
 rw [hlen]
 refine ja true E7 (fun _=>SlIs.at_ hs (Heap.le.refl _) (z:=1) (fun _=>rfl) (by omega) (i:=0) rfl (by decide) fun p y hy hr=>⟨y,hr 0 _ rfl,rfl,by rw [hy]; rfl⟩) ?_
 refine ja true E7 (fun _=>SlIs.at_ hs (Heap.le.refl _) (z:=1) (fun _=>rfl) (by omega) (i:=1) rfl (by decide) fun p y hy hr=>⟨y,hr 0 _ rfl,rfl,by rw [hy]; rfl⟩) ?_
 have e:((((((0:Int) == 0) && (awT == awT)) && true) && ((([[66],[65]]:List Str).length:Int) == 2)) && true && true)=true:=by simp
 have:=k E7 ((hle.trans hE).trans (hEE.trans h7))
 rw [← e] at this
 exact this
end
end
section
open Go Go.Proofs
theorem QtC {m:MoV} (h:moC m=0):moOk m=true:=by
 unfold moC at h
 split at h
 ·cases h
 ·split at h
  ·cases h
  ·rename_i h2; simpa using h2
section
variable {C:Ctx} {H A:Heap}
theorem PrintL (hT:MaxC C) (hFm:FmtC C) {v:MoV} {x:Qg} {K:Str→Int→Heap→Prop} (hx:MoIs A v x) (hA:A.le H) (hz:moSz v≤2000) (k:∀ D,H.le D→K (if moC v=0 then moT v else []) (moC v) D):QcZ C x K H:=
 Qr5 hT hFm hx hA (by have:=Qu9 v; omega) (fun h=>by have:=QtE hx (QtC h); omega) k
end
end
section
open Go Go.Proofs
theorem QuE (v:V):sameV v V0=noV v:=by
 obtain ⟨k,n,s,l⟩:=v
 rw [Bool.eq_iff_iff,QtU]
 constructor
 ·intro h
  injection h with a b c d
  subst a; subst b; subst c; subst d; rfl
 ·intro h
  unfold noV at h
  simp only [Bool.and_eq_true] at h
  obtain ⟨⟨⟨a,b⟩,c⟩,d⟩:=h
  have a':k=0:=of_decide_eq_true a
  have b':n=0:=of_decide_eq_true b
  have c':s=[]:=List.isEmpty_iff.1 c
  have d':l=[]:=List.length_eq_zero_iff.1 (of_decide_eq_true d)
  rw [a',b',c',d']; rfl
section
variable {C:Ctx} {H A:Heap}
/-- a look for a word in a list of words -/
theorem QtV {ws:List Str} {b n:Nat} {x:Str} {H2:Heap} {T F:Heap→Prop} (hb:H2 b=some (true,.row (ws.map sv))) (hn:n=ws.length) (hn2:n≤100) (k1:ws.contains x=true→T H2) (k2:ws.contains x=false→F H2) :
 lp (α:=Int) 0 H2 (fun x3 J4 H5=>ift (decide ((x3:Int) < (Sl.len (Sl.of (some (b,0)) n n):Int))) (ixa (Sl.of (some (b,0)) n n) x3 fun p7=>ldS H5 (p7.1,p7.2+(x3:Int).toNat*1) fun x12=>ift (x12 == x) (T H5) (J4 (w .i64 (x3+1)) H5)) (F H5)):=by
 subst hn
 refine ⟨fun y D=>D=H2∧∃ i:Nat,y=(i:Int)∧i≤ws.length∧x ∉ ws.take i,fun y _=>ws.length - y.toNat,⟨rfl,0,rfl,Nat.zero_le _,by simp⟩,?_⟩
 rintro _ D ⟨rfl,i,rfl,hi,hno⟩
 refine ift.of (fun h=>?_) (fun h=>?_)
 ·have hlt : i < ws.length := by have := of_decide_eq_true h; simp only [Sl.of] at this; omega
  refine ⟨(b,0),rfl,rfl,by omega,by simp only [Sl.of]; omega,ws[i],?_,?_⟩
  ·show rd D (b,0+(i:Int).toNat*1)=_
   rw [Qd9 hb,show 0+(i:Int).toNat*1=i by omega,List.getElem?_map,List.getElem?_eq_getElem hlt]; rfl
  refine ift.of (fun h=>?_) (fun h=>?_)
  ·have hx:ws[i]=x:=beq_iff_eq.1 h
   exact k1 (by rw [List.contains_iff_mem,← hx]; exact List.getElem_mem hlt)
  ·have hx : ws[i] ≠ x := fun e => by rw [e] at h; simp at h
   rw [Q0 (by omega) (by omega)]
   refine ⟨⟨rfl,i+1,by omega,by omega,?_⟩,by first | omega | (dsimp only; omega)⟩
   rw [List.take_add_one,List.getElem?_eq_getElem hlt,Option.toList_some,List.mem_append,List.mem_singleton]
   exact fun h=>h.elim hno fun e=>hx e.symm
 ·have hie : i = ws.length := by have := of_decide_eq_false h; simp only [Sl.of] at this; omega
  rw [hie,List.take_length] at hno
  refine k2 ?_
  cases hh:ws.contains x with
  | false=>rfl
  | true=>exact absurd (List.contains_iff_mem.1 hh) hno
theorem Qq6 {s:Str} {K:Bool→Heap→Prop} (k:K (resW.contains s) H):QbK C s K H:=by
 apply QbK.gh
 apply QmW
 unfold Qix
 refine box1 fun b H2 hle h1=>?_
 exact QtV (ws:=resW) (x:=s) (T:=fun D=>∃ H0,Gh C D H0∧K true H0) (F:=fun D=>∃ H0,Gh C D H0∧K false H0) h1 rfl (by decide) (fun h=>by rw [h] at k; exact ⟨H,Gh.le hle,k⟩) (fun h=>by rw [h] at k; exact ⟨H,Gh.le hle,k⟩)
theorem QeV {s t:Str} {K:Bool→Heap→Prop} (ht:Nm t s) (k:K (namS s) H):Qat C t K H:=by
 obtain ⟨rfl,hs⟩:=ht
 apply Qqd
 unfold QmH
 exact Qfv hs (ja (!resW.contains t) H (fun _=>Qq6 ⟨rfl,rfl⟩) k)
theorem QnW {s t:Str} {K:Bool→Heap→Prop} (ht:Nm t s) (k:K (longS s) H):Qe1 C t K H:=by
 obtain ⟨rfl,hs⟩:=ht
 apply Qqc
 unfold QmG
 refine ⟨fun y D=>D=H∧∃ i:Nat,y=(i:Int)∧i≤t.length∧(46:UInt8) ∉ t.take i,fun y _=>t.length - y.toNat,⟨rfl,0,rfl,Nat.zero_le _,by simp⟩,?_⟩
 rintro _ D ⟨rfl,i,rfl,hi,hno⟩
 unfold longS at k
 refine ift.of (fun h=>?_) (fun h=>?_)
 ·have hlt : i < t.length := by have := of_decide_eq_true h; omega
  refine ⟨t[i],by omega,getE hlt,?_⟩
  dsimp only
  rw [e46]
  have e1:w .i64 ((i:Int)+1)=((i+1:Nat):Int):=by rw [Q0 (by omega) (by omega)]; omega
  refine ift.of (fun h=>?_) (fun h=>?_)
  ·have hc:t[i]=46:=of_decide_eq_true h
   have hcut:cutD t=some (t.take i,t.drop (i+1)):=by
    have:t=t.take i++46::t.drop (i+1):=by rw [← hc,← List.drop_eq_getElem_cons hlt,List.take_append_drop]
    conv=>lhs; rw [this]
    exact QlP _ _ hno
   rw [hcut] at k
   refine ⟨by omega,by omega,by omega,_,rfl,?_⟩
   rw [show (t.take ((i:Int)).toNat).drop (0:Int).toNat=t.take i by simp]
   refine QeV ⟨rfl,by rw [List.length_take]; omega⟩ ?_
   rw [e1]
   refine ja (namS (t.drop (i+1))) D (fun _=>⟨by omega,by omega,by omega,_,rfl,?_⟩) k
   rw [show (t.take ((t.length:Int)).toNat).drop (((i+1:Nat):Int)).toNat=t.drop (i+1) by simp]
   exact QeV ⟨rfl,by rw [List.length_drop]; omega⟩ ⟨rfl,rfl⟩
  ·have hc:¬ t[i]=46:=of_decide_eq_false h
   rw [e1]
   refine ⟨⟨rfl,i+1,rfl,by omega,?_⟩,by first | omega | (dsimp only; omega)⟩
   rw [List.take_add_one,List.getElem?_eq_getElem hlt,Option.toList_some,List.mem_append,List.mem_singleton]
   exact fun h=>h.elim hno fun e=>hc e.symm
 ·have hie : i = t.length := by have := of_decide_eq_false h; omega
  rw [hie,List.take_length] at hno
  rw [QlQ _ hno] at k
  exact QeV ⟨rfl,hs⟩ k
theorem Qnj {s t:Str} {K:Bool→Heap→Prop} (ht:Nm t s) (k:K (varS s) H):QeU C t K H:=by
 obtain ⟨rfl,hs⟩:=ht
 apply QmY
 unfold Qiz
 refine jo' (decide ((t.headD 0).toNat < 65)) H (fun h=>ix0 (fun e=>by rw [e] at h; simp at h) ⟨rfl,by rw [decide_eq_decide]; omega⟩) ?_
 refine jo' (decide (90 < (t.headD 0).toNat)) H (fun h=>ix0 (fun e=>by rw [e] at h; simp at h) ⟨rfl,by rw [decide_eq_decide]; omega⟩) ?_
 refine ift.of (fun h=>?_) (fun h=>?_)
 ·have : varS t = false := by
   unfold varS upC
   simp only [Bool.or_eq_true,decide_eq_true_eq,beq_iff_eq] at h
   rcases h with ((h | h) | h) | h
   ·rw [h]; rfl
   ·rw [show decide (t.length≤32)=false from decide_eq_false (by omega)]; simp
   ·rw [show decide (65≤(t.headD 0).toNat)=false from decide_eq_false (by omega)]; simp
   ·rw [show decide ((t.headD 0).toNat≤90)=false from decide_eq_false (by omega)]; simp
  rw [this] at k; exact k
 simp only [Bool.or_eq_false_iff,decide_eq_false_iff_not] at h
 obtain ⟨⟨⟨h1,h2⟩,h3⟩,h4⟩:=h
 cases t with
 | nil=>simp at h1
 | cons c t=>
  simp only [List.headD_cons,List.length_cons] at h2 h3 h4
  refine ⟨by omega,by simp only [List.length_cons]; omega,by simp,_,rfl,?_⟩
  rw [show (((c::t).take (((c::t).length:Int)).toNat).drop (1:Int).toNat)=t by simp]
  refine ⟨by simp [catOk]; omega,Qfv (by simp; omega) ?_⟩
  have e:nameS ([97]++t)=varS (c::t):=by
   have hu:nameC c=true:=by
    unfold nameC
    rw [show decide (65≤c.toNat)=true from decide_eq_true (by omega),show decide (c.toNat≤90)=true from decide_eq_true (by omega)]; simp
   show (!false && decide (t.length+1≤32) && lowC 97 && (nameC 97 && t.all nameC))=(!false && decide (t.length+1≤32) && (decide (65≤c.toNat) && decide (c.toNat≤90)) && (nameC c && t.all nameC))
   rw [hu,show lowC 97=true from by decide,show nameC 97=true from by decide,show decide (65≤c.toNat)=true from decide_eq_true (by omega),show decide (c.toNat≤90)=true from decide_eq_true (by omega)]
   rfl
  rw [e]; exact k
theorem Qq5 {s t:Str} {K:Bool→Heap→Prop} (ht:Nm t s) (k:K (parS s) H):Qgz C t K H:=by
 obtain ⟨rfl,hs⟩:=ht
 apply Qo3
 unfold Qlj
 refine ja (decide (t.headD 0=39)) H (fun h=>ix0 (fun e=>by rw [e] at h; simp at h) ⟨rfl,u8eq _ 39 (by omega)⟩) ?_
 refine ja (namS (t.drop 1)) H (fun h=>?_) ?_
 ·have hl : 1 ≤ t.length := by simp only [Bool.and_eq_true, decide_eq_true_eq] at h; omega
  refine ⟨by omega,by omega,by omega,t.drop 1,by simp,QeV ⟨rfl,by simp; omega⟩ ⟨rfl,rfl⟩⟩
 have e:((decide (((t.length:Nat):Int) > 1) && decide (t.headD 0=39)) && namS (t.drop 1))=parS t:=by
  cases t with
  | nil=>rfl
  | cons c t=>
   simp only [parS,List.drop_succ_cons,List.drop_zero,List.headD_cons,List.length_cons]
   cases t with
   | nil=>rw [show namS []=false from by decide]; simp
   | cons d t=>rw [show decide ((((d::t).length+1:Nat):Int) > 1)=true from decide_eq_true (by simp only [List.length_cons]; omega)]; simp; rfl
 rw [e]; exact k
theorem Qj1 {s:Str} {K:Bool→Heap→Prop} (k:K (funB s) H):Qcd C s K H:=by
 apply QmV
 unfold Qiw
 have e:((((s == ([110,101,103]:Str)) || (s == ([108,101,110]:Str))) || (s == ([98,105,103]:Str))) || (s == ([105,110,116]:Str)))=funB s:=by
  unfold funB negS lenS bigS intS
  rw [Bool.eq_iff_iff]; simp only [Bool.or_eq_true,beq_iff_eq,decide_eq_true_eq,or_assoc]
 rw [e]; exact k
theorem Qq1 {s:Str} {K:Int→Heap→Prop} (k:K (arS s:Nat) H):Qcl C s K H:=by
 apply Qcl.gh
 apply Qo0
 unfold Qlg
 unfold arS at k
 refine box1 fun b H2 hle h1=>?_
 refine QtV (ws:=opsW) (x:=s) (T:=fun D=>∃ H0,Gh C D H0∧K 2 H0) (F:=fun D=>jn (α:=Bool) (fun b15 H21=>ift b15 (∃ H0,Gh C H21 H0∧K 1 H0) (∃ H0,Gh C H21 H0∧K 0 H0)) (fun J16=>ift (s == ([110,111,116]:Str)) (J16 true D) (Qcd C s (fun r19 H20=>J16 r19 H20) D))) h1 rfl (by decide) (fun h=>?_) (fun h=>?_)
 ·rw [if_pos h] at k; exact ⟨H,Gh.le hle,k⟩
 ·rw [if_neg (by rw [h]; decide)] at k
  refine jo' (funB s) H2 (fun _=>Qj1 ⟨rfl,rfl⟩) ?_
  refine ift.of (fun h=>?_) (fun h=>?_)
  ·rw [if_pos (by simp only [Bool.or_eq_true,beq_iff_eq] at h; exact h)] at k; exact ⟨H,Gh.le hle,k⟩
  ·rw [if_neg (by simp only [Bool.or_eq_false_iff] at h; rintro (e | e); · rw [e] at h; exact absurd h.1 (by decide)
                  ·rw [h.2] at e; cases e)] at k; exact ⟨H,Gh.le hle,k⟩
theorem Qmb:∀ (v:TyV) {x:Qe} {H:Heap} {K:Int→Heap→Prop},TyIs A v x→A.le H→tyD v≤4611686018427387904→K (tyD v:Nat) H→Qap C x K H:=by
 refine TyV.rec_ fun v ih x H K hx hA hb k=>?_
 have hx':=Qc2.1 hx
 apply Qap.gh
 apply Ql3
 unfold Qho
 rw [Qt2] at hb k
 refine box1 fun b1 H2 hle h1=>?_
 refine lpQ (N:=v.a.length) (Q:=fun n i=>n=((mxL tyD (v.a.take i):Nat):Int)) hx'.2.bd (by simp [mxL]) fun n i D J hD hi hQ hJ=>fL (hD _ _ h1) rfl ?_
 subst hQ
 rw [hx'.2.len]
 refine ift.of (fun h=>?_) (fun h=>?_)
 ·have hlt : i < v.a.length := by have := of_decide_eq_true h; omega
  refine fL (hD _ _ h1) rfl (SlIs.ld hx'.2 ((hA.trans hle).trans hD) QgB (by omega) rfl hlt fun y hy=>?_)
  have:=Qeu (f:=tyD) (List.getElem_mem hlt)
  refine ih _ (List.getElem_mem hlt) hy ((hA.trans hle).trans hD) (by omega) ?_
  dsimp only
  rw [ifmax]
  exact hJ hlt _ _ hD (by rw [Qes hlt])
 ·have hie : i = v.a.length := by have := of_decide_eq_false h; dsimp only at this; omega
  subst hie
  rw [List.take_length]
  dsimp only
  rw [Q0 (by omega) (by omega)]
  exact ⟨H,Gh.le (hle.trans hD),k⟩
theorem Qq3:∀ (v:ExV) {x:Qa} {H:Heap} {K:Int→Heap→Prop},ExIs A v x→A.le H→exD v≤4611686018427387904→K (exD v:Nat) H→QbV C x K H:=by
 refine ExV.rec_ fun v ih x H K hx hA hb k=>?_
 obtain ⟨_,_,_,_,hs⟩:=Qay.1 hx
 apply QbV.gh
 apply Qo2
 unfold Qli
 rw [Qtj] at hb k
 refine box1 fun b1 H2 hle h1=>?_
 refine lpQ (N:=v.a.length) (Q:=fun n i=>n=((mxL exD (v.a.take i):Nat):Int)) hs.bd (by simp [mxL]) fun n i D J hD hi hQ hJ=>fL (hD _ _ h1) rfl ?_
 subst hQ
 rw [hs.len]
 refine ift.of (fun h=>?_) (fun h=>?_)
 ·have hlt : i < v.a.length := by have := of_decide_eq_true h; omega
  refine fL (hD _ _ h1) rfl (SlIs.ld hs ((hA.trans hle).trans hD) QN (by omega) rfl hlt fun y hy=>?_)
  have:=Qeu (f:=exD) (List.getElem_mem hlt)
  refine ih _ (List.getElem_mem hlt) hy ((hA.trans hle).trans hD) (by omega) ?_
  dsimp only
  rw [ifmax]
  exact hJ hlt _ _ hD (by rw [Qes hlt])
 ·have hie : i = v.a.length := by have := of_decide_eq_false h; dsimp only at this; omega
  subst hie
  rw [List.take_length]
  dsimp only
  rw [Q0 (by omega) (by omega)]
  exact ⟨H,Gh.le (hle.trans hD),k⟩
theorem Quk {v:V} {x:TV} {K:Bool→Heap→Prop} (hx:VIs H v x) (hB:VB v) (k:K (noV v) H):Qd4 C x K H:=by
 apply Qd4.gh
 apply Qqf
 unfold QmJ
 refine box1 fun b1 H2 hle h1=>bxT h1 (Qvg (hx.le hle) (w:=V0) Qud hB ?_)
 rw [QuE]; exact ⟨H,Gh.le hle,k⟩
end
end
section
open Go Go.Proofs
theorem QuF {s:Str} (h:parS s=true):longS s=false:=by
 cases s with
 | nil=>simp [parS] at h
 | cons c t=>
  simp only [parS,Bool.and_eq_true,decide_eq_true_eq] at h
  have hc:=h.1
  subst hc
  have hn:∀ u:Str,namS (39::u)=false:=fun u=>by
   unfold namS nameS
   rw [show lowC ((39::u:Str).headD 0)=false from (show lowC 39=false by decide)]; simp
  unfold longS
  cases hcd:cutD (39::t) with
  | none=>exact hn t
  | some p=>
   obtain ⟨a,b⟩:=p
   simp only [cutD] at hcd
   rw [if_neg (by decide)] at hcd
   cases ht:cutD t with
   | none=>rw [ht] at hcd; simp at hcd
   | some q=>rw [ht] at hcd; simp at hcd; obtain ⟨rfl,_⟩:=hcd; show (namS (39::q.1) && _)=false; rw [hn]; rfl
/-- a loop that goes on while all is well -/
theorem lpA {α:Type} {f:α→Bool} {l:List α} {b0:Bool} {H:Heap} {body:Bool×Int→(Bool×Int→Heap→Prop)→Heap→Prop} (hb:l.length≤140737488355328)
 (step:∀ (ok:Bool) (i:Nat) (D:Heap) (J:Bool×Int→Heap→Prop),H.le D→i≤l.length→((decide ((i:Int) < (l.length:Int)) && ok)=false→ok=(b0 && l.all f))→((decide ((i:Int) < (l.length:Int)) && ok)=true→∃ hlt:i < l.length,∀ D',H.le D'→J (f l[i],w .i64 ((i:Int)+1)) D')→body (ok,(i:Int)) J D):lp (α:=Bool×Int) (b0,0) H body:=by
 refine ⟨fun x D=>H.le D∧∃ i:Nat,x.2=(i:Int)∧i≤l.length∧x.1=(b0 && (l.take i).all f),fun x _=>l.length - x.2.toNat,⟨Heap.le.refl _,0,rfl,Nat.zero_le _,by simp⟩,?_⟩
 rintro ⟨ok,_⟩ D ⟨hD,i,rfl,hi,hok⟩
 dsimp only at hok
 refine step ok i D _ hD hi (fun h=>?_) (fun h=>?_)
 ·rw [Bool.and_eq_false_iff] at h
  rcases h with h | h
  ·have hie : i = l.length := by have := of_decide_eq_false h; omega
   rw [hie,List.take_length] at hok; exact hok
  ·rw [h] at hok ⊢
   cases b0 with
   | false=>rfl
   | true=>
    rw [Bool.true_and] at hok ⊢
    cases hh:l.all f with
    | false=>rfl
    | true=>
     have:(l.take i).all f=true:=List.all_eq_true.2 fun x hx=>List.all_eq_true.1 hh x (List.mem_of_mem_take hx)
     rw [this] at hok; cases hok
 ·rw [Bool.and_eq_true] at h
  have hlt:i < l.length:=by have:=of_decide_eq_true h.1; omega
  refine ⟨hlt,fun D' hD'=>?_⟩
  rw [Q0 (by omega) (by omega)]
  refine ⟨⟨hD',i+1,rfl,by omega,?_⟩,by first | omega | (dsimp only; omega)⟩
  have h2:=h.2
  rw [hok,Bool.and_eq_true] at h2
  rw [allTake hlt,h2.1,h2.2]; rfl
/-- a loop that leaves at the first that is not well -/
theorem lpF {α:Type} {f:α→Bool} {l:List α} {H:Heap} {body:Int→(Int→Heap→Prop)→Heap→Prop} (hb:l.length≤140737488355328)
 (step:∀ (i:Nat) (D:Heap) (J:Int→Heap→Prop),H.le D→i≤l.length→(i=l.length→l.all f=true)→(∀ hlt:i < l.length,(f l[i]=false→l.all f=false)∧(f l[i]=true→∀ D',H.le D'→J (w .i64 ((i:Int)+1)) D'))→body (i:Int) J D):lp (α:=Int) 0 H body:=by
 refine ⟨fun x D=>H.le D∧∃ i:Nat,x=(i:Int)∧i≤l.length∧(l.take i).all f=true,fun x _=>l.length - x.toNat,⟨Heap.le.refl _,0,rfl,Nat.zero_le _,rfl⟩,?_⟩
 rintro _ D ⟨hD,i,rfl,hi,hq⟩
 refine step i D _ hD hi (fun h=>by rw [h,List.take_length] at hq; exact hq) fun hlt=>⟨fun h=>allNo hlt h,fun h D' hD'=>?_⟩
 rw [Q0 (by omega) (by omega)]
 exact ⟨⟨hD',i+1,by omega,by omega,by rw [allTake hlt,hq,h]; rfl⟩,by first | omega | (dsimp only; omega)⟩
section
variable {C:Ctx} {H A:Heap}
theorem dDepthAny:∀ (v:V) {x:TV} {H:Heap} {K:Int→Heap→Prop},VIs H v x→VB v→(∀ r,K r H)→QaX C x K H:=by
 refine V.rec_ fun v ih x H K hv hB k=>?_
 apply QaX.gh
 apply QkS
 unfold QhT
 have hr:=hv.row
 have hl:=hr.len
 refine box1 fun b1 H2 hle h1=>?_
 refine lpQ (N:=v.l.length) (Q:=fun _ _=>True) hB.l trivial fun n i D J hD hi _ hJ=>fL (hD _ _ h1) rfl ?_
 rw [hl]
 refine ift.of (fun h=>?_) (fun h=>⟨H,Gh.le (hle.trans hD),k _⟩)
 have hlt:i < v.l.length:=by have:=of_decide_eq_true h; omega
 refine fL (hD _ _ h1) rfl (hr.ld (hle.trans hD) rfl hlt fun y hy=>?_)
 exact ih _ (List.getElem_mem hlt) (hy.le (hle.trans hD)) (hB.at hlt) fun r=>hJ hlt _ _ hD trivial
theorem litL {v:V} (hk:1≤v.k∧v.k≤4) (h:formV v=true):v.l=[]:=by
 rcases (Qqx h).2 with h1 | h1 | h1 | h1 | h1 | h1
 ·exact h1.2.2.2
 ·exact h1.2.2
 ·exact h1.2.2.2
 ·exact h1.2.2
 ·exfalso; have:=h1.1; omega
 ·exfalso; have:=h1.1; omega
theorem dCheckV {v:V} {x:TV} {H:Heap} {K:Int→Heap→Prop} (hv:VIs H v x) (hB:VB v) (hk:1≤v.k∧v.k≤4) (k:∀ r,(r=0↔mayV v=true)→K r H):Qbx C x K H:=by
 by_cases hl:v.l=[]
 ·have hz : vsize v = 1 := by
   obtain ⟨k,n,s,l⟩:=v
   have hl:l=[]:=hl
   subst hl; rfl
  exact QpH hv hB (by omega) (k _ (by unfold mayV; rw [decide_eq_true_eq]))
 ·have hf : formV v = false := by
   cases hh:formV v with
   | false=>rfl
   | true=>exact absurd (litL hk hh) hl
  have hm:¬ mayV v=true:=fun h=>by rw [((Qqw v).1 h).2.1] at hf; cases hf
  apply Qbx.gh
  apply QkR
  unfold QhS
  refine box1 fun b1 H2 hle h1=>bxT h1 (dDepthAny v (hv.le hle) hB fun r=>?_)
  refine ift.of (fun h=>⟨H,Gh.le hle,k _ ⟨fun e=>by simp at e,fun e=>absurd e hm⟩⟩) (fun h=>?_)
  refine bxT h1 (Qmv (hv.le hle) hB ?_)
  rw [hf]
  exact Qcc rfl ⟨H,Gh.le hle,k _ ⟨fun e=>by simp at e,fun e=>absurd e hm⟩⟩
theorem Qum:∀ (v:TyV) {x:Qe} {H:Heap} {K:Bool→Heap→Prop},TyIs A v x→A.le H→K (tyOk v) H→QcX C x K H:=by
 refine TyV.rec_ fun v ih x H K hx hA k=>?_
 obtain ⟨en,hs⟩:=Qc2.1 hx
 have hlen:=hs.len
 apply QcX.gh
 apply Qqe
 unfold QmI
 rw [Qr1] at k
 refine box1 fun b1 H2 hle h1=>?_
 have hA2:=hA.trans hle
 refine jv (tyN v.n v.a.length) H2 (fS h1 rfl ?_) ?_
 ·rw [en.1]
  refine jo' (v.n == intS) H2 (fun _=>fS h1 rfl ⟨rfl,by rw [en.1]; rfl⟩) ?_
  refine jo' (v.n == bigS) H2 (fun _=>fS h1 rfl ⟨rfl,by rw [en.1]; rfl⟩) ?_
  refine jo' (v.n == textS) H2 (fun _=>fS h1 rfl ⟨rfl,by rw [en.1]; rfl⟩) ?_
  refine jo' (parS v.n) H2 (fun _=>fS h1 rfl (Qq5 en ⟨rfl,rfl⟩)) ?_
  have hP:(((((v.n == ([98,111,111,108]:Str)) || (v.n == intS)) || (v.n == bigS)) || (v.n == textS))=true)↔(v.n=boolS∨v.n=intS∨v.n=bigS∨v.n=textS):=by
   simp only [Bool.or_eq_true,beq_iff_eq,or_assoc]; exact Iff.rfl
  refine ift.of (fun h=>fL h1 rfl ⟨rfl,?_⟩) (fun h=>fS h1 rfl ?_)
  ·rw [hlen,show (((v.a.length:Nat):Int) == 0)=decide (v.a.length=0) from lenI (m:=0)]
   rw [Bool.or_eq_true,hP] at h
   unfold tyN
   by_cases hb:v.n=boolS∨v.n=intS∨v.n=bigS∨v.n=textS
   ·rw [if_pos hb]
   ·rw [if_neg hb]
    have hp:=h.resolve_left hb
    have ht:v.n≠tupS:=fun e=>by rw [e] at hp; exact absurd hp (by decide)
    rw [if_neg ht,hp,QuF hp]; simp
  ·have hb : ¬ (v.n = boolS ∨ v.n = intS ∨ v.n = bigS ∨ v.n = textS) := fun e => by
    rw [hP.2 e] at h; cases h
   have hp:parS v.n=false:=by rw [Bool.or_eq_false_iff] at h; exact h.2
   unfold tyN
   rw [if_neg hb,en.1]
   refine ift.of (fun h=>?_) (fun h=>?_)
   ·rw [if_pos (show v.n=tupS from beq_iff_eq.1 h)]
    refine fL h1 rfl ?_
    rw [hlen,show (((v.a.length:Nat):Int) != 1)=decide (v.a.length≠1) from lenN (m:=1)]
    exact ja (decide (v.a.length≤16)) H2 (fun _=>fL h1 rfl ⟨rfl,by rw [hlen]; exact lenL (m:=16)⟩) ⟨rfl,rfl⟩
   ·rw [if_neg (fun e : v.n = tupS => by rw [e] at h; exact absurd h (by decide)), hp]
    refine fS h1 rfl (QnW en ?_)
    exact ja (decide (v.a.length≤8)) H2 (fun _=>fL h1 rfl ⟨rfl,by rw [hlen]; exact lenL (m:=8)⟩) ⟨rfl,by simp⟩
 refine lpA (f:=tyOk) (l:=v.a) hs.bd fun ok i D J hD hi hend hstep=>fL (hD _ _ h1) rfl ?_
 rw [hlen]
 refine ift.of (fun h=>fL (hD _ _ h1) rfl ?_) (fun h=>?_)
 ·obtain ⟨hlt,hJ⟩:=hstep h
  refine SlIs.ld hs (hA2.trans hD) QgB (by omega) rfl hlt fun y hy=>?_
  exact ih _ (List.getElem_mem hlt) hy (hA2.trans hD) (hJ _ hD)
 ·dsimp only
  rw [hend h]; exact ⟨H,Gh.le (hle.trans hD),k⟩
theorem Qqq:∀ (v:ExV) {p:Bool} {x:Qa} {H:Heap} {K:Bool→Heap→Prop},ExIs A v x→A.le H→K (exOk p v) H→QbZ C x p K H:=by
 refine ExV.rec_ fun v ih p x H K hx hA k=>?_
 obtain ⟨ek,en,hv,hB,hs⟩:=Qay.1 hx
 have hlen:=hs.len
 apply QbZ.gh
 apply Qqb
 unfold QmF
 rw [Qm7] at k
 refine box1 fun b1 H2 hle h1=>fL h1 rfl ?_
 have hA2:=hA.trans hle
 rw [hlen]
 have l0:(((v.a.length:Nat):Int) == 0)=decide (v.a.length=0):=lenI (m:=0)
 rw [l0]
 refine jw (if v.k=1 then litV v.v && decide (v.a.length=0) && v.n.isEmpty else exN p v.k v.n v.a.length) H2 (fI h1 rfl ?_) fun E hE=>?_
 ·rw [ek]
  have r0:=Heap.le.refl H2
  refine ift.of (fun h=>?_) fun n1=>?_
  ·have hk : v.k = 1 := by simpa using h
   rw [if_pos hk]
   refine fT h1 QsN ?_
   intro b14 n14
   refine nwT rfl ?_
   have l14:=Heap.le_put n14 (g:=.row (Qb.c x.Value_)) (m:=true)
   have c14:(H2.put b14 (.row (Qb.c x.Value_))) b14=some (true,.row (Qb.c x.Value_)):=Heap.put_same ..
   generalize H2.put b14 (.row (Qb.c x.Value_))=H3 at *
   refine fI c14 rfl ?_
   rw [(Qew.1 hv).1]
   refine ja (decide (v.v.k≤4)) H3 (fun _=>fI c14 rfl ⟨rfl,by rw [(Qew.1 hv).1]⟩) ?_
   refine ja (mayV v.v) H3 (fun h=>bxT c14 (dCheckV (hv.le (hA2.trans l14)) hB ?_ fun r hr=>⟨rfl,?_⟩)) ?_
   ·rw [Bool.and_eq_true] at h; exact ⟨of_decide_eq_true h.1,of_decide_eq_true h.2⟩
   ·rw [Bool.eq_iff_iff,beq_iff_eq]; exact hr
   refine ja v.n.isEmpty H3 (fun _=>fS (l14 _ _ h1) rfl ⟨rfl,by rw [en.1,QgN]⟩) ?_
   exact ⟨l14,rfl⟩
  have n1:v.k≠1:=by simpa using n1
  rw [if_neg n1]
  refine ift.of (fun h=>?_) fun n2=>?_
  ·rw [show v.k = 2 by simpa using h, exN2]
   exact fS h1 rfl (Qnj en ⟨r0,rfl⟩)
  refine ift.of (fun h=>?_) fun n3=>?_
  ·rw [show v.k = 3 by simpa using h, exN3]
   exact ja v.n.isEmpty H2 (fun h=>fS h1 rfl ⟨rfl,by rw [en.1,QgN]⟩) ⟨r0,rfl⟩
  refine ift.of (fun h=>?_) fun n4=>?_
  ·rw [show v.k = 4 by simpa using h, exN4]
   refine fS h1 rfl ⟨r0,?_⟩
   rw [en.1,QgN,show (((v.a.length:Nat):Int) != 1)=decide (v.a.length≠1) from lenN (m:=1),show decide (((v.a.length:Nat):Int)≤16)=decide (v.a.length≤16) from lenL (m:=16)]
  refine ift.of (fun h=>?_) fun n5=>?_
  ·rw [show v.k = 5 by simpa using h, exN5]
   refine fS h1 rfl (QnW en ⟨r0,?_⟩)
   rw [show decide (((v.a.length:Nat):Int)≤8)=decide (v.a.length≤8) from lenL (m:=8)]
  refine ift.of (fun h=>?_) fun n6=>?_
  ·rw [show v.k = 6 by simpa using h, exN6]
   refine ja (decide (0 < arS v.n)) H2 (fun _=>fS h1 rfl ?_) ?_
   ·rw [en.1]; exact Qq1 ⟨rfl,by rw [decide_eq_decide]; omega⟩
   refine ja (decide (v.a.length=arS v.n)) H2 (fun _=>fS h1 rfl ?_) ⟨r0,rfl⟩
   rw [en.1]; exact Qq1 ⟨rfl,lenI⟩
  refine ift.of (fun h=>?_) fun n7=>?_
  ·rw [show v.k = 7 by simpa using h, exN7]
   refine ja (namS v.n) H2 (fun h=>fS h1 rfl (QeV en ⟨rfl,rfl⟩)) ⟨r0,?_⟩
   rw [show (((v.a.length:Nat):Int) == 1)=decide (v.a.length=1) from lenI (m:=1)]
  refine ift.of (fun h=>?_) fun n8=>?_
  ·rw [show v.k = 8 by simpa using h, exN8]
   refine ja v.n.isEmpty H2 (fun h=>fS h1 rfl ⟨rfl,by rw [en.1,QgN]⟩) ⟨r0,?_⟩
   rw [show (((v.a.length:Nat):Int) == 3)=decide (v.a.length=3) from lenI (m:=3)]
  refine ⟨r0,?_⟩
  unfold exN
  rw [if_neg (by simpa using n2),if_neg (by simpa using n3),if_neg (by simpa using n4),if_neg (by simpa using n5),if_neg (by simpa using n6),if_neg (by simpa using n7),if_neg (by simpa using n8)]
 have g1:=hE _ _ h1
 have hAE:=hA2.trans hE
 refine fI g1 rfl ?_
 rw [ek]
 refine ja (!noV v.v) E (fun _=>fT g1 QsN (Quk (hv.le hAE) hB ⟨rfl,rfl⟩)) ?_
 refine ift.of (fun h=>?_) (fun h=>?_)
 ·rw [Bool.and_eq_true] at h
  have hk:¬ v.k=1:=by simpa using h.1
  have hn:noV v.v=false:=by simpa using h.2
  rw [if_neg hk,hn] at k
  simp only [Bool.and_false,Bool.false_and] at k
  exact ⟨H,Gh.le (hle.trans hE),k⟩
 refine lpA (f:=exOk p) (l:=v.a) hs.bd fun ok i D J hD hi hend hstep=>?_
 refine ift.of (fun h=>fL (hD _ _ g1) rfl ?_) (fun h'=>?_)
 ·obtain ⟨hlt,hJ⟩:=hstep h
  refine SlIs.ld hs (hAE.trans hD) QN (by omega) rfl hlt fun y hy=>?_
  exact ih _ (List.getElem_mem hlt) hy (hAE.trans hD) (hJ _ hD)
 ·dsimp only
  rw [hend h']
  refine ⟨H,Gh.le ((hle.trans hE).trans hD),?_⟩
  by_cases hk:v.k=1
  ·rw [if_pos hk] at k ⊢
   cases hh:(litV v.v && decide (v.a.length=0) && v.n.isEmpty) with
   | false=>rw [hh] at k; exact k
   | true=>
    rw [hh] at k
    have h0:v.a=[]:=by
     simp only [Bool.and_eq_true,decide_eq_true_eq] at hh
     exact List.length_eq_zero_iff.1 hh.1.2
    rw [h0]; exact k
  ·rw [if_neg hk] at k ⊢
   have hn:noV v.v=true:=by
    rw [show (v.k != 1)=true from by simpa using hk,Bool.true_and] at h
    simpa using h
   rw [hn,Bool.and_true] at k; exact k
end
end
section
open Go Go.Proofs
section
variable {C:Ctx} {H A:Heap}
theorem nb {b c:Bool} (h:(!b || !c)=(!(b && c))):True:=trivial
theorem orN (b c:Bool):(!b || !c)=!(b && c):=by cases b <;> cases c <;> rfl
theorem Qsc {l:List LiV} {s:Sl} {K:Bool→Heap→Prop} (hs:LiL A s l) (hA:A.le H) (k:K (l.all liOk) H):QcW C s K H:=by
 apply QcW.gh
 apply Qp9
 unfold QmD
 refine lpF (f:=liOk) (l:=l) hs.bd fun i D J hD hi hend hstep=>?_
 rw [hs.len]
 refine ift.of (fun h=>?_) (fun h=>?_)
 ·have hlt : i < l.length := by have := of_decide_eq_true h; omega
  obtain ⟨hbad,hJ⟩:=hstep hlt
  refine SlIs.ld hs (hA.trans hD) Qcx (by omega) rfl hlt fun x hx=>?_
  obtain ⟨ek,en,hargs⟩:=hx
  intro b12 n12
  refine nwT rfl ?_
  have l12:=Heap.le_put n12 (g:=.row (Qc.c x)) (m:=true)
  have c12:(D.put b12 (.row (Qc.c x))) b12=some (true,.row (Qc.c x)):=Heap.put_same ..
  generalize D.put b12 (.row (Qc.c x))=D2 at *
  have hA2:=(hA.trans hD).trans l12
  have hla:=hargs.len
  generalize hv:l[i]=v at *
  have b0:Bool:=if v.k=1∨v.k=2 then longS v.r && decide (v.a.length≤8) else if v.k=3 then v.r.isEmpty && decide (v.a.length=1) else if v.k=4 then varS v.r && decide (v.a.length=1) else false
  refine jv (if v.k=1∨v.k=2 then longS v.r && decide (v.a.length≤8) else if v.k=3 then v.r.isEmpty && decide (v.a.length=1) else if v.k=4 then varS v.r && decide (v.a.length=1) else false) D2 (fI c12 rfl ?_) ?_
  ·rw [ek]
   refine jp (P:=v.k=1∨v.k=2) D2 (ift.of (fun h=>⟨rfl,fun _=>.inl (by simpa using h),fun _=>h⟩) (fun h=>⟨rfl,fun h=>.inr (by simpa using h),fun h'=>?_⟩)) fun b hb=>?_
   ·rcases h' with h' | h'
    ·rw [h'] at h; cases h
    ·rw [h']; rfl
   refine ift.of (fun h=>?_) (fun h=>?_)
   ·rw [if_pos (hb.1 h)]
    exact fS c12 rfl (QnW en (ja (decide (v.a.length≤8)) D2 (fun _=>fL c12 rfl ⟨rfl,by rw [hla]; exact lenL (m:=8)⟩) ⟨rfl,rfl⟩))
   rw [if_neg (fun p=>by rw [hb.2 p] at h; cases h)]
   refine ift.of (fun h=>?_) (fun h=>?_)
   ·rw [if_pos (by simpa using h)]
    refine fS c12 rfl (ja (decide (v.a.length=1)) D2 (fun _=>fL c12 rfl ⟨rfl,by rw [hla]; exact lenI (m:=1)⟩) ⟨rfl,?_⟩)
    rw [en.1,QgN]
   rw [if_neg (by simpa using h)]
   refine ift.of (fun h=>?_) (fun h=>?_)
   ·rw [if_pos (by simpa using h)]
    exact fS c12 rfl (Qnj en (ja (decide (v.a.length=1)) D2 (fun _=>fL c12 rfl ⟨rfl,by rw [hla]; exact lenI (m:=1)⟩) ⟨rfl,rfl⟩))
   rw [if_neg (by simpa using h)]
   exact ⟨rfl,rfl⟩
  refine lpA (f:=exOk (decide (v.k=1∨v.k=2))) (l:=v.a) hargs.bd fun ok i2 E J2 hE hi2 hend2 hstep2=>fL (hE _ _ c12) rfl ?_
  have hAE:=hA2.trans hE
  rw [hla]
  refine ift.of (fun h=>?_) (fun h=>?_)
  ·obtain ⟨hlt2,hJ2⟩:=hstep2 h
   refine jv (exOk (decide (v.k=1∨v.k=2)) v.a[i2]) E ⟨E,Heap.le.refl _,fL (hE _ _ c12) rfl (SlIs.ld hargs hAE QN (by omega) rfl hlt2 fun y hy=>fI (hE _ _ c12) rfl ?_)⟩ (hJ2 _ hE)
   rw [ek]
   refine ift.of (fun h=>?_) (fun h=>fI (hE _ _ c12) rfl ?_)
   ·have hk : v.k = 1 := by simpa using h
    rw [show decide (v.k=1∨v.k=2)=true from decide_eq_true (.inl hk)]
    exact Qqq _ hy hAE ⟨Heap.le.refl _,rfl,rfl⟩
   ·have hk : ¬ v.k = 1 := by simpa using h
    rw [ek]
    have e:(v.k == 2)=decide (v.k=1∨v.k=2):=by
     rw [Bool.eq_iff_iff,beq_iff_eq,decide_eq_true_eq]; exact ⟨.inr,fun h=>h.resolve_left hk⟩
    rw [e]
    exact Qqq _ hy hAE ⟨Heap.le.refl _,rfl,rfl⟩
  ·have hok : ok = liOk v := by
    rw [hend2 h]
    unfold liOk
    by_cases h12:v.k=1∨v.k=2
    ·rw [if_pos h12,if_pos h12,Qdl,show decide (v.k=1∨v.k=2)=true from decide_eq_true h12]
    ·rw [if_neg h12,if_neg h12,show decide (v.k=1∨v.k=2)=false from decide_eq_false h12]
     by_cases h3:v.k=3
     ·rw [if_pos h3,if_pos h3,Qdl]
     ·rw [if_neg h3,if_neg h3]
      by_cases h4:v.k=4
      ·rw [if_pos h4,if_pos h4,Qdl]
      ·rw [if_neg h4,if_neg h4]; rfl
   dsimp only
   rw [hok]
   refine ift.of (fun h=>?_) (fun h=>?_)
   ·rw [hbad (by simpa using h)] at k
    exact ⟨H,Gh.le ((hD.trans l12).trans hE),k⟩
   ·exact hJ (by simpa using h) _ ((hD.trans l12).trans hE)
 ·have hie : i = l.length := by have := of_decide_eq_false h; omega
  rw [hend hie] at k
  exact ⟨H,Gh.le hD,k⟩
theorem QpO {l:List FdV} {s:Sl} {nm:Bool} {K:Bool→Heap→Prop} (hs:FdL A s l) (hA:A.le H) (k:K (fdsOk nm l) H):Qb0 C s nm K H:=by
 apply Qb0.gh
 apply Qn4
 unfold Qkl
 unfold fdsOk at k
 refine lpF (f:=fdOk nm) (l:=l) hs.bd fun i D J hD hi hend hstep=>?_
 rw [hs.len]
 refine ift.of (fun h=>?_) (fun h=>?_)
 ·have hlt : i < l.length := by have := of_decide_eq_true h; omega
  obtain ⟨hbad,hJ⟩:=hstep hlt
  have hAD:=hA.trans hD
  refine SlIs.fS hs hAD Qav (by omega) rfl hlt (f:=fun y=>y.Name) (fun _=>rfl) fun y1 hy1=>QeV hy1.1 ?_
  refine ja (nm || !l[i].n.isEmpty) D (fun _=>jo' (!l[i].n.isEmpty) D (fun _=>?_) ⟨rfl,rfl⟩) ?_
  ·exact SlIs.fS hs hAD Qav (by omega) rfl hlt (f:=fun y=>y.Name) (fun _=>rfl) fun y2 hy2=>⟨rfl,by rw [hy2.1.1,QgN]⟩
  refine jo' (!tyOk l[i].t) D (fun _=>?_) ?_
  ·exact SlIs.fT hs hAD Qav (by omega) rfl hlt (f:=fun y=>y.Type_) (fun y n v hn=>Qrx n v hn) fun y2 hy2=>Qum _ hy2.2 hAD ⟨rfl,rfl⟩
  have e:((!namS l[i].n && (nm || !l[i].n.isEmpty)) || !tyOk l[i].t)=!fdOk nm l[i]:=by
   unfold fdOk
   cases namS l[i].n <;> cases nm <;> cases l[i].n.isEmpty <;> cases tyOk l[i].t <;> rfl
  rw [e]
  refine ift.of (fun h=>?_) (fun h=>hJ (by simpa using h) _ hD)
  rw [hbad (by simpa using h),Bool.and_false] at k
  exact ⟨H,Gh.le hD,k⟩
 ·have hie : i = l.length := by have := of_decide_eq_false h; omega
  rw [hend hie,Bool.and_true] at k
  rw [show decide (((l.length:Nat):Int)≤8)=decide (l.length≤8) from lenL (m:=8)]
  exact ⟨H,Gh.le hD,k⟩
theorem ltI {n m:Nat}:decide (((n:Nat):Int) < (m:Int))=decide (n < m):=by rw [decide_eq_decide]; omega
theorem ndec (a b:Nat):decide (a < b)=!decide (b≤a):=by rw [Bool.eq_iff_iff]; simp
theorem Qti {l:List TdV} {s:Sl} {K:Bool→Heap→Prop} (hs:TdL A s l) (hA:A.le H) (k:K (l.all tdOk) H):Qda C s K H:=by
 apply Qda.gh
 apply Qo7
 unfold Qln
 refine lpF (f:=tdOk) (l:=l) hs.bd fun i D J hD hi hend hstep=>?_
 rw [hs.len]
 refine ift.of (fun h=>?_) (fun h=>?_)
 ·have hlt : i < l.length := by have := of_decide_eq_true h; omega
  obtain ⟨hbad,hJ⟩:=hstep hlt
  refine SlIs.ld hs (hA.trans hD) Qca (by omega) rfl hlt fun x hx=>?_
  obtain ⟨_,en,hps,hcs⟩:=hx
  intro b12 n12
  refine nwT rfl ?_
  have l12:=Heap.le_put n12 (g:=.row (Qf.c x)) (m:=true)
  have c12:(D.put b12 (.row (Qf.c x))) b12=some (true,.row (Qf.c x)):=Heap.put_same ..
  generalize D.put b12 (.row (Qf.c x))=D2 at *
  have hA2:=(hA.trans hD).trans l12
  have hD2:=hD.trans l12
  generalize hv:l[i]=v at *
  have hlp:=SlIs.len hps
  have hlc:=hcs.len
  have bad:tdOk v=false→∀ E,D2.le E→∃ H0,Gh C E H0∧K false H0:=fun h E hE=>by
   rw [hbad h] at k; exact ⟨H,Gh.le (hD2.trans hE),k⟩
  unfold tdOk at bad hJ
  refine fS c12 rfl (QeV en ?_)
  refine jo' (!decide (v.ps.length≤8)) D2 (fun _=>fL c12 rfl ⟨rfl,by rw [hlp,← ndec]; exact gtI (m:=8)⟩) ?_
  refine jo' (!decide (1≤v.cs.length)) D2 (fun _=>fL c12 rfl ⟨rfl,by rw [hlc,← ndec]; exact ltI (m:=1)⟩) ?_
  refine jo' (!decide (v.cs.length≤16)) D2 (fun _=>fL c12 rfl ⟨rfl,by rw [hlc,← ndec]; exact gtI (m:=16)⟩) ?_
  refine ift.of (fun h=>bad ?_ _ (Heap.le.refl _)) (fun h=>?_)
  ·cases h1:namS v.n <;> cases h2:decide (v.ps.length≤8) <;> cases h3:decide (1≤v.cs.length) <;> cases h4:decide (v.cs.length≤16) <;> simp [h1,h2,h3,h4] at h ⊢
  have hpre:namS v.n=true∧decide (v.ps.length≤8)=true∧decide (1≤v.cs.length)=true∧decide (v.cs.length≤16)=true:=by
   simp only [Bool.or_eq_false_iff,Bool.not_eq_false'] at h
   exact ⟨h.1.1.1,h.1.1.2,h.1.2,h.2⟩
  obtain ⟨p1,p2,p3,p4⟩:=hpre
  rw [p1,p2,p3,p4] at bad hJ
  simp only [Bool.true_and,Bool.and_true] at bad hJ
  refine lpF (f:=parS) (l:=v.ps) (SlIs.bd hps) fun i2 E J2 hE hi2 hend2 hstep2=>fL (hE _ _ c12) rfl ?_
  rw [hlp]
  refine ift.of (fun h=>?_) (fun h=>?_)
  ·have hlt2 : i2 < v.ps.length := by have := of_decide_eq_true h; omega
   obtain ⟨hbad2,hJ2⟩:=hstep2 hlt2
   refine fL (hE _ _ c12) rfl (SlIs.at_ hps (hA2.trans hE) (z:=1) (fun _=>rfl) (by omega) rfl hlt2 fun p y hy hr=>⟨y,hr 0 _ rfl,Qq5 hy ?_⟩)
   refine ift.of (fun h=>bad (by rw [hbad2 (by simpa using h)]; rfl) _ hE) (fun h=>hJ2 (by simpa using h) _ hE)
  have hie2:i2=v.ps.length:=by have:=of_decide_eq_false h; omega
  rw [hend2 hie2] at bad hJ
  simp only [Bool.true_and] at bad hJ
  refine lpF (f:=cnOk) (l:=v.cs) hcs.bd fun i3 E3 J3 hE3 hi3 hend3 hstep3=>fL ((hE.trans hE3) _ _ c12) rfl ?_
  have hE':=hE.trans hE3
  have hAE:=hA2.trans hE'
  rw [hlc]
  refine ift.of (fun h=>?_) (fun h=>?_)
  ·have hlt3 : i3 < v.cs.length := by have := of_decide_eq_true h; omega
   obtain ⟨hbad3,hJ3⟩:=hstep3 hlt3
   refine fL (hE' _ _ c12) rfl (SlIs.fS hcs hAE Qb9 (by omega) rfl hlt3 (f:=fun y=>y.Name) (fun _=>rfl) fun y1 hy1=>QeV hy1.1 ?_)
   refine jo' (!fdsOk false v.cs[i3].f) E3 (fun _=>fL (hE' _ _ c12) rfl (SlIs.fL hcs hAE Qb9 (by omega) rfl hlt3 (f:=fun y=>y.Fields) (fun _=>rfl) fun y2 hy2=>QpO hy2.2 hAE ⟨rfl,rfl⟩)) ?_
   rw [orN]
   exact ift.of (fun h=>bad (hbad3 (by rw [Bool.not_eq_true'] at h; exact h)) _ hE') (fun h=>hJ3 (by rw [Bool.not_eq_false'] at h; exact h) _ hE3)
  have hie3:i3=v.cs.length:=by have:=of_decide_eq_false h; omega
  exact hJ (hend3 hie3) _ (hD2.trans hE')
 ·have hie : i = l.length := by have := of_decide_eq_false h; omega
  rw [hend hie] at k
  exact ⟨H,Gh.le hD,k⟩
theorem Qth {l:List RuV} {s:Sl} {K:Bool→Heap→Prop} (hs:RuL A s l) (hA:A.le H) (k:K (l.all ruOk) H):Qc9 C s K H:=by
 apply Qc9.gh
 apply Qo6
 unfold Qlm
 refine lpF (f:=ruOk) (l:=l) hs.bd fun i D J hD hi hend hstep=>?_
 rw [hs.len]
 refine ift.of (fun h=>?_) (fun h=>?_)
 ·have hlt : i < l.length := by have := of_decide_eq_true h; omega
  obtain ⟨hbad,hJ⟩:=hstep hlt
  refine SlIs.ld hs (hA.trans hD) Qer (by omega) rfl hlt fun x hx=>?_
  obtain ⟨en,ha,hg,hb⟩:=hx
  intro b12 n12
  refine nwT rfl ?_
  have l12:=Heap.le_put n12 (g:=.row (Qk.c x)) (m:=true)
  have c12:(D.put b12 (.row (Qk.c x))) b12=some (true,.row (Qk.c x)):=Heap.put_same ..
  generalize D.put b12 (.row (Qk.c x))=D2 at *
  have hA2:=(hA.trans hD).trans l12
  have hD2:=hD.trans l12
  generalize hv:l[i]=v at *
  have hla:=ha.len
  have hlg:=SlIs.len hg
  have bad:ruOk v=false→∀ E,D2.le E→∃ H0,Gh C E H0∧K false H0:=fun h E hE=>by
   rw [hbad h] at k; exact ⟨H,Gh.le (hD2.trans hE),k⟩
  unfold ruOk at bad hJ
  refine fS c12 rfl (QnW en ?_)
  refine jo' (!decide (v.a.length≤8)) D2 (fun _=>fL c12 rfl ⟨rfl,by rw [hla,← ndec]; exact gtI (m:=8)⟩) ?_
  refine jo' (!decide (v.g.length=v.a.length)) D2 (fun _=>fL c12 rfl (fL c12 rfl ⟨rfl,by rw [hla,hlg,lenN]; simp⟩)) ?_
  refine jo' (!v.b.all liOk) D2 (fun _=>fL c12 rfl (Qsc hb hA2 ⟨rfl,rfl⟩)) ?_
  refine ift.of (fun h=>bad ?_ _ (Heap.le.refl _)) (fun h=>?_)
  ·cases h1:longS v.r <;> cases h2:decide (v.a.length≤8) <;> cases h3:decide (v.g.length=v.a.length) <;> cases h4:v.b.all liOk <;> simp [h1,h2,h3,h4] at h ⊢
  have hpre:longS v.r=true∧decide (v.a.length≤8)=true∧decide (v.g.length=v.a.length)=true∧v.b.all liOk=true:=by
   simp only [Bool.or_eq_false_iff,Bool.not_eq_false'] at h
   exact ⟨h.1.1.1,h.1.1.2,h.1.2,h.2⟩
  obtain ⟨p1,p2,p3,p4⟩:=hpre
  rw [p1,p2,p3,p4,Qdl] at bad hJ
  simp only [Bool.true_and,Bool.and_true] at bad hJ
  have hgl:v.g.length=v.a.length:=of_decide_eq_true p3
  -- both lists at once
  refine ⟨fun y E=>D2.le E∧∃ i2:Nat,y=(i2:Int)∧i2≤v.a.length∧(v.a.take i2).all (exOk false)=true∧(v.g.take i2).all agOk=true,fun y _=>v.a.length - y.toNat,⟨Heap.le.refl _,0,rfl,Nat.zero_le _,rfl,rfl⟩,?_⟩
  rintro _ E ⟨hE,i2,rfl,hi2,q1,q2⟩
  have hbd:=ha.bd
  have hAE:=hA2.trans hE
  refine fL (hE _ _ c12) rfl ?_
  rw [hla]
  refine ift.of (fun h=>fL (hE _ _ c12) rfl ?_) (fun h=>?_)
  ·have hlt2 : i2 < v.a.length := by have := of_decide_eq_true h; omega
   have hlt3:i2 < v.g.length:=by omega
   refine SlIs.at_ hg hAE (z:=1) (fun _=>rfl) (by omega) rfl hlt3 fun p y hy hr=>⟨y,hr 0 _ rfl,fL (hE _ _ c12) rfl ?_⟩
   refine SlIs.ld ha hAE QN (by omega) rfl hlt2 fun z hz=>Qqq _ hz hAE ?_
   rw [hy.1]
   have e:(((((!(v.g[i2] == ([]:Str))) && (!(v.g[i2] == ([99,111,117,110,116]:Str)))) && (!(v.g[i2] == ([115,117,109]:Str)))) && (!(v.g[i2] == ([109,105,110]:Str)))) && (!(v.g[i2] == ([109,97,120]:Str))))=!agOk v.g[i2]:=by
    unfold agOk countS sumS minS maxS
    generalize v.g[i2]=w
    rw [Bool.eq_iff_iff]
    simp only [Bool.and_eq_true,Bool.not_eq_true',beq_eq_false_iff_ne,decide_eq_false_iff_not,not_or,and_assoc,ne_eq]
   rw [e,orN]
   refine ift.of (fun h=>bad ?_ _ hE) (fun h=>?_)
   ·rw [Bool.not_eq_true',Bool.and_eq_false_iff] at h
    rcases h with h | h
    ·rw [allNo hlt2 h]; rfl
    ·rw [allNo hlt3 h,Bool.and_false]
   ·rw [Bool.not_eq_false',Bool.and_eq_true] at h
    rw [Q0 (by omega) (by omega)]
    exact ⟨⟨hE,i2+1,by omega,by omega,by rw [allTake hlt2,q1,h.1]; rfl,by rw [allTake hlt3,q2,h.2]; rfl⟩,by first | omega | (dsimp only; omega)⟩
  ·have hie2 : i2 = v.a.length := by have := of_decide_eq_false h; omega
   rw [hie2,List.take_length] at q1
   rw [hie2,← hgl,List.take_length] at q2
   exact hJ (by rw [q1,q2]; rfl) _ (hD2.trans hE)
 ·have hie : i = l.length := by have := of_decide_eq_false h; omega
  rw [hend hie] at k
  exact ⟨H,Gh.le hD,k⟩
end
end
section
open Go Go.Proofs
section
variable {C:Ctx} {H A:Heap}
theorem Qnk {l:List LiV} {s:Sl} {K:Int→Heap→Prop} (hs:LiL A s l) (hA:A.le H) (hb:lisD l≤4611686018427387904) (k:K (lisD l:Nat) H):Qbb C s K H:=by
 apply Qbb.gh
 apply QmZ
 unfold QiA
 unfold lisD at hb k
 refine lpQ (N:=l.length) (Q:=fun n i=>n=((mxL liD (l.take i):Nat):Int)) hs.bd (by simp [mxL]) fun n i D J hD hi hQ hJ=>?_
 subst hQ
 rw [hs.len]
 refine ift.of (fun h=>?_) (fun h=>?_)
 ·have hlt : i < l.length := by have := of_decide_eq_true h; omega
  have hle1:=Qeu (f:=liD) (List.getElem_mem hlt)
  have hAD:=hA.trans hD
  have hla:=(SlIs.mem hs (List.getElem_mem hlt))
  obtain ⟨xx,hxx⟩:=hla
  refine lpQ (N:=l[i].a.length) (Q:=fun n2 i2=>n2=((max (mxL liD (l.take i)) (mxL exD (l[i].a.take i2)):Nat):Int)) hxx.2.2.bd (by simp [mxL]) fun n2 i2 D2 J2 hD2 hi2 hQ2 hJ2=>?_
  subst hQ2
  have hAD2:=hAD.trans hD2
  refine SlIs.fL hs hAD2 Qcx (by omega) rfl hlt (f:=fun y=>y.Args) (fun _=>rfl) fun y1 hy1=>?_
  rw [hy1.2.2.len]
  refine ift.of (fun h=>?_) (fun h=>?_)
  ·have hlt2 : i2 < l[i].a.length := by have := of_decide_eq_true h; omega
   refine SlIs.fL hs hAD2 Qcx (by omega) rfl hlt (f:=fun y=>y.Args) (fun _=>rfl) fun y2 hy2=>?_
   refine SlIs.ld hy2.2.2 hAD2 QN (by omega) rfl hlt2 fun z hz=>?_
   have h3:=Qeu (f:=exD) (List.getElem_mem hlt2)
   have h4:liD l[i]=mxL exD l[i].a:=QlS _
   refine Qq3 _ hz hAD2 (by omega) ?_
   dsimp only
   rw [ifmax]
   refine hJ2 hlt2 _ _ hD2 ?_
   rw [Qes hlt2]; omega
  ·have hie2 : i2 = l[i].a.length := by have := of_decide_eq_false h; dsimp only at this; omega
   subst hie2
   refine hJ hlt _ _ (hD.trans hD2) ?_
   rw [List.take_length,Qes hlt,show liD l[i]=mxL exD l[i].a from QlS _]
 ·have hie : i = l.length := by have := of_decide_eq_false h; dsimp only at this; omega
  subst hie
  rw [List.take_length]
  exact ⟨H,Gh.le hD,k⟩
theorem Quj {v:MoV} {x:Qg} {K:Int→Heap→Prop} (hx:MoIs A v x) (hA:A.le H) (hb:moD v≤4611686018427387904) (k:K (moD v:Nat) H):Qd3 C x K H:=by
 apply Qd3.gh
 apply Qqa
 unfold QmE
 unfold moD at hb k
 obtain ⟨x1,x2,x3,x4,x5,x6⟩:=hx
 refine box1 fun b1 H2 hle h1=>?_
 have hA2:=hA.trans hle
 refine lpQ (N:=v.ty.length) (Q:=fun n i=>n=((mxL tdD (v.ty.take i):Nat):Int)) x3.bd (by simp [mxL]) fun n i D J hD hi hQ hJ=>fL (hD _ _ h1) rfl ?_
 subst hQ
 rw [x3.len]
 refine ift.of (fun h=>?_) (fun h=>?_)
 ·have hlt : i < v.ty.length := by have := of_decide_eq_true h; omega
  obtain ⟨xx,hxx⟩:=SlIs.mem x3 (List.getElem_mem hlt)
  have hle1:=Qeu (f:=tdD) (List.getElem_mem hlt)
  refine lpQ (N:=v.ty[i].cs.length) (Q:=fun n2 i2=>n2=((max (mxL tdD (v.ty.take i)) (mxL (fun c:CnV=>fdsD c.f) (v.ty[i].cs.take i2)):Nat):Int)) hxx.2.2.2.bd (by simp [mxL]) fun n2 i2 D2 J2 hD2 hi2 hQ2 hJ2=>?_
  subst hQ2
  have hDD:=hD.trans hD2
  refine fL (hDD _ _ h1) rfl (SlIs.fL x3 (hA2.trans hDD) Qca (by omega) rfl hlt (f:=fun y=>y.Cons) (fun _=>rfl) fun y1 hy1=>?_)
  rw [hy1.2.2.2.len]
  refine ift.of (fun h=>?_) (fun h=>?_)
  ·have hlt2 : i2 < v.ty[i].cs.length := by have := of_decide_eq_true h; omega
   have hle2:=Qeu (f:=fun c:CnV=>fdsD c.f) (List.getElem_mem hlt2)
   have hdd:tdD v.ty[i]=mxL (fun c:CnV=>fdsD c.f) v.ty[i].cs:=rfl
   refine fL (hDD _ _ h1) rfl (SlIs.fL x3 (hA2.trans hDD) Qca (by omega) rfl hlt (f:=fun y=>y.Cons) (fun _=>rfl) fun y2 hy2=>?_)
   refine SlIs.fL hy2.2.2.2 (hA2.trans hDD) Qb9 (by omega) rfl hlt2 (f:=fun y=>y.Fields) (fun _=>rfl) fun y3 hy3=>?_
   have hF:=hy3.2
   refine lpQ (N:=v.ty[i].cs[i2].f.length) (Q:=fun n3 i3=>n3=((max (max (mxL tdD (v.ty.take i)) (mxL (fun c:CnV=>fdsD c.f) (v.ty[i].cs.take i2))) (mxL (fun f:FdV=>tyD f.t) (v.ty[i].cs[i2].f.take i3)):Nat):Int)) hF.bd (by simp [mxL]) fun n3 i3 D3 J3 hD3 hi3 hQ3 hJ3=>?_
   subst hQ3
   have hD3':=hDD.trans hD3
   rw [hF.len]
   refine ift.of (fun h=>?_) (fun h=>?_)
   ·have hlt3 : i3 < v.ty[i].cs[i2].f.length := by have := of_decide_eq_true h; omega
    have hle3:=Qeu (f:=fun f:FdV=>tyD f.t) (List.getElem_mem hlt3)
    have hdd2:fdsD v.ty[i].cs[i2].f=mxL (fun f:FdV=>tyD f.t) v.ty[i].cs[i2].f:=rfl
    refine SlIs.fT hF (hA2.trans hD3') Qav (by omega) rfl hlt3 (f:=fun y=>y.Type_) (fun y n v hn=>Qrx n v hn) fun z hz=>?_
    refine Qmb _ hz.2 (hA2.trans hD3') (by omega) ?_
    dsimp only
    rw [ifmax]
    refine hJ3 hlt3 _ _ hD3 ?_
    rw [Qes hlt3]; omega
   ·have hie3 : i3 = v.ty[i].cs[i2].f.length := by have := of_decide_eq_false h; dsimp only at this; omega
    subst hie3
    refine hJ2 hlt2 _ _ (hD2.trans hD3) ?_
    rw [List.take_length,Qes hlt2]
    have hdd2:fdsD v.ty[i].cs[i2].f=mxL (fun f:FdV=>tyD f.t) v.ty[i].cs[i2].f:=rfl
    rw [hdd2]; omega
  ·have hie2 : i2 = v.ty[i].cs.length := by have := of_decide_eq_false h; dsimp only at this; omega
   subst hie2
   refine hJ hlt _ _ hDD ?_
   rw [List.take_length,Qes hlt]; rfl
 have hie:i=v.ty.length:=by have:=of_decide_eq_false h; dsimp only at this; omega
 subst hie
 rw [List.take_length]
 clear h hJ hi
 dsimp only
 refine lpQ (N:=v.re.length) (Q:=fun n i=>n=((max (mxL tdD v.ty) (mxL (fun r:RdV=>fdsD r.f) (v.re.take i)):Nat):Int)) x4.bd (by simp [mxL]) fun n i D2 J hD2 hi hQ hJ=>?_
 subst hQ
 have hD:=hD.trans hD2
 refine fL (hD _ _ h1) rfl ?_
 rw [x4.len]
 refine ift.of (fun h=>?_) (fun h=>?_)
 ·have hlt : i < v.re.length := by have := of_decide_eq_true h; omega
  obtain ⟨xx,hxx⟩:=SlIs.mem x4 (List.getElem_mem hlt)
  have hle1:=Qeu (f:=fun r:RdV=>fdsD r.f) (List.getElem_mem hlt)
  refine lpQ (N:=v.re[i].f.length) (Q:=fun n2 i2=>n2=((max (max (mxL tdD v.ty) (mxL (fun r:RdV=>fdsD r.f) (v.re.take i))) (mxL (fun f:FdV=>tyD f.t) (v.re[i].f.take i2)):Nat):Int)) hxx.2.2.2.bd (by simp [mxL]) fun n2 i2 D3 J2 hD3 hi2 hQ2 hJ2=>?_
  subst hQ2
  have hDD:=hD.trans hD3
  refine fL (hDD _ _ h1) rfl (SlIs.fL x4 (hA2.trans hDD) QdC (by omega) rfl hlt (f:=fun y=>y.Fields) (fun _=>rfl) fun y1 hy1=>?_)
  rw [hy1.2.2.2.len]
  have hdd2:fdsD v.re[i].f=mxL (fun f:FdV=>tyD f.t) v.re[i].f:=rfl
  refine ift.of (fun h=>?_) (fun h=>?_)
  ·have hlt2 : i2 < v.re[i].f.length := by have := of_decide_eq_true h; omega
   have hle3:=Qeu (f:=fun f:FdV=>tyD f.t) (List.getElem_mem hlt2)
   refine fL (hDD _ _ h1) rfl (SlIs.fL x4 (hA2.trans hDD) QdC (by omega) rfl hlt (f:=fun y=>y.Fields) (fun _=>rfl) fun y2 hy2=>?_)
   refine SlIs.fT hy2.2.2.2 (hA2.trans hDD) Qav (by omega) rfl hlt2 (f:=fun y=>y.Type_) (fun y n v hn=>Qrx n v hn) fun z hz=>?_
   refine Qmb _ hz.2 (hA2.trans hDD) (by omega) ?_
   dsimp only
   rw [ifmax]
   refine hJ2 hlt2 _ _ hD3 ?_
   rw [Qes hlt2]; omega
  ·have hie2 : i2 = v.re[i].f.length := by have := of_decide_eq_false h; dsimp only at this; omega
   subst hie2
   refine hJ hlt _ _ (hD2.trans hD3) ?_
   rw [List.take_length,Qes hlt,hdd2]; omega
 have hie:i=v.re.length:=by have:=of_decide_eq_false h; dsimp only at this; omega
 subst hie
 rw [List.take_length]
 clear h hJ hi
 dsimp only
 refine lpQ (N:=v.ru.length) (Q:=fun n i=>n=((max (max (mxL tdD v.ty) (mxL (fun r:RdV=>fdsD r.f) v.re)) (mxL ruD (v.ru.take i)):Nat):Int)) x5.bd (by simp [mxL]) fun n i D3 J hD3 hi hQ hJ=>?_
 subst hQ
 have hD:=hD.trans hD3
 refine fL (hD _ _ h1) rfl ?_
 rw [x5.len]
 refine ift.of (fun h=>?_) (fun h=>?_)
 ·have hlt : i < v.ru.length := by have := of_decide_eq_true h; omega
  obtain ⟨xx,hxx⟩:=SlIs.mem x5 (List.getElem_mem hlt)
  have hle1:=Qeu (f:=ruD) (List.getElem_mem hlt)
  have hrd:ruD v.ru[i]=max (mxL exD v.ru[i].a) (lisD v.ru[i].b):=by unfold ruD; rw [QlS]
  refine fL (hD _ _ h1) rfl (SlIs.fL x5 (hA2.trans hD) Qer (by omega) rfl hlt (f:=fun y=>y.Body) (fun _=>rfl) fun y1 hy1=>?_)
  refine Qnk hy1.2.2.2 (hA2.trans hD) (by omega) ?_
  dsimp only
  rw [ifmax]
  refine lpQ (N:=v.ru[i].a.length) (Q:=fun n2 i2=>n2=((max (max (max (max (mxL tdD v.ty) (mxL (fun r:RdV=>fdsD r.f) v.re)) (mxL ruD (v.ru.take i))) (lisD v.ru[i].b)) (mxL exD (v.ru[i].a.take i2)):Nat):Int)) hxx.2.1.bd (by simp [mxL]) fun n2 i2 D4 J2 hD4 hi2 hQ2 hJ2=>?_
  subst hQ2
  have hDD:=hD.trans hD4
  refine fL (hDD _ _ h1) rfl (SlIs.fL x5 (hA2.trans hDD) Qer (by omega) rfl hlt (f:=fun y=>y.Args) (fun _=>rfl) fun y2 hy2=>?_)
  rw [hy2.2.1.len]
  refine ift.of (fun h=>?_) (fun h=>?_)
  ·have hlt2 : i2 < v.ru[i].a.length := by have := of_decide_eq_true h; omega
   have hle3:=Qeu (f:=exD) (List.getElem_mem hlt2)
   refine fL (hDD _ _ h1) rfl (SlIs.fL x5 (hA2.trans hDD) Qer (by omega) rfl hlt (f:=fun y=>y.Args) (fun _=>rfl) fun y3 hy3=>?_)
   refine SlIs.ld hy3.2.1 (hA2.trans hDD) QN (by omega) rfl hlt2 fun z hz=>?_
   refine Qq3 _ hz (hA2.trans hDD) (by omega) ?_
   dsimp only
   rw [ifmax]
   refine hJ2 hlt2 _ _ hD4 ?_
   rw [Qes hlt2]; omega
  ·have hie2 : i2 = v.ru[i].a.length := by have := of_decide_eq_false h; dsimp only at this; omega
   subst hie2
   refine hJ hlt _ _ (hD3.trans hD4) ?_
   rw [List.take_length,Qes hlt,hrd]; omega
 have hie:i=v.ru.length:=by have:=of_decide_eq_false h; dsimp only at this; omega
 subst hie
 rw [List.take_length]
 clear h hJ hi
 dsimp only
 refine lpQ (N:=v.ne.length) (Q:=fun n i=>n=((max (max (max (mxL tdD v.ty) (mxL (fun r:RdV=>fdsD r.f) v.re)) (mxL ruD v.ru)) (mxL (fun n:NeV=>lisD n.b) (v.ne.take i)):Nat):Int)) x6.bd (by simp [mxL]) fun n i D4 J hD4 hi hQ hJ=>?_
 subst hQ
 have hD:=hD.trans hD4
 refine fL (hD _ _ h1) rfl ?_
 rw [x6.len]
 refine ift.of (fun h=>?_) (fun h=>?_)
 ·have hlt : i < v.ne.length := by have := of_decide_eq_true h; omega
  have hle1:=Qeu (f:=fun n:NeV=>lisD n.b) (List.getElem_mem hlt)
  refine fL (hD _ _ h1) rfl (SlIs.fL x6 (hA2.trans hD) Qdm (by omega) rfl hlt (f:=fun y=>y.Body) (fun _=>rfl) fun y1 hy1=>?_)
  refine Qnk hy1.2 (hA2.trans hD) (by omega) ?_
  dsimp only
  rw [ifmax]
  refine hJ hlt _ _ hD4 ?_
  rw [Qes hlt]; omega
 have hie:i=v.ne.length:=by have:=of_decide_eq_false h; dsimp only at this; omega
 subst hie
 rw [List.take_length]
 refine ⟨H,Gh.le (hle.trans hD),?_⟩
 rw [show max (max (max (mxL tdD v.ty) (mxL (fun r:RdV=>fdsD r.f) v.re)) (mxL ruD v.ru)) (mxL (fun n:NeV=>lisD n.b) v.ne)=max (max (mxL tdD v.ty) (mxL (fun r:RdV=>fdsD r.f) v.re)) (max (mxL ruD v.ru) (mxL (fun n:NeV=>lisD n.b) v.ne)) by omega]
 exact k
end
end
section
open Go Go.Proofs
section
variable {C:Ctx} {H A:Heap}
theorem Qq2 {v:MoV} {x:Qg} {K:Int→Heap→Prop} (hx:MoIs A v x) (hA:A.le H) (hb:moD v≤4611686018427387904) (k:K (moC v) H):Qcm C x K H:=by
 apply Qcm.gh
 apply Qo1
 unfold Qlh
 refine box1 fun b1 H2 hle h1=>bxT h1 ?_
 have hA2:=hA.trans hle
 refine Quj hx hA2 hb ?_
 obtain ⟨en,him,hty,hre,hru,hne⟩:=hx
 unfold moC at k
 refine ift.of (fun h=>?_) (fun h=>?_)
 ·rw [if_pos (by have:=of_decide_eq_true h; omega)] at k; exact ⟨H,Gh.le hle,k⟩
 rw [if_neg (by have:=of_decide_eq_false h; omega)] at k
 refine fS h1 rfl (QeV en ?_)
 refine ja (v.ty.all tdOk) H2 (fun _=>fL h1 rfl (Qti hty hA2 ⟨rfl,rfl⟩)) ?_
 refine ja (v.ru.all ruOk) H2 (fun _=>fL h1 rfl (Qth hru hA2 ⟨rfl,rfl⟩)) ?_
 refine lpA (f:=namS) (l:=v.im) him.bd fun ok1 i1 D1 J1 hD1 hi1 hend1 hstep1=>fL (hD1 _ _ h1) rfl ?_
 rw [him.len]
 refine ift.of (fun h=>?_) (fun h=>?_)
 ·obtain ⟨hlt,hJ⟩:=hstep1 h
  refine fL (hD1 _ _ h1) rfl (SlIs.fS him (hA2.trans hD1) Qic (by omega) rfl hlt (f:=fun y=>y.Name) (fun _=>rfl) fun y1 hy1=>QeV hy1 (hJ _ hD1))
 have o1:=hend1 h
 clear h hend1 hstep1
 dsimp only
 refine lpA (f:=rdOk) (l:=v.re) hre.bd fun ok2 i2 D2 J2 hD2 hi2 hend2 hstep2=>fL ((hD1.trans hD2) _ _ h1) rfl ?_
 have hD:=hD1.trans hD2
 have hAD:=hA2.trans hD
 rw [hre.len]
 refine ift.of (fun h=>?_) (fun h=>?_)
 ·obtain ⟨hlt,hJ⟩:=hstep2 h
  refine fL (hD _ _ h1) rfl (SlIs.fS hre hAD QdC (by omega) rfl hlt (f:=fun y=>y.Name) (fun _=>rfl) fun y1 hy1=>QeV hy1.2.2.1 ?_)
  exact ja (fdsOk true v.re[i2].f) D2 (fun _=>fL (hD _ _ h1) rfl (SlIs.fL hre hAD QdC (by omega) rfl hlt (f:=fun y=>y.Fields) (fun _=>rfl) fun y2 hy2=>QpO hy2.2.2.2 hAD ⟨rfl,rfl⟩)) (hJ _ hD2)
 have o2:=hend2 h
 clear h hend2 hstep2
 dsimp only
 refine fL (hD _ _ h1) rfl ?_
 rw [him.len,show decide (((v.im.length:Nat):Int) > 8)=decide (8 < v.im.length) from gtI (m:=8)]
 refine jo' (decide (64 < v.ty.length)) D2 (fun _=>fL (hD _ _ h1) rfl ⟨rfl,by rw [hty.len]; exact gtI (m:=64)⟩) ?_
 refine jo' (decide (64 < v.re.length)) D2 (fun _=>fL (hD _ _ h1) rfl ⟨rfl,by rw [hre.len]; exact gtI (m:=64)⟩) ?_
 refine jo' (decide (256 < v.ru.length)) D2 (fun _=>fL (hD _ _ h1) rfl ⟨rfl,by rw [hru.len]; exact gtI (m:=256)⟩) ?_
 refine jo' (decide (256 < v.ne.length)) D2 (fun _=>fL (hD _ _ h1) rfl ⟨rfl,by rw [hne.len]; exact gtI (m:=256)⟩) ?_
 generalize hf0:(((((decide (8 < v.im.length)) || decide (64 < v.ty.length)) || decide (64 < v.re.length)) || decide (256 < v.ru.length)) || decide (256 < v.ne.length))=f0
 refine ⟨fun y E=>D2.le E∧∃ i:Nat,y.2.2=(i:Int)∧i≤v.ne.length∧y.1=(ok2 && (v.ne.take i).all neOk)∧y.2.1=(f0 || !(v.ne.take i).all (fun n=>decide (n.b.length≤12))),fun y _=>v.ne.length - y.2.2.toNat,⟨Heap.le.refl _,0,rfl,Nat.zero_le _,by simp,by simp⟩,?_⟩
 rintro ⟨ok3,fu,_⟩ D3 ⟨hD3,i3,rfl,hi3,hok3,hfu⟩
 dsimp only at hok3 hfu ⊢
 have hD':=hD.trans hD3
 have hAD':=hA2.trans hD'
 have hbd:=hne.bd
 refine fL (hD' _ _ h1) rfl ?_
 rw [hne.len]
 refine ift.of (fun h=>?_) (fun h=>?_)
 ·rw [Bool.and_eq_true] at h
  have hlt:i3 < v.ne.length:=by have:=of_decide_eq_true h.1; omega
  refine fL (hD' _ _ h1) rfl (SlIs.fS hne hAD' Qdm (by omega) rfl hlt (f:=fun y=>y.Name) (fun _=>rfl) fun y1 hy1=>QeV hy1.1 ?_)
  refine ja (decide (0 < v.ne[i3].b.length)) D3 (fun _=>fL (hD' _ _ h1) rfl (SlIs.fL hne hAD' Qdm (by omega) rfl hlt (f:=fun y=>y.Body) (fun _=>rfl) fun y2 hy2=>⟨rfl,by rw [hy2.2.len]; exact gtI (m:=0)⟩)) ?_
  refine ja (v.ne[i3].b.all liOk) D3 (fun _=>fL (hD' _ _ h1) rfl (SlIs.fL hne hAD' Qdm (by omega) rfl hlt (f:=fun y=>y.Body) (fun _=>rfl) fun y2 hy2=>Qsc hy2.2 hAD' ⟨rfl,rfl⟩)) ?_
  refine jo' (decide (12 < v.ne[i3].b.length)) D3 (fun _=>fL (hD' _ _ h1) rfl (SlIs.fL hne hAD' Qdm (by omega) rfl hlt (f:=fun y=>y.Body) (fun _=>rfl) fun y2 hy2=>⟨rfl,by rw [hy2.2.len]; exact gtI (m:=12)⟩)) ?_
  rw [Q0 (by omega) (by omega)]
  refine ⟨⟨hD3,i3+1,by first | omega | (dsimp only; omega),by omega,?_,?_⟩,by first | omega | (dsimp only; omega)⟩
  ·have h2:=h.2
   rw [hok3,Bool.and_eq_true] at h2
   rw [allTake hlt,h2.1,h2.2]; rfl
  ·rw [hfu,allTake hlt,ndec]
   generalize (v.ne.take i3).all _=q
   cases f0 <;> cases q <;> cases decide (v.ne[i3].b.length≤12) <;> rfl
 have o3:ok3=(ok2 && v.ne.all neOk):=by
  rw [Bool.and_eq_false_iff] at h
  rcases h with h | h
  ·have hie : i3 = v.ne.length := by have := of_decide_eq_false h; omega
   rw [hie,List.take_length] at hok3; exact hok3
  ·rw [h] at hok3 ⊢
   cases ok2 with
   | false=>rfl
   | true=>
    rw [Bool.true_and] at hok3 ⊢
    cases hh:v.ne.all neOk with
    | false=>rfl
    | true=>
     have:(v.ne.take i3).all neOk=true:=List.all_eq_true.2 fun x hx=>List.all_eq_true.1 hh x (List.mem_of_mem_take hx)
     rw [this] at hok3; cases hok3
 have eok:ok3=moOk v:=by
  rw [o3,o2,o1]
  unfold moOk
  cases namS v.n <;> cases v.ty.all tdOk <;> cases v.ru.all ruOk <;> cases v.im.all namS <;> cases v.re.all rdOk <;> cases v.ne.all neOk <;> rfl
 refine ift.of (fun h2=>?_) (fun h2=>?_)
 ·have hm : moOk v = false := by rw [← eok]; simpa using h2
  rw [if_pos hm] at k; exact ⟨H,Gh.le (hle.trans hD'),k⟩
 have ht:ok3=true:=by simpa using h2
 have hm:moOk v=true:=by rw [← eok]; exact ht
 rw [if_neg (by rw [hm]; decide)] at k
 have hfu2:fu=(f0 || !v.ne.all (fun n=>decide (n.b.length≤12))):=by
  rw [ht,Bool.and_true] at h
  have hie:i3=v.ne.length:=by have:=of_decide_eq_false h; omega
  rw [hie,List.take_length] at hfu; exact hfu
 refine ⟨fun y E=>D3.le E∧∃ i:Nat,y.2=(i:Int)∧i≤v.ru.length∧y.1=(fu || !(v.ru.take i).all (fun r=>decide (r.b.length≤12))),fun y _=>v.ru.length - y.2.toNat,⟨Heap.le.refl _,0,rfl,Nat.zero_le _,by simp⟩,?_⟩
 rintro ⟨g,_⟩ D4 ⟨hD4,i4,rfl,hi4,hg⟩
 dsimp only at hg ⊢
 have hD4':=hD'.trans hD4
 have hAD4:=hA2.trans hD4'
 have hbd4:=hru.bd
 refine fL (hD4' _ _ h1) rfl ?_
 rw [hru.len]
 refine ift.of (fun h=>?_) (fun h=>?_)
 ·have hlt : i4 < v.ru.length := by have := of_decide_eq_true h; omega
  refine jo' (decide (12 < v.ru[i4].b.length)) D4 (fun _=>fL (hD4' _ _ h1) rfl (SlIs.fL hru hAD4 Qer (by omega) rfl hlt (f:=fun y=>y.Body) (fun _=>rfl) fun y2 hy2=>⟨rfl,by rw [hy2.2.2.2.len]; exact gtI (m:=12)⟩)) ?_
  rw [Q0 (by omega) (by omega)]
  refine ⟨⟨hD4,i4+1,by first | omega | (dsimp only; omega),by omega,?_⟩,by first | omega | (dsimp only; omega)⟩
  rw [hg,allTake hlt,ndec]
  generalize (v.ru.take i4).all _=q
  cases fu <;> cases q <;> cases decide (v.ru[i4].b.length≤12) <;> rfl
 have hie4:i4=v.ru.length:=by have:=of_decide_eq_false h; omega
 rw [hie4,List.take_length] at hg
 have eg:g=!moFew v:=by
  rw [hg,hfu2,← hf0]
  unfold moFew
  simp only [ndec]
  cases decide (v.im.length≤8) <;> cases decide (v.ty.length≤64) <;> cases decide (v.re.length≤64) <;> cases decide (v.ru.length≤256) <;> cases decide (v.ne.length≤256) <;> cases v.ne.all (fun n=>decide (n.b.length≤12)) <;> cases v.ru.all (fun r=>decide (r.b.length≤12)) <;> rfl
 rw [eg]
 refine ift.of (fun h=>?_) (fun h=>?_)
 ·rw [if_pos (by simpa using h)] at k; exact ⟨H,Gh.le (hle.trans hD4'),k⟩
 ·rw [if_neg (by simpa using h)] at k; exact ⟨H,Gh.le (hle.trans hD4'),k⟩
end
end
section
open Go Go.Proofs
theorem Quy:Lib.itoa (-9223372036854775808)=[45,57,50,50,51,51,55,50,48,51,54,56,53,52,55,55,53,56,48,56]:=by
 simp [Lib.itoa,Lib.decDigits]
section
variable {C:Ctx} {H A:Heap}
theorem bV1 {n:Nat} (h:n < 10):[Value.int .u8 (w .u8 (w .i64 (48+(n:Int))))]=bytesV [UInt8.ofNat (48+n)]:=by
 rw [Q0 (by omega) (by omega)]
 have h2:w .u8 (48+(n:Int))=((48+n:Nat):Int):=by
  have h3:w .u8 (48+(n:Int))=(48+(n:Int)) % 256:=IntKind.wrap_u8 _
  rw [h3]; omega
 rw [h2]
 show _=[Value.int .u8 ((UInt8.ofNat (48+n)).toNat:Int)]
 rw [UInt8.toNat_ofNat',Nat.mod_eq_of_lt (by omega)]
theorem dIntN:∀ (n:Nat) {H:Heap} {K:Str→Heap→Prop},n≤9223372036854775807→K (Lib.decDigits n) H→Qb6 C (n:Int) K H:=by
 intro n
 induction n using Nat.strongRecOn with
 | _ n ih=>
 intro H K hn k
 apply Qb6.gh
 apply QjN
 unfold Qhn
 refine Qcw (by rw [beq_eq_false_iff_ne]; omega) ?_
 refine Qcw (decide_eq_false (by omega)) ?_
 refine ift.of (fun h=>?_) (fun h=>?_)
 ·have hlt : n < 10 := by have := of_decide_eq_true h; omega
  intro b7 n7
  refine Qu1 (Qri (bV1 hlt)) rfl ?_
  rw [Lib.decDigits_one hlt] at k
  exact ⟨H,Gh.le (Heap.le_put n7),k⟩
 ·have hge : ¬ n < 10 := by have := of_decide_eq_false h; omega
  have e1:Int.tdiv (n:Int) 10=((n / 10:Nat):Int):=rfl
  have e2:Int.tmod (n:Int) 10=((n % 10:Nat):Int):=rfl
  rw [e1,e2,Q0 (by omega) (by omega)]
  refine ih (n / 10) (by omega) (by omega) (ih (n % 10) (by omega) (by omega) ?_)
  have hl:∀ m,(Lib.decDigits m).length≤m+1:=by
   intro m
   induction m using Nat.strongRecOn with
   | _ m ihm=>
    rw [Lib.decDigits]
    split
    ·simp
    ·have := ihm (m / 10) (by omega)
     simp only [List.length_append,List.length_cons,List.length_nil]; omega
  have h1:=hl (n / 10)
  rw [Lib.decDigits_one (show n % 10 < 10 by omega)]
  rw [Lib.decDigits,dif_neg hge] at k
  exact ⟨by simp [catOk]; omega,H,Gh.refl _,k⟩
theorem Qvq {n:Int} {K:Str→Heap→Prop} (h0:-9223372036854775808≤n) (h1:n≤9223372036854775807) (k:K (Lib.itoa n) H):Qb6 C n K H:=by
 by_cases hm:n = -9223372036854775808
 ·subst hm
  rw [Quy] at k
  apply QjN
  unfold Qhn
  exact Qcc rfl k
 by_cases hn:n < 0
 ·apply QjN
  unfold Qhn
  refine Qcw (by rw [beq_eq_false_iff_ne]; exact hm) (Qcc (decide_eq_true hn) ?_)
  obtain ⟨m,hmm⟩:∃ m:Nat,n = -(m:Int):=⟨n.natAbs,by omega⟩
  subst hmm
  rw [Q0 (by omega) (by omega),show (0:Int) - -(m:Int)=(m:Int) by omega]
  have hl:(Lib.itoa (-(m:Int))).length≤21:=Lib.itoa_length_le _ h0 h1
  have e:Lib.itoa (-(m:Int))=45::Lib.decDigits m:=by unfold Lib.itoa; rw [if_pos hn]; simp
  rw [e] at k hl
  simp only [List.length_cons] at hl
  exact dIntN m (by omega) ⟨by simp [catOk]; omega,k⟩
 ·obtain ⟨m, hmm⟩ : ∃ m : Nat, n = (m : Int) := ⟨n.toNat, by omega⟩
  subst hmm
  have e:Lib.itoa (m:Int)=Lib.decDigits m:=by unfold Lib.itoa; rw [if_neg hn]; simp
  rw [e] at k
  exact dIntN m (by omega) k
theorem Qtc {t:Str} {K:Str→Heap→Prop} (hl:(quoteS t).length≤140737488355328) (k:K (quoteS t) H):Qc7 C t K H:=by
 apply Qc7.gh
 apply QoZ
 unfold Qlf
 intro b1 n1
 have hql:(quoteS t).length=(t.flatMap qC).length+2:=by simp [quoteS]
 have hpre:∀ i,((t.take i).flatMap qC).length≤(t.flatMap qC).length:=fun i=>by
  have:=congrArg List.length (congrArg (List.flatMap qC) (List.take_append_drop i t))
  rw [List.flatMap_append,List.length_append] at this; omega
 have htl:t.length≤(t.flatMap qC).length:=by
  clear hl k hql hpre n1
  induction t with
  | nil=>exact Nat.le_refl _
  | cons c t ih=>
   have:=(Qsj c).1
   rw [List.flatMap_cons,List.length_append,List.length_cons]; omega
 have ho0:OwnF H (H.put b1 (.row [.int .u8 34])) 1 (Sl.of (some (b1,0)) 1 1) (bytesV [34]):=⟨Heap.le_put n1,⟨by simp [bytesV,Sl.of],rfl,Nat.le_refl _,.inr ⟨b1,[],rfl,by rw [Heap.put_same]; rfl,by simp [bytesV,Sl.of]⟩⟩,fun p hp=>by injection hp with hp; subst hp; exact n1⟩
 refine ⟨fun y D=>∃ i:Nat,y.2=(i:Int)∧i≤t.length∧OwnF H D 1 y.1 (bytesV (34::(t.take i).flatMap qC)),fun y _=>t.length - y.2.toNat,⟨0,rfl,Nat.zero_le _,by simpa using ho0⟩,?_⟩
 rintro ⟨s,_⟩ D ⟨i,rfl,hi,ho⟩
 dsimp only at ho ⊢
 have hsl:=ho.lenB
 have hp0:=hpre i
 simp only [List.length_cons] at hsl
 refine ift.of (fun h=>?_) (fun h=>?_)
 ·have hlt : i < t.length := by have := of_decide_eq_true h; omega
  have hst:(t.take (i+1)).flatMap qC=(t.take i).flatMap qC++qC t[i]:=by
   rw [List.take_add_one,List.getElem?_eq_getElem hlt,Option.toList_some,List.flatMap_append]; simp
  have hp:=hpre (i+1)
  rw [hst,List.length_append] at hp
  refine ⟨fun r E=>OwnF H E 1 r (bytesV (34::(t.take (i+1)).flatMap qC)),?_,?_⟩
  ·refine ⟨t[i], by omega, getE hlt, ?_⟩
   rw [hst]
   dsimp only
   generalize t[i]=c at *
   have ap:∀ {ys:Str} {vs:List Value} {n:Nat} {K:Sl→Heap→Prop},qC c=ys→vs=bytesV ys→n=ys.length→(∀ r E,OwnF H E 1 r (bytesV (34::((t.take i).flatMap qC++ys)))→K r E)→apd [.int .u8 0] 1 s vs n K D:=fun {ys vs n K} hc hvs hn kk=>by
    subst hvs; subst hn
    rw [hc] at hp
    refine QnU ho (by simp [bytesV]) (by omega) (by omega) fun r E h2 hr=>kk r E ?_
    rw [← List.cons_append,Qgx]; exact h2
   rw [show (((c.toNat:Int) == 34) || ((c.toNat:Int) == 92))=decide (c=34∨c=92) from by
    rw [show ((c.toNat:Int) == 34)=decide (c=34) from u8eq c 34 (by omega),show ((c.toNat:Int) == 92)=decide (c=92) from u8eq c 92 (by omega),Bool.eq_iff_iff]; simp only [Bool.or_eq_true,decide_eq_true_eq]]
   refine ift.of (fun h=>?_) (fun h=>?_)
   ·have hc:=of_decide_eq_true h
    exact ap (by unfold qC; rw [if_pos hc]) rfl rfl fun r E h2=>by rw [show qC c=[92,c] from by unfold qC; rw [if_pos hc]]; exact h2
   have h1:¬ (c=34∨c=92):=of_decide_eq_false h
   rw [show ((c.toNat:Int) == 10)=decide (c=10) from u8eq c 10 (by omega)]
   refine ift.of (fun h=>?_) (fun h=>?_)
   ·have hc:=of_decide_eq_true h
    have e:qC c=[92,110]:=by unfold qC; rw [if_neg h1,if_pos hc]
    exact ap e rfl rfl fun r E h2=>by rw [e]; exact h2
   have h2:¬ c=10:=of_decide_eq_false h
   rw [show ((c.toNat:Int) == 9)=decide (c=9) from u8eq c 9 (by omega)]
   refine ift.of (fun h=>?_) (fun h=>?_)
   ·have hc:=of_decide_eq_true h
    have e:qC c=[92,116]:=by unfold qC; rw [if_neg h1,if_neg h2,if_pos hc]
    exact ap e rfl rfl fun r E h2=>by rw [e]; exact h2
   have h3:¬ c=9:=of_decide_eq_false h
   rw [show (decide ((c.toNat:Int) ≥ 32) && decide ((c.toNat:Int)≤126))=decide (32≤c.toNat∧c.toNat≤126) from by
    rw [Bool.eq_iff_iff]; simp only [Bool.and_eq_true,decide_eq_true_eq]; omega]
   refine ift.of (fun h=>?_) (fun h=>?_)
   ·have hc:=of_decide_eq_true h
    have e:qC c=[c]:=by unfold qC; rw [if_neg h1,if_neg h2,if_neg h3,if_pos hc]
    exact ap e rfl rfl fun r E h2=>by rw [e]; exact h2
   have h4:¬ (32≤c.toNat∧c.toNat≤126):=of_decide_eq_false h
   have e:qC c=[92,120,hexD (c.toNat / 16),hexD (c.toNat % 16)]:=by unfold qC; rw [if_neg h1,if_neg h2,if_neg h3,if_neg h4]
   have hcl:=c.toNat_lt
   have e1:w .u8 (Int.tdiv (c.toNat:Int) 16)=((c.toNat / 16:Nat):Int):=by
    have h3:∀ x:Int,w .u8 x=x % 256:=fun x=>IntKind.wrap_u8 _
    have h5:Int.tdiv (c.toNat:Int) 16=((c.toNat / 16:Nat):Int):=rfl
    rw [h3,h5]; omega
   have e2:Int.tmod (c.toNat:Int) 16=((c.toNat % 16:Nat):Int):=rfl
   refine ⟨H,ho.le,?_⟩
   rw [e1,e2]
   refine ⟨hexD (c.toNat / 16),by omega,by rw [Int.toNat_natCast]; exact hexS (by omega),hexD (c.toNat % 16),by omega,by rw [Int.toNat_natCast]; exact hexS (by omega),?_⟩
   intro b37 n37
   have l37:=Heap.le_put n37 (g:=.row [.int .u8 92,.int .u8 120,.int .u8 ((hexD (c.toNat / 16)).toNat:Int),.int .u8 ((hexD (c.toNat % 16)).toNat:Int)]) (m:=true)
   refine ⟨ho.le.trans l37,?_⟩
   have ho':=ho.up l37
   rw [e] at hp
   refine Qs3 ho' (c:=[92,120,hexD (c.toNat / 16),hexD (c.toNat % 16)]) (Qri rfl) rfl (by simp only [List.length_cons,List.length_nil] at hp ⊢; omega) fun r E h5 hr=>⟨h5.le,?_⟩
   rw [e,← List.cons_append]; exact h5
  ·rintro r E hE
   rw [Q0 (by omega) (by omega)]
   exact ⟨⟨i+1,by first | omega | (dsimp only; omega),by omega,hE⟩,by first | omega | (dsimp only; omega)⟩
 ·have hie : i = t.length := by have := of_decide_eq_false h; omega
  subst hie
  rw [List.take_length] at ho hsl hp0
  refine QnU ho (by rfl) (by omega) (by omega) fun r E h2 hr=>?_
  have h3:OwnF H E 1 r (bytesV (quoteS t)):=by
   have:quoteS t=(34::t.flatMap qC)++[34]:=rfl
   rw [this,Qgx]; exact h2
  exact Qu1 h3.own.rdsl h3.lenB ⟨H,Gh.le h3.le,k⟩
end
end
end Sx
end
