/-
  Texts of this family, one behind the other: TreeN, TreeG, TreeC1, TreeC2, TreeC3, TreeW1, TreeW2, TreeW3, TreeB, TreeS, TreeP, TreeQ, TreeZ, ModI, ModV, Mod1, Mod2, Mod3, Mod4, Mod5, Mod6, Mod7.
-/
import Derived.Test.YtmeefnmaphmpkaaGreatDoorBO4
import Derived.Lib.IndexMore
noncomputable section
set_option linter.unusedVariables false
set_option linter.unusedSimpArgs false
set_option maxRecDepth 10000
namespace Sx
section
open Go
/-- words, with blanks between and around -/
def blk (W:List Str):Str:=32::W.flatMap (·++[32])
theorem QoE (w:Str) (W:List Str):blk (w::W)=32::(w++blk W):=by simp [blk]
theorem first32:∀ {a b x y:Str},(32:UInt8) ∉ a→(32:UInt8) ∉ b→a++32::x=b++32::y→a=b
 | [],[],_,_,_,_,_=>rfl
 | [],c::b,x,y,_,h2,h=>by
  simp only [List.nil_append,List.cons_append] at h; injection h with h _; subst h; simp at h2
 | c::a,[],x,y,h1,_,h=>by
  simp only [List.nil_append,List.cons_append] at h; injection h with h _; subst h; simp at h1
 | c::a,d::b,x,y,h1,h2,h=>by
  simp only [List.cons_append] at h; injection h with h h'
  subst h
  rw [first32 (fun hm=>h1 (List.mem_cons_of_mem _ hm)) (fun hm=>h2 (List.mem_cons_of_mem _ hm)) h']
theorem QrM {s:Str} (hs:(32:UInt8) ∉ s):∀ {W:List Str},(∀ w ∈ W,(32:UInt8) ∉ w)→∀ {a b:Str},blk W=a++32::(s++32::b)→s ∈ W
 | [],_,a,b,h=>by
  have:=congrArg List.length h
  simp [blk] at this; omega
 | w::W,hW,a,b,h=>by
  rw [QoE] at h
  have hw:=hW w (List.mem_cons_self ..)
  have ih:=fun {a b}=>QrM hs (W:=W) (fun w h=>hW w (List.mem_cons_of_mem _ h)) (a:=a) (b:=b)
  cases a with
  | nil=>
   simp only [List.nil_append] at h; injection h with _ h
   have:w++32::(W.flatMap (·++[32]))=s++32::b:=h
   rw [first32 hw hs this]; exact List.mem_cons_self ..
  | cons c a=>
   simp only [List.cons_append] at h; injection h with _ h
   refine List.mem_cons_of_mem _ ?_
   rcases List.append_eq_append_iff.1 h with ⟨a',e1,e2⟩ | ⟨c',e1,e2⟩
   ·exact ih e2
   ·cases c' with
    | nil=>exact ih (a:=[]) e2.symm
    | cons c c'=>
     simp only [List.cons_append] at e2; injection e2 with e2 _
     exact absurd (by rw [e1,← e2]; simp) hw
theorem QrL {s:Str}:∀ {W:List Str},s ∈ W→∃ a b,blk W=a++32::(s++32::b)
 | w::W,h=>by
  rcases List.mem_cons.1 h with rfl | h
  ·exact ⟨[],W.flatMap (·++[32]),by rw [QoE]; rfl⟩
  ·obtain ⟨a,b,e⟩:=QrL h
   exact ⟨32::(w++a),b,by rw [QoE,e]; simp⟩
theorem Qps {s t:Str}:Lib.contains s t=true ↔ ∃ a b,s=a++(t++b):=by
 unfold Lib.contains
 rw [decide_eq_true_eq]
 constructor
 ·intro h
  rcases Lib.index_spec s t with ⟨h1,_⟩ | ⟨i,h1,h2,h3,_⟩
  ·omega
  ·unfold Lib.occAt at h3
   obtain ⟨b,hb⟩:=List.isPrefixOf_iff_prefix.1 h3
   exact ⟨s.take i,b,by rw [hb,List.take_append_drop]⟩
 ·rintro ⟨a,b,e⟩
  rcases Lib.index_spec s t with ⟨_,h2⟩ | ⟨i,h1,_⟩
  ·have := h2 a.length (by rw [e]; simp)
   unfold Lib.occAt at this
   rw [e,List.drop_left] at this
   have hp:t.isPrefixOf (t++b)=true:=List.isPrefixOf_iff_prefix.2 ⟨b,rfl⟩
   rw [hp] at this; cases this
  ·omega
theorem QuM:∀ w ∈ resW,(32:UInt8) ∉ w:=by decide
theorem Qvt {s:Str} (hs:s.all nameC=true):Lib.contains (blk resW) (([32]++s)++[32])=resW.contains s:=by
 have h32:(32:UInt8) ∉ s:=fun h=>by
  have:=List.all_eq_true.1 hs _ h
  exact absurd this (by decide)
 rw [Bool.eq_iff_iff,Qps,List.contains_iff_mem]
 constructor
 ·rintro ⟨a,b,e⟩
  exact QrM h32 QuM (a:=a) (b:=b) (by rw [e]; simp)
 ·intro h
  obtain ⟨a,b,e⟩:=QrL h
  exact ⟨a,b,by rw [e]; simp⟩
theorem Quf:blk resW=[32,109,111,100,117,108,101,32,105,109,112,111,114,116,32,112,117,98,32,116,121,112,101,32,105,110,112,117,116,32,114,101,108,32,110,101,118,101,114,32,110,111,116,32,97,110,100,32,111,114,32,105,102,32,116,104,101,110,32,101,108,115,101,32,116,114,117,101,32,102,97,108,115,101,32,99,111,117,110,116,32,115,117,109,32,109,105,110,32,109,97,120,32,110,101,103,32,108,101,110,32,98,105,103,32,105,110,116,32,98,111,111,108,32,116,101,120,116,32,116,117,112,108,101,32]:=rfl
theorem QoI:∀ {s a b:Str},cutD s=some (a,b)→a.length≤s.length∧b.length≤s.length
 | [],a,b,h=>by simp [cutD] at h
 | c::t,a,b,h=>by
  simp only [cutD] at h
  by_cases hc:c=46
  ·rw [if_pos hc] at h; injection h with h; injection h with h1 h2; subst h1; subst h2; simp
  ·rw [if_neg hc] at h
   cases ht:cutD t with
   | none=>rw [ht] at h; simp at h
   | some p=>
    rw [ht] at h; simp at h
    obtain ⟨rfl,rfl⟩:=h
    have:=QoI (s:=t) (a:=p.1) (b:=p.2) ht
    simp only [List.length_cons]; omega
end
section
open Go Go.Proofs
theorem Qoh {α:Type} (f:α→Nat):∀ (a b:List α),mxL f (a++b)=max (mxL f a) (mxL f b)
 | [],b=>by simp [mxL]
 | v::a,b=>by simp only [List.cons_append,mxL,Qoh f a b]; omega
theorem Qtl {α:Type} {f:α→Nat} {l:List α} {i:Nat} (h:i < l.length):mxL f (l.take (i+1))=max (mxL f (l.take i)) (f l[i]):=by
 rw [List.take_add_one,List.getElem?_eq_getElem h,Option.toList_some,Qoh]; simp [mxL]
theorem Qkk {α:Type} {f:α→Nat} {l:List α} {v:α} (h:v ∈ l):f v≤mxL f l:=by
 induction l with
 | nil=>cases h
 | cons a l ih=>
  simp only [mxL]
  rcases List.mem_cons.1 h with rfl | h
  ·omega
  ·have:=ih h; omega
theorem allTake {α:Type} {f:α→Bool} {l:List α} {i:Nat} (h:i < l.length):(l.take (i+1)).all f=((l.take i).all f && f l[i]):=by
 rw [List.take_add_one,List.getElem?_eq_getElem h,Option.toList_some,List.all_append]; simp
theorem allNo {α:Type} {f:α→Bool} {l:List α} {i:Nat} (h:i < l.length) (hf:f l[i]=false):l.all f=false:=by
 cases hh:l.all f with
 | false=>rfl
 | true=>rw [List.all_eq_true.1 hh _ (List.getElem_mem h)] at hf; cases hf
theorem Qsb {α:Type} (sep:Str) (f:α→Str):∀ (l:List α) (i:Nat) (v:α),jo sep f i (l++[v])=jo sep f i l++((if i+l.length=0 then [] else sep)++f v)
 | [],i,v=>by simp [jo]
 | w::l,i,v=>by
  rw [List.cons_append]
  simp only [jo,Qsb sep f l (i+1) v,List.append_assoc,List.length_cons]
  rw [show i+1+l.length=i+(l.length+1) by omega]
theorem QoV {α:Type} {sep:Str} {f:α→Str} {l:List α} {i:Nat} (h:i < l.length):jo sep f 0 (l.take (i+1))=jo sep f 0 (l.take i)++((if i=0 then [] else sep)++f l[i]):=by
 rw [List.take_add_one,List.getElem?_eq_getElem h,Option.toList_some,Qsb,List.length_take,Nat.min_eq_left (by omega)]; simp
theorem QtS {α:Type} {sep:Str} {f:α→Str} (l:List α) (i:Nat):(jo sep f 0 (l.take i)).length≤(jo sep f 0 l).length:=by
 have:∀ (a b:List α) (k:Nat),(jo sep f k a).length≤(jo sep f k (a++b)).length:=by
  intro a
  induction a with
  | nil=>intro b k; simp [jo]
  | cons x a ih=>intro b k; have:=ih b (k+1); simp only [List.cons_append,jo,List.length_append]; omega
 have:=this (l.take i) (l.drop i) 0
 rwa [List.take_append_drop] at this
/-- over A, of which b is not, the writer b holds bs -/
abbrev tyW:TypeId:=147
structure Ww (A B:Heap) (b:Nat) (bs:Str):Prop where
 le:A.le B
 nb:A b=none
 bl:IsB tyW tyE B b bs
theorem Ww.up {A B D:Heap} {b:Nat} {bs:Str} (h:Ww A B b bs) (hle:B.le D):Ww A D b bs:=⟨h.le.trans hle,h.nb,h.bl.le hle⟩
theorem Ww.down {A A2 B:Heap} {b:Nat} {bs:Str} (h:Ww A2 B b bs) (hle:A.le A2):Ww A B b bs:=⟨hle.trans h.le,hle.none h.nb,h.bl⟩
/-- all but the writer is kept -/
theorem Ww.full {A B:Heap} {b:Nat} {bs:Str} (h:Ww A B b bs):Ww (B.del b) B b bs∧A.le (B.del b):=
 ⟨⟨Heap.del_le _ _,Heap.del_same _ _,h.bl⟩,fun c e hc=>by
  have:c≠b:=fun e'=>by rw [e',h.nb] at hc; cases hc
  rw [Heap.del_ne _ this]; exact h.le c e hc⟩
theorem Ww.byte {C:Ctx} {A B:Heap} {b:Nat} {bs:Str} {c:UInt8} {i:Int} {K:Value→Heap→Prop} (h:Ww A B b bs) (hi:i=(c.toNat:Int)) (hl:bs.length+1≤140737488355328) (k:∀ D,Ww A D b (bs++[c])→K .nilIface D):Qq C (some (b,0)) i K B:=by
 subst hi
 exact Qi8 h.bl liB147 hl (k _ ⟨h.le.put _ _ h.nb,h.nb,IsB.put⟩)
theorem Ww.str {C:Ctx} {A B:Heap} {b:Nat} {bs s:Str} {K:Int→Value→Heap→Prop} (h:Ww A B b bs) (hl:bs.length+s.length≤140737488355328) (k:∀ D,Ww A D b (bs++s)→K (s.length:Int) .nilIface D):Ql C (some (b,0)) s K B:=
 Qkg h.bl liB147 hl (k _ ⟨h.le.put _ _ h.nb,h.nb,IsB.put⟩)
section
variable {C:Ctx} {H:Heap} {α:Type}
variable {β:Type} {R:α→β→Prop} {c:β→List Value} {zc:List Value} {z:Nat} {A B:Heap} {s:Sl} {l:List α} {e:Value} {d:α→Nat} {ok:α→Bool} {f:α→Str} {sep t:Str} {b:Nat}
abbrev HeD (C:Ctx) (A:Heap) {α β:Type} (R:α→β→Prop) (c:β→List Value) (l:List α) (e:Value) (d:α→Nat):Prop:=∀ v ∈ l,∀ (x:β) (D:Heap) (Φ:Int→Heap→Prop),A.le D→R v x→Φ (d v) D→callU Tryz.prog C e [.agg (c x).toArray] D (fun v H31=>∃ r30:Int,v=.int .i64 r30∧Φ r30 H31)
abbrev HeB (C:Ctx) (A:Heap) {α β:Type} (R:α→β→Prop) (c:β→List Value) (l:List α) (e:Value) (ok:α→Bool):Prop:=∀ v ∈ l,∀ (x:β) (D:Heap) (Φ:Bool→Heap→Prop),A.le D→R v x→Φ (ok v) D→callU Tryz.prog C e [.agg (c x).toArray] D (fun v H31=>∃ r30:Bool,v=.bool r30∧Φ r30 H31)
abbrev HeW (C:Ctx) (A:Heap) (b:Nat) {α β:Type} (R:α→β→Prop) (c:β→List Value) (l:List α) (e:Value) (f:α→Str):Prop:=∀ v ∈ l,∀ (x:β) (D:Heap) (u:Str) (Φ:Heap→Prop),Ww A D b u→R v x→u.length+(f v).length≤140737488355328→(∀ D2,Ww A D2 b (u++f v)→Φ D2)→callU Tryz.prog C e [.agg (c x).toArray] D (fun v H31=>v=.tuple #[]∧Φ H31)
theorem dpG {K:Int→Heap→Prop} (hz:∀ x,(c x).length=z) (hz0:0 < z) (hzc:zc.length=z) (hs:SlIs R c A s l) (hA:A.le H) (he:HeD C A R c l e d) (k:∀ D,H.le D→K (mxL d l) D) :
 lp (α:=Int×Int) (0,0) H (fun x1 J2 H3=>ift (decide ((x1.2:Int) < (Sl.len s:Int))) (ixa s x1.2 fun p5=>ldT H3 c (p5.1,p5.2+(x1.2:Int).toNat*z) fun x10=>nw zc (fun b12 H13=>stT (b12,0) (c x10) (fun H14=>ldT H14 c (b12,0) fun x15=>callU Tryz.prog C e [.agg (c x15).toArray] H14 (fun v H18=>∃ (r17:Int),v=.int .i64 r17∧J2 ((if r17 > x1.1 then r17 else x1.1:Int),(w .i64 (x1.2+1))) H18)) H13) H3) (K x1.1 H3)):=by
 have hlen:=SlIs.len hs
 have hbd:=SlIs.bd hs
 refine ⟨fun y D=>H.le D∧∃ i:Nat,y=(((mxL d (l.take i):Nat):Int),(i:Int))∧i≤l.length,fun y _=>l.length - y.2.toNat,⟨Heap.le.refl _,0,rfl,Nat.zero_le _⟩,?_⟩
 rintro _ D ⟨hD,i,rfl,hi⟩
 rw [hlen]
 refine ift.of (fun h=>?_) (fun h=>?_)
 ·have hlt : i < l.length := by have := of_decide_eq_true h; dsimp only at this; omega
  refine SlIs.ld hs (hA.trans hD) hz hz0 rfl hlt fun x hx=>?_
  intro b n13
  refine nwT (by rw [hz,hzc]) ?_
  have l13:=Heap.le_put n13 (g:=.row (c x)) (m:=true)
  refine bxT (c:=c) (Heap.put_same ..) (he _ (List.getElem_mem hlt) x _ _ ((hA.trans hD).trans l13) hx ?_)
  dsimp only
  rw [Q4 (by omega) (by omega)]
  refine ⟨⟨hD.trans l13,i+1,?_,by omega⟩,by first | omega | (dsimp only; omega)⟩
  rw [Qtl hlt]
  refine Prod.ext ?_ (by dsimp only; omega)
  dsimp only
  split <;> omega
 ·have hie : i = l.length := by have := of_decide_eq_false h; dsimp only at this; omega
  subst hie
  rw [List.take_length]
  exact k D hD
theorem alG {K : Int → Heap → Prop} {F : Value} {b1 : Nat} (hz : ∀ x, (c x).length = z) (hz0 : 0 < z) (n1 : H b1 = none) (hF : ∀ (x : β) (D : Heap) (Φ : Bool → Heap → Prop), nw (c x) (fun b2 H2 => ldV H2 (b1, 0) fun x3 => ldT H2 c (b2, 0) fun x5 => callU Tryz.prog C x3 [.agg (c x5).toArray] H2 (fun v H8 => ∃ (r7 : Bool), v = .bool r7 ∧ Φ (!r7) H8)) D → callU Tryz.prog C F [.agg (c x).toArray] D (fun v H13 => ∃ (r12 : Bool), v = .bool r12 ∧ Φ r12 H13))
 (hs:SlIs R c A s l) (hA:A.le H) (he:HeB C A R c l e ok) (k:∀ D r,H.le D→(decide (r ≥ 0)=!l.all ok)→K r D) :
 lp (α:=Int) 0 (H.put b1 (.row [e])) (fun x1 J2 H3=>ift (decide ((x1:Int) < (Sl.len s:Int))) (ixa s x1 fun p5=>ldT H3 c (p5.1,p5.2+(x1:Int).toNat*z) fun x10=>callU Tryz.prog C F [.agg (c x10).toArray] H3 (fun v H13=>∃ (r12:Bool),v=.bool r12∧ift r12 (K x1 H13) (J2 (w .i64 (x1+1)) H13))) (K (-1) H3)):=by
 have l1:=Heap.le_put n1 (g:=.row [e]) (m:=true)
 have c1:(H.put b1 (.row [e])) b1=some (true,.row [e]):=Heap.put_same ..
 generalize H.put b1 (.row [e])=H1 at *
 have hlen:=SlIs.len hs
 have hbd:=SlIs.bd hs
 refine ⟨fun y D=>H1.le D∧∃ i:Nat,y=(i:Int)∧i≤l.length∧(l.take i).all ok=true,fun y _=>l.length - y.toNat,⟨Heap.le.refl _,0,rfl,Nat.zero_le _,rfl⟩,?_⟩
 rintro _ D ⟨hD,i,rfl,hi,hall⟩
 rw [hlen]
 refine ift.of (fun h=>?_) (fun h=>?_)
 ·have hlt : i < l.length := by have := of_decide_eq_true h; omega
  refine SlIs.ld hs (hA.trans (l1.trans hD)) hz hz0 rfl hlt fun x hx=>hF _ _ _ ?_
  intro b2 n2
  have l2:=Heap.le_put n2 (g:=.row (c x)) (m:=true)
  refine ⟨e,by rw [QaC (l2 _ _ (hD _ _ c1))]; rfl,bxT (c:=c) (Heap.put_same ..) (he _ (List.getElem_mem hlt) x _ _ ((hA.trans (l1.trans hD)).trans l2) hx ?_)⟩
  refine ift.of (fun hb=>?_) (fun hb=>?_)
  ·have hf : ok l[i] = false := by simpa using hb
   exact k _ _ (l1.trans (hD.trans l2)) (by rw [allNo hlt hf]; exact decide_eq_true (by omega))
  ·have hf : ok l[i] = true := by simpa using hb
   rw [Q4 (by omega) (by omega)]
   exact ⟨⟨hD.trans l2,i+1,by omega,by omega,by rw [allTake hlt,hall,hf]; rfl⟩,by first | omega | (dsimp only; omega)⟩
 ·have hie : i = l.length := by have := of_decide_eq_false h; omega
  subst hie
  rw [List.take_length] at hall
  exact k _ _ (l1.trans hD) (by rw [hall]; rfl)
theorem lsG {K:Heap→Prop} (hz:∀ x,(c x).length=z) (hz0:0 < z) (hzc:zc.length=z) (hs:SlIs R c A s l) (hW:Ww A B b t) (he:HeW C A b R c l e f) (hl:t.length+(jo sep f 0 l).length≤140737488355328) (k:∀ D,Ww A D b (t++jo sep f 0 l)→K D) :
 lp (α:=Int) 0 B (fun x1 J2 H3=>ift (decide ((x1:Int) < (Sl.len s:Int))) (ixa s x1 fun p5=>ldT H3 c (p5.1,p5.2+(x1:Int).toNat*z) fun x10=>nw zc (fun b12 H13=>stT (b12,0) (c x10) (fun H14=>jn (α:=Unit) (fun x16 H17=>ldT H17 c (b12,0) fun x25=>callU Tryz.prog C e [.agg (c x25).toArray] H17 (fun v H27=>v=.tuple #[]∧J2 (w .i64 (x1+1)) H27)) (fun J15=>ift (decide ((x1:Int) > 0)) (nck (some (b,0)) fun p20=>Ql C (some (p20.1,p20.2+0)) sep (fun r22 r23 H24=>J15 () H24) H14) (J15 () H14))) H13) H3) (K H3)):=by
 have hlen:=SlIs.len hs
 have hbd:=SlIs.bd hs
 refine ⟨fun y D=>∃ i:Nat,y=(i:Int)∧i≤l.length∧Ww A D b (t++jo sep f 0 (l.take i)),fun y _=>l.length - y.toNat,⟨0,rfl,Nat.zero_le _,by simpa [jo] using hW⟩,?_⟩
 rintro _ D ⟨i,rfl,hi,hD⟩
 rw [hlen]
 refine ift.of (fun h=>?_) (fun h=>?_)
 ·have hlt : i < l.length := by have := of_decide_eq_true h; omega
  have hp:=QtS (sep:=sep) (f:=f) l (i+1)
  rw [QoV hlt] at hp
  simp only [List.length_append] at hp
  refine SlIs.ld hs hD.le hz hz0 rfl hlt fun x hx=>?_
  intro b13 n13
  refine nwT (by rw [hz,hzc]) ?_
  have l13:=Heap.le_put n13 (g:=.row (c x)) (m:=true)
  have c13:(D.put b13 (.row (c x))) b13=some (true,.row (c x)):=Heap.put_same ..
  have hD2:=hD.up l13
  generalize D.put b13 (.row (c x))=D2 at *
  obtain ⟨hF,hAF⟩:=hD2.full
  have hbb:b13≠b:=fun e'=>by
   obtain ⟨g,hg⟩:=hD.bl.some
   rw [← e',n13] at hg; cases hg
  refine ⟨fun _ E=>Ww (D2.del b) E b (t++jo sep f 0 (l.take i)++(if i=0 then [] else sep)),?_,?_⟩
  ·refine ift.of (fun hp0 => ?_) (fun hp0 => ?_)
   ·have hi0 : i ≠ 0 := by have := of_decide_eq_true hp0; omega
    rw [if_neg hi0] at hp ⊢
    refine ⟨_,rfl,hF.str (by simp only [List.length_append]; omega) fun E hE=>hE⟩
   ·have hi0 : i = 0 := by have := of_decide_eq_false hp0; omega
    rw [if_pos hi0,List.append_nil]; exact hF
  ·rintro _ E hE
   have hc:E b13=some (true,.row (c x)):=hE.le _ _ (by rw [Heap.del_ne _ hbb]; exact c13)
   refine bxT (c:=c) hc (he _ (List.getElem_mem hlt) x E _ _ (hE.down hAF) hx (by simp only [List.length_append]; omega) fun D3 h3=>?_)
   rw [Q4 (by omega) (by omega)]
   refine ⟨⟨i+1,by omega,by omega,?_⟩,by first | omega | (dsimp only; omega)⟩
   rw [QoV hlt]
   simpa using h3
 ·have hie : i = l.length := by have := of_decide_eq_false h; omega
  subst hie
  rw [List.take_length] at hD
  exact k D hD
theorem QrE {R:α→Qp→Prop} {K:Bool→Heap→Prop} (hs:SlIs R Qp.c A s l) (hA:A.le H) (he:HeB C A R Qp.c l e ok) (k:K (l.all ok) H) (h1c:Value.cells e = #[e]:=by exact rfl):Qai C s e K H:=by
 apply Qai.gh
 apply QiN
 unfold QeP
 refine ⟨h1c,fun b1 n1=>?_⟩
 apply QW
 unfold QF
 apply Q9
 unfold QJ
 exact alG (K:=fun r H2=>∃ H0,Gh C H2 H0∧K (!decide (r ≥ 0)) H0) Qof (by omega) n1 (fun x D Φ h=>⟨122,[],[pv (some (b1,0))],rfl,QhF,Qhh C x (b1,0) Φ D h⟩) hs hA he fun D r hD hr=>⟨H,Gh.le hD,by rw [hr,Bool.not_not]; exact k⟩
theorem Qsi {R:α→Qp→Prop} {K:Heap→Prop} (hs:SlIs R Qp.c A s l) (hW:Ww A B b t) (he:HeW C A b R Qp.c l e f) (hl:t.length+(jo sep f 0 l).length≤140737488355328) (k:∀ D,Ww A D b (t++jo sep f 0 l)→K D):QcI C (some (b,0)) s sep e K B:=by
 apply Qh8
 unfold QeE
 refine lsG (K:=K) Qof (by omega) ?_ hs hW he hl k
 rfl
theorem Qrg {R:α→Qc→Prop} {K:Int→Heap→Prop} (hs:SlIs R Qc.c A s l) (hA:A.le H) (he:HeD C A R Qc.c l e d) (k:K (mxL d l) H):QN C s e K H:=by
 apply QN.gh
 apply QfT
 unfold Qdf
 refine dpG (K:=fun r H2=>∃ H0,Gh C H2 H0∧K r H0) QkR (by omega) ?_ hs hA he fun D hD=>⟨H,Gh.le hD,k⟩
 rfl
theorem Qrd {R:α→Qc→Prop} {K:Bool→Heap→Prop} (hs:SlIs R Qc.c A s l) (hA:A.le H) (he:HeB C A R Qc.c l e ok) (k:K (l.all ok) H) (h1c:Value.cells e = #[e]:=by exact rfl):Qac C s e K H:=by
 apply Qac.gh
 apply Qh6
 unfold QeC
 refine ⟨h1c,fun b1 n1=>?_⟩
 apply QbN
 unfold Qat
 apply Qb6
 unfold QaM
 exact alG (K:=fun r H2=>∃ H0,Gh C H2 H0∧K (!decide (r ≥ 0)) H0) QkR (by omega) n1 (fun x D Φ h=>⟨124,[],[pv (some (b1,0))],rfl,Qg2,QgN C x (b1,0) Φ D h⟩) hs hA he fun D r hD hr=>⟨H,Gh.le hD,by rw [hr,Bool.not_not]; exact k⟩
theorem Qro {R:α→Qc→Prop} {K:Heap→Prop} (hs:SlIs R Qc.c A s l) (hW:Ww A B b t) (he:HeW C A b R Qc.c l e f) (hl:t.length+(jo sep f 0 l).length≤140737488355328) (k:∀ D,Ww A D b (t++jo sep f 0 l)→K D):Qcf C (some (b,0)) s sep e K B:=by
 apply Qho
 unfold Qec
 refine lsG (K:=K) QkR (by omega) ?_ hs hW he hl k
 rfl
theorem QrW {R:α→Qh→Prop} {K:Int→Heap→Prop} (hs:SlIs R Qh.c A s l) (hA:A.le H) (he:HeD C A R Qh.c l e d) (k:K (mxL d l) H):QQ C s e K H:=by
 apply QQ.gh
 apply Qgf
 unfold Qdq
 refine dpG (K:=fun r H2=>∃ H0,Gh C H2 H0∧K r H0) QlQ (by omega) ?_ hs hA he fun D hD=>⟨H,Gh.le hD,k⟩
 rfl
theorem QrF {R:α→Qh→Prop} {K:Bool→Heap→Prop} (hs:SlIs R Qh.c A s l) (hA:A.le H) (he:HeB C A R Qh.c l e ok) (k:K (l.all ok) H) (h1c:Value.cells e = #[e]:=by exact rfl):Qaj C s e K H:=by
 apply Qaj.gh
 apply QiO
 unfold QeQ
 refine ⟨h1c,fun b1 n1=>?_⟩
 apply Qb0
 unfold QaE
 apply QcF
 unfold QaY
 exact alG (K:=fun r H2=>∃ H0,Gh C H2 H0∧K (!decide (r ≥ 0)) H0) QlQ (by omega) n1 (fun x D Φ h=>⟨130,[],[pv (some (b1,0))],rfl,QhG,Qhi C x (b1,0) Φ D h⟩) hs hA he fun D r hD hr=>⟨H,Gh.le hD,by rw [hr,Bool.not_not]; exact k⟩
theorem Qsj {R:α→Qh→Prop} {K:Heap→Prop} (hs:SlIs R Qh.c A s l) (hW:Ww A B b t) (he:HeW C A b R Qh.c l e f) (hl:t.length+(jo sep f 0 l).length≤140737488355328) (k:∀ D,Ww A D b (t++jo sep f 0 l)→K D):QcJ C (some (b,0)) s sep e K B:=by
 apply Qh9
 unfold QeF
 refine lsG (K:=K) QlQ (by omega) ?_ hs hW he hl k
 rfl
theorem Qul {R:α→Qj→Prop} {K:Int→Heap→Prop} (hs:SlIs R Qj.c A s l) (hA:A.le H) (he:HeD C A R Qj.c l e d) (k:K (mxL d l) H):Q0 C s e K H:=by
 apply Q0.gh
 apply Qhk
 unfold Qd8
 refine dpG (K:=fun r H2=>∃ H0,Gh C H2 H0∧K r H0) QoW (by omega) ?_ hs hA he fun D hD=>⟨H,Gh.le hD,k⟩
 rfl
theorem QrG {R:α→Qj→Prop} {K:Bool→Heap→Prop} (hs:SlIs R Qj.c A s l) (hA:A.le H) (he:HeB C A R Qj.c l e ok) (k:K (l.all ok) H) (h1c:Value.cells e = #[e]:=by exact rfl):Qak C s e K H:=by
 apply Qak.gh
 apply Qj6
 unfold QfB
 refine ⟨h1c,fun b1 n1=>?_⟩
 apply QcX
 unfold Qa8
 apply Qds
 unfold Qbj
 exact alG (K:=fun r H2=>∃ H0,Gh C H2 H0∧K (!decide (r ≥ 0)) H0) QoW (by omega) n1 (fun x D Φ h=>⟨135,[],[pv (some (b1,0))],rfl,Qi0,QiP C x (b1,0) Φ D h⟩) hs hA he fun D r hD hr=>⟨H,Gh.le hD,by rw [hr,Bool.not_not]; exact k⟩
theorem Quw {R:α→Qj→Prop} {K:Heap→Prop} (hs:SlIs R Qj.c A s l) (hW:Ww A B b t) (he:HeW C A b R Qj.c l e f) (hl:t.length+(jo sep f 0 l).length≤140737488355328) (k:∀ D,Ww A D b (t++jo sep f 0 l)→K D):Qdv C (some (b,0)) s sep e K B:=by
 apply Qjd
 unfold Qff
 refine lsG (K:=K) QoW (by omega) ?_ hs hW he hl k
 rfl
theorem Qta {R:α→Qm→Prop} {K:Int→Heap→Prop} (hs:SlIs R Qm.c A s l) (hA:A.le H) (he:HeD C A R Qm.c l e d) (k:K (mxL d l) H):QU C s e K H:=by
 apply QU.gh
 apply QgP
 unfold QdQ
 refine dpG (K:=fun r H2=>∃ H0,Gh C H2 H0∧K r H0) Qnb (by omega) ?_ hs hA he fun D hD=>⟨H,Gh.le hD,k⟩
 rfl
theorem Qqt {R:α→Qm→Prop} {K:Bool→Heap→Prop} (hs:SlIs R Qm.c A s l) (hA:A.le H) (he:HeB C A R Qm.c l e ok) (k:K (l.all ok) H) (h1c:Value.cells e = #[e]:=by exact rfl):Q8 C s e K H:=by
 apply Q8.gh
 apply Qjc
 unfold Qfe
 refine ⟨h1c,fun b1 n1=>?_⟩
 apply Qcl
 unfold QaU
 apply Qc1
 unfold Qbc
 exact alG (K:=fun r H2=>∃ H0,Gh C H2 H0∧K (!decide (r ≥ 0)) H0) Qnb (by omega) n1 (fun x D Φ h=>⟨141,[],[pv (some (b1,0))],rfl,Qip,Qh5 C x (b1,0) Φ D h⟩) hs hA he fun D r hD hr=>⟨H,Gh.le hD,by rw [hr,Bool.not_not]; exact k⟩
theorem Qth {R:α→Qm→Prop} {K:Heap→Prop} (hs:SlIs R Qm.c A s l) (hW:Ww A B b t) (he:HeW C A b R Qm.c l e f) (hl:t.length+(jo sep f 0 l).length≤140737488355328) (k:∀ D,Ww A D b (t++jo sep f 0 l)→K D):Qc3 C (some (b,0)) s sep e K B:=by
 apply QiR
 unfold QeR
 refine lsG (K:=K) Qnb (by omega) ?_ hs hW he hl k
 rfl
theorem Qrf {R:α→Qk→Prop} {K:Int→Heap→Prop} (hs:SlIs R Qk.c A s l) (hA:A.le H) (he:HeD C A R Qk.c l e d) (k:K (mxL d l) H):Qz C s e K H:=by
 apply Qz.gh
 apply QfS
 unfold Qde
 refine dpG (K:=fun r H2=>∃ H0,Gh C H2 H0∧K r H0) Qcg (by omega) ?_ hs hA he fun D hD=>⟨H,Gh.le hD,k⟩
 rfl
theorem Qrc {R:α→Qk→Prop} {K:Bool→Heap→Prop} (hs:SlIs R Qk.c A s l) (hA:A.le H) (he:HeB C A R Qk.c l e ok) (k:K (l.all ok) H) (h1c:Value.cells e = #[e]:=by exact rfl):QI C s e K H:=by
 apply QI.gh
 apply Qh4
 unfold QeB
 refine ⟨h1c,fun b1 n1=>?_⟩
 apply QbM
 unfold Qas
 apply Qb5
 unfold QaL
 exact alG (K:=fun r H2=>∃ H0,Gh C H2 H0∧K (!decide (r ≥ 0)) H0) Qcg (by omega) n1 (fun x D Φ h=>⟨143,[],[pv (some (b1,0))],rfl,Qg1,QgM C x (b1,0) Φ D h⟩) hs hA he fun D r hD hr=>⟨H,Gh.le hD,by rw [hr,Bool.not_not]; exact k⟩
theorem Qrn {R:α→Qk→Prop} {K:Heap→Prop} (hs:SlIs R Qk.c A s l) (hW:Ww A B b t) (he:HeW C A b R Qk.c l e f) (hl:t.length+(jo sep f 0 l).length≤140737488355328) (k:∀ D,Ww A D b (t++jo sep f 0 l)→K D):QaK C (some (b,0)) s sep e K B:=by
 apply Qhn
 unfold Qeb
 refine lsG (K:=K) Qcg (by omega) ?_ hs hW he hl k
 rfl
theorem Qp7 {R:α→Qf→Prop} {K:Int→Heap→Prop} (hs:SlIs R Qf.c A s l) (hA:A.le H) (he:HeD C A R Qf.c l e d) (k:K (mxL d l) H):Qx C s e K H:=by
 apply Qx.gh
 apply QfK
 unfold QcV
 refine dpG (K:=fun r H2=>∃ H0,Gh C H2 H0∧K r H0) Qc6 (by omega) ?_ hs hA he fun D hD=>⟨H,Gh.le hD,k⟩
 rfl
theorem Qp4 {R:α→Qf→Prop} {K:Bool→Heap→Prop} (hs:SlIs R Qf.c A s l) (hA:A.le H) (he:HeB C A R Qf.c l e ok) (k:K (l.all ok) H) (h1c:Value.cells e = #[e]:=by exact rfl):QY C s e K H:=by
 apply QY.gh
 apply Qhg
 unfold Qd6
 refine ⟨h1c,fun b1 n1=>?_⟩
 apply Qan
 unfold QP
 apply Qau
 unfold QV
 exact alG (K:=fun r H2=>∃ H0,Gh C H2 H0∧K (!decide (r ≥ 0)) H0) Qc6 (by omega) n1 (fun x D Φ h=>⟨193,[],[pv (some (b1,0))],rfl,Qgl,Qge C x (b1,0) Φ D h⟩) hs hA he fun D r hD hr=>⟨H,Gh.le hD,by rw [hr,Bool.not_not]; exact k⟩
theorem Qqe {R:α→Qf→Prop} {K:Heap→Prop} (hs:SlIs R Qf.c A s l) (hW:Ww A B b t) (he:HeW C A b R Qf.c l e f) (hl:t.length+(jo sep f 0 l).length≤140737488355328) (k:∀ D,Ww A D b (t++jo sep f 0 l)→K D):QbX C (some (b,0)) s sep e K B:=by
 apply QgQ
 unfold QdR
 refine lsG (K:=K) Qc6 (by omega) ?_ hs hW he hl k
 rfl
theorem Qp5 {R:α→Qf→Prop} {K:Heap→Prop} (hs:SlIs R Qf.c A s l) (hW:Ww A B b t) (he:HeW C A b R Qf.c l e f) (hl:t.length+(jo [44,32] f 0 l).length+2≤140737488355328) (k:∀ D,Ww A D b (t++40::(jo [44,32] f 0 l++[41]))→K D):Qad C (some (b,0)) s e K B:=by
 apply Qfo
 unfold Qcu
 refine ⟨_,rfl,hW.byte (c:=40) rfl (by omega) fun D1 h1=>?_⟩
 refine Qqe hs h1 he (by simp only [List.length_append,List.length_singleton]; omega) fun D2 h2=>?_
 refine ⟨_,rfl,h2.byte (c:=41) rfl (by simp only [List.length_append,List.length_singleton]; omega) fun D3 h3=>k D3 (by simpa using h3)⟩
theorem Qre {R:α→Qg→Prop} {K:Int→Heap→Prop} (hs:SlIs R Qg.c A s l) (hA:A.le H) (he:HeD C A R Qg.c l e d) (k:K (mxL d l) H):QM C s e K H:=by
 apply QM.gh
 apply QfR
 unfold Qdd
 refine dpG (K:=fun r H2=>∃ H0,Gh C H2 H0∧K r H0) QkQ (by omega) ?_ hs hA he fun D hD=>⟨H,Gh.le hD,k⟩
 rfl
theorem Qrb {R:α→Qg→Prop} {K:Bool→Heap→Prop} (hs:SlIs R Qg.c A s l) (hA:A.le H) (he:HeB C A R Qg.c l e ok) (k:K (l.all ok) H) (h1c:Value.cells e = #[e]:=by exact rfl):Qab C s e K H:=by
 apply Qab.gh
 apply Qh3
 unfold QeA
 refine ⟨h1c,fun b1 n1=>?_⟩
 apply Qaq
 unfold QT
 apply QaF
 unfold Q3
 exact alG (K:=fun r H2=>∃ H0,Gh C H2 H0∧K (!decide (r ≥ 0)) H0) QkQ (by omega) n1 (fun x D Φ h=>⟨191,[],[pv (some (b1,0))],rfl,Qg0,QgL C x (b1,0) Φ D h⟩) hs hA he fun D r hD hr=>⟨H,Gh.le hD,by rw [hr,Bool.not_not]; exact k⟩
theorem Qrm {R:α→Qg→Prop} {K:Heap→Prop} (hs:SlIs R Qg.c A s l) (hW:Ww A B b t) (he:HeW C A b R Qg.c l e f) (hl:t.length+(jo sep f 0 l).length≤140737488355328) (k:∀ D,Ww A D b (t++jo sep f 0 l)→K D):Qce C (some (b,0)) s sep e K B:=by
 apply Qhm
 unfold Qea
 refine lsG (K:=K) QkQ (by omega) ?_ hs hW he hl k
 rfl
theorem Qum {R:α→Qd→Prop} {K:Int→Heap→Prop} (hs:SlIs R Qd.c A s l) (hA:A.le H) (he:HeD C A R Qd.c l e d) (k:K (mxL d l) H):Q1 C s e K H:=by
 apply Q1.gh
 apply Qhl
 unfold Qd9
 refine dpG (K:=fun r H2=>∃ H0,Gh C H2 H0∧K r H0) Qle (by omega) ?_ hs hA he fun D hD=>⟨H,Gh.le hD,k⟩
 rfl
theorem Que {R:α→Qd→Prop} {K:Bool→Heap→Prop} (hs:SlIs R Qd.c A s l) (hA:A.le H) (he:HeB C A R Qd.c l e ok) (k:K (l.all ok) H) (h1c:Value.cells e = #[e]:=by exact rfl):QZ C s e K H:=by
 apply QZ.gh
 apply Qj7
 unfold QfC
 refine ⟨h1c,fun b1 n1=>?_⟩
 apply Qa2
 unfold Qaf
 apply Qbh
 unfold Qam
 exact alG (K:=fun r H2=>∃ H0,Gh C H2 H0∧K (!decide (r ≥ 0)) H0) Qle (by omega) n1 (fun x D Φ h=>⟨223,[],[pv (some (b1,0))],rfl,Qi1,QiQ C x (b1,0) Φ D h⟩) hs hA he fun D r hD hr=>⟨H,Gh.le hD,by rw [hr,Bool.not_not]; exact k⟩
theorem Qux {R:α→Qd→Prop} {K:Heap→Prop} (hs:SlIs R Qd.c A s l) (hW:Ww A B b t) (he:HeW C A b R Qd.c l e f) (hl:t.length+(jo sep f 0 l).length≤140737488355328) (k:∀ D,Ww A D b (t++jo sep f 0 l)→K D):Qdw C (some (b,0)) s sep e K B:=by
 apply Qje
 unfold Qfg
 refine lsG (K:=K) Qle (by omega) ?_ hs hW he hl k
 rfl
theorem Quh {R:α→Qd→Prop} {K:Heap→Prop} (hs:SlIs R Qd.c A s l) (hW:Ww A B b t) (he:HeW C A b R Qd.c l e f) (hl:t.length+(jo [44,32] f 0 l).length+2≤140737488355328) (k:∀ D,Ww A D b (t++40::(jo [44,32] f 0 l++[41]))→K D):QbU C (some (b,0)) s e K B:=by
 apply QgO
 unfold QdP
 refine ⟨_,rfl,hW.byte (c:=40) rfl (by omega) fun D1 h1=>?_⟩
 refine Qux hs h1 he (by simp only [List.length_append,List.length_singleton]; omega) fun D2 h2=>?_
 refine ⟨_,rfl,h2.byte (c:=41) rfl (by simp only [List.length_append,List.length_singleton]; omega) fun D3 h3=>k D3 (by simpa using h3)⟩
theorem QrV {R:α→Qb→Prop} {K:Int→Heap→Prop} (hs:SlIs R Qb.c A s l) (hA:A.le H) (he:HeD C A R Qb.c l e d) (k:K (mxL d l) H):QC C s e K H:=by
 apply QC.gh
 apply Qhj
 unfold Qd7
 refine dpG (K:=fun r H2=>∃ H0,Gh C H2 H0∧K r H0) Qdo (by omega) ?_ hs hA he fun D hD=>⟨H,Gh.le hD,k⟩
 rfl
theorem Qp3 {R:α→Qb→Prop} {K:Bool→Heap→Prop} (hs:SlIs R Qb.c A s l) (hA:A.le H) (he:HeB C A R Qb.c l e ok) (k:K (l.all ok) H) (h1c:Value.cells e = #[e]:=by exact rfl):QH C s e K H:=by
 apply QH.gh
 apply Qj5
 unfold QfA
 refine ⟨h1c,fun b1 n1=>?_⟩
 apply QcW
 unfold Qa7
 apply Qdr
 unfold Qbi
 exact alG (K:=fun r H2=>∃ H0,Gh C H2 H0∧K (!decide (r ≥ 0)) H0) Qdo (by omega) n1 (fun x D Φ h=>⟨197,[],[pv (some (b1,0))],rfl,QiX,QiM C x (b1,0) Φ D h⟩) hs hA he fun D r hD hr=>⟨H,Gh.le hD,by rw [hr,Bool.not_not]; exact k⟩
theorem Qsh {R:α→Qb→Prop} {K:Heap→Prop} (hs:SlIs R Qb.c A s l) (hW:Ww A B b t) (he:HeW C A b R Qb.c l e f) (hl:t.length+(jo sep f 0 l).length≤140737488355328) (k:∀ D,Ww A D b (t++jo sep f 0 l)→K D):QaN C (some (b,0)) s sep e K B:=by
 apply Qe4
 unfold Qdg
 refine lsG (K:=K) Qdo (by omega) ?_ hs hW he hl k
 rfl
theorem Qug {R:α→Qb→Prop} {K:Heap→Prop} (hs:SlIs R Qb.c A s l) (hW:Ww A B b t) (he:HeW C A b R Qb.c l e f) (hl:t.length+(jo [44,32] f 0 l).length+2≤140737488355328) (k:∀ D,Ww A D b (t++40::(jo [44,32] f 0 l++[41]))→K D):Qy C (some (b,0)) s e K B:=by
 apply QdE
 unfold QbI
 refine ⟨_,rfl,hW.byte (c:=40) rfl (by omega) fun D1 h1=>?_⟩
 refine Qsh hs h1 he (by simp only [List.length_append,List.length_singleton]; omega) fun D2 h2=>?_
 refine ⟨_,rfl,h2.byte (c:=41) rfl (by simp only [List.length_append,List.length_singleton]; omega) fun D3 h3=>k D3 (by simpa using h3)⟩
end
section
variable {C:Ctx} {H:Heap}
theorem Qpq {A:Heap} {s:Sl} {l:List Str} {e:Value} {ok:Str→Bool} {K:Bool→Heap→Prop} (hs:StL A s l) (hA:A.le H)
 (he:∀ v ∈ l,∀ (D:Heap) (Φ:Bool→Heap→Prop),A.le D→v.length≤140737488355328→Φ (ok v) D→callU Tryz.prog C e [sv v] D (fun v H31=>∃ r30:Bool,v=.bool r30∧Φ r30 H31))
 (k:K (l.all ok) H) (h1c:Value.cells e = #[e]:=by exact rfl):QaB C s e K H:=by
 apply QaB.gh
 apply Qk3
 unfold QgB
 refine ⟨h1c,?_⟩
 intro b1 n1
 have l1:=Heap.le_put n1 (g:=.row [e]) (m:=true)
 have c1:(H.put b1 (.row [e])) b1=some (true,.row [e]):=Heap.put_same ..
 generalize H.put b1 (.row [e])=H1 at *
 apply QdD
 unfold Qbq
 apply Qem
 unfold QbG
 have hlen:=SlIs.len hs
 have hbd:=SlIs.bd hs
 refine ⟨fun y D=>H1.le D∧∃ i:Nat,y=(i:Int)∧i≤l.length∧(l.take i).all ok=true,fun y _=>l.length - y.toNat,⟨Heap.le.refl _,0,rfl,Nat.zero_le _,rfl⟩,?_⟩
 rintro _ D ⟨hD,i,rfl,hi,hall⟩
 rw [hlen]
 refine ift.of (fun h=>?_) (fun h=>?_)
 ·have hlt : i < l.length := by have := of_decide_eq_true h; omega
  refine SlIs.at_ hs (hA.trans (l1.trans hD)) (z:=1) (fun _=>rfl) (by omega) rfl hlt fun p y hy hr=>⟨y,hr 0 _ rfl,?_⟩
  rw [hy.1]
  have key:∀ Φ:Bool→Heap→Prop,(∀ D2,D.le D2→Φ (!ok l[i]) D2)→callU Tryz.prog C (.func (.func 190) (List.toArray []) (List.toArray [pv (some (b1,0))])) [sv l[i]] D (fun v H31=>∃ r30:Bool,v=.bool r30∧Φ r30 H31):=fun Φ hΦ=>by
   refine ⟨190,[],[pv (some (b1,0))],rfl,Qkd,?_⟩
   show QfW C l[i] (b1,0) Φ D
   apply Qj8
   unfold QfD
   refine ⟨e,by rw [QaC (hD _ _ c1)]; rfl,he _ (List.getElem_mem hlt) _ _ (hA.trans (l1.trans hD)) hy.2 ?_⟩
   exact hΦ _ (Heap.le.refl _)
  refine key _ fun D2 hD2=>?_
  refine ift.of (fun hb=>?_) (fun hb=>?_)
  ·have hf : ok l[i] = false := by simpa using hb
   rw [allNo hlt hf] at k
   have e0:decide ((i:Int) ≥ 0)=true:=decide_eq_true (by omega)
   dsimp only
   rw [e0]
   exact ⟨H,Gh.le (l1.trans (hD.trans hD2)),k⟩
  ·have hf : ok l[i] = true := by simpa using hb
   rw [Q4 (by omega) (by omega)]
   exact ⟨⟨hD.trans hD2,i+1,by omega,by omega,by rw [allTake hlt,hall,hf]; rfl⟩,by first | omega | (dsimp only; omega)⟩
 ·have hie : i = l.length := by have := of_decide_eq_false h; omega
  subst hie
  rw [List.take_length] at hall
  rw [hall] at k
  exact ⟨H,Gh.le (l1.trans hD),k⟩
theorem QrP {A B:Heap} {s:Sl} {l:List Str} {e:Value} {t:Str} {b:Nat} {K:Heap→Prop} (hs:StL A s l) (hW:Ww A B b t)
 (he:∀ v ∈ l,∀ (D:Heap) (u:Str) (Φ:Heap→Prop),Ww A D b u→u.length+v.length≤140737488355328→(∀ D2,Ww A D2 b (u++v)→Φ D2)→callU Tryz.prog C e [sv v] D (fun v H31=>v=.tuple #[]∧Φ H31))
 (hl:t.length+(jo [44,32] id 0 l).length+2≤140737488355328) (k:∀ D,Ww A D b (t++40::(jo [44,32] id 0 l++[41]))→K D):QcH C (some (b,0)) s e K B:=by
 apply Qh7
 unfold QeD
 refine ⟨_,rfl,hW.byte (c:=40) rfl (by omega) fun D1 h1=>?_⟩
 apply QkK
 unfold Qga
 have hlen:=SlIs.len hs
 have hbd:=SlIs.bd hs
 refine ⟨fun y D=>∃ i:Nat,y=(i:Int)∧i≤l.length∧Ww A D b (t++[40]++jo [44,32] id 0 (l.take i)),fun y _=>l.length - y.toNat,⟨0,rfl,Nat.zero_le _,by simpa [jo] using h1⟩,?_⟩
 rintro _ D ⟨i,rfl,hi,hD⟩
 rw [hlen]
 refine ift.of (fun h=>?_) (fun h=>?_)
 ·have hlt : i < l.length := by have := of_decide_eq_true h; omega
  have hp:=QtS (sep:=[44,32]) (f:=(id:Str→Str)) l (i+1)
  rw [QoV hlt] at hp
  simp only [List.length_append,id_eq] at hp
  refine SlIs.at_ hs hD.le (z:=1) (fun _=>rfl) (by omega) rfl hlt fun p y hy hr=>⟨y,hr 0 _ rfl,?_⟩
  rw [hy.1]
  refine ⟨fun _ E=>Ww A E b (t++[40]++jo [44,32] id 0 (l.take i)++(if i=0 then [] else [44,32])),?_,?_⟩
  ·refine ift.of (fun hp0 => ?_) (fun hp0 => ?_)
   ·have hi0 : i ≠ 0 := by have := of_decide_eq_true hp0; omega
    rw [if_neg hi0] at hp ⊢
    exact ⟨_,rfl,hD.str (by simp only [List.length_append,List.length_cons,List.length_nil] at hp ⊢; omega) fun E hE=>hE⟩
   ·have hi0 : i = 0 := by have := of_decide_eq_false hp0; omega
    rw [if_pos hi0,List.append_nil]; exact hD
  ·rintro _ E hE
   refine he _ (List.getElem_mem hlt) E _ _ hE (by simp only [List.length_append,List.length_cons,List.length_nil] at hp ⊢; omega) fun D3 h3=>?_
   rw [Q4 (by omega) (by omega)]
   refine ⟨⟨i+1,by omega,by omega,?_⟩,by first | omega | (dsimp only; omega)⟩
   rw [QoV hlt]
   simpa using h3
 ·have hie : i = l.length := by have := of_decide_eq_false h; omega
  subst hie
  rw [List.take_length] at hD
  refine ⟨_,rfl,hD.byte (c:=41) rfl (by simp only [List.length_append,List.length_singleton]; omega) fun D3 h3=>k D3 (by simpa using h3)⟩
/-- several texts, one behind the other -/
theorem QtD {B:Heap} {b b2 n:Nat} {ss:List Str} {t:Str} {cs:List Value} {A:Heap} {K:Heap→Prop} (hW:Ww A B b t) (hc:B b2=some (true,.row cs)) (hs:cs=ss.map sv) (hn:n=ss.length) (hb:n≤100) (hl:t.length+ss.flatten.length≤140737488355328) (k:∀ D,Ww (B.del b) D b (t++ss.flatten)→K D):QA C (some (b,0)) (Sl.of (some (b2,0)) n n) K B:=by
 subst hs; subst hn
 apply Qkb
 unfold QfG
 obtain ⟨hF,hAF⟩:=hW.full
 obtain ⟨g,hg⟩:=hW.bl.some
 have hbb:b2≠b:=fun e'=>by
  rw [e'] at hc
  rcases hW.bl with h | ⟨_,h⟩
  ·rw [h] at hc; injection hc with hc; injection hc with _ hc; cases hc
  ·rw [h] at hc; injection hc with hc; injection hc with _ hc; cases hc
 have hc2:(B.del b) b2=some (true,.row (ss.map sv)):=by rw [Heap.del_ne _ hbb]; exact hc
 have hpre:∀ i,(ss.take i).flatten.length≤ss.flatten.length:=fun i=>by
  have:=congrArg List.length (congrArg List.flatten (List.take_append_drop i ss))
  rw [List.flatten_append,List.length_append] at this; omega
 refine ⟨fun y D=>∃ i:Nat,y=(i:Int)∧i≤ss.length∧Ww (B.del b) D b (t++(ss.take i).flatten),fun y _=>ss.length - y.toNat,⟨0,rfl,Nat.zero_le _,by simpa using hF⟩,?_⟩
 rintro _ D ⟨i,rfl,hi,hD⟩
 refine ift.of (fun h=>?_) (fun h=>?_)
 ·have hlt : i < ss.length := by have := of_decide_eq_true h; simp only [Sl.of] at this; omega
  have hstep:(ss.take (i+1)).flatten=(ss.take i).flatten++ss[i]:=by rw [List.take_add_one,List.getElem?_eq_getElem hlt,Option.toList_some,List.flatten_append]; simp
  have hp:=hpre (i+1)
  rw [hstep,List.length_append] at hp
  refine ⟨(b2,0),rfl,rfl,by omega,by simp only [Sl.of]; omega,ss[i],?_,?_⟩
  ·show rd D (b2,0+(i:Int).toNat*1)=_
   rw [QaC (hD.le _ _ hc2),show 0+(i:Int).toNat*1=i by omega,List.getElem?_map,List.getElem?_eq_getElem hlt]; rfl
  ·refine ⟨_, rfl, hD.str (by simp only [List.length_append]; omega) fun E hE => ?_⟩
   rw [Q4 (by omega) (by omega)]
   refine ⟨⟨i+1,by omega,by omega,?_⟩,by first | omega | (dsimp only; omega)⟩
   rw [hstep,← List.append_assoc]; exact hE
 ·have hie : i = ss.length := by have := of_decide_eq_false h; simp only [Sl.of] at this; omega
  subst hie
  rw [List.take_length] at hD
  exact k D hD
end
end
section
open Go Go.Proofs
theorem jp {P:Prop} {R:Bool→Heap→Prop} {body:(Bool→Heap→Prop)→Prop} (H0:Heap) (h1:body (fun b E=>E=H0∧(b=true↔P))) (h2:∀ b,(b=true↔P)→R b H0):jn (α:=Bool) R body:=⟨fun b E=>E=H0∧(b=true↔P),h1,by rintro b _ ⟨rfl,h⟩; exact h2 b h⟩
theorem jw {R:Bool→Heap→Prop} {body:(Bool→Heap→Prop)→Prop} (v:Bool) (H0:Heap) (h1:body (fun b E=>H0.le E∧b=v)) (h2:∀ E,H0.le E→R v E):jn (α:=Bool) R body:=⟨fun b E=>H0.le E∧b=v,h1,by rintro _ _ ⟨h,rfl⟩; exact h2 _ h⟩
theorem ja {R:Bool→Heap→Prop} {x:Bool} (y:Bool) (H0:Heap) {A:(Bool→Heap→Prop)→Prop} (h:x=true→A (fun b E=>E=H0∧b=y)) (k:R (x && y) H0):jn (α:=Bool) R (fun J=>ift x (A J) (J false H0)):=
 ⟨fun b E=>E=H0∧b=(x && y),ift.of (fun hx=>by cases hx; exact h rfl) (fun hx=>⟨rfl,by rw [hx]; rfl⟩),by rintro _ _ ⟨rfl,rfl⟩; exact k⟩
theorem jo' {R:Bool→Heap→Prop} {x:Bool} (y:Bool) (H0:Heap) {A:(Bool→Heap→Prop)→Prop} (h:x=false→A (fun b E=>E=H0∧b=y)) (k:R (x || y) H0):jn (α:=Bool) R (fun J=>ift x (J true H0) (A J)):=
 ⟨fun b E=>E=H0∧b=(x || y),ift.of (fun hx=>⟨rfl,by rw [hx]; rfl⟩) (fun hx=>by cases hx; exact h rfl),by rintro _ _ ⟨rfl,rfl⟩; exact k⟩
theorem ix0 {s:Str} {K:UInt8→Prop} (h:s≠[]) (k:K (s.headD 0)):ixs s 0 K:=by
 cases s with
 | nil=>exact absurd rfl h
 | cons c t=>exact ⟨c,by omega,rfl,k⟩
theorem Qla (s:Str):(s == ([]:Str))=s.isEmpty:=by cases s <;> rfl
theorem QuU {x:Qf} (i:Nat) (u:Value) (hi:(Qd.c x.Type_)[i]? = some u):(Qf.c x)[1+i]? = some u:=by
 match i,hi with
 | 0,hi=>exact hi
 | 1,hi=>exact hi
 | i+2,hi=>simp [Qd.c] at hi
theorem Qu0 {x:Qb} (i:Nat) (u:Value) (hi:(Qe.c x.Value_)[i]? = some u):(Qb.c x)[4+i]? = some u:=by
 match i,hi with
 | 0,hi=>exact hi
 | 1,hi=>exact hi
 | 2,hi=>exact hi
 | 3,hi=>exact hi
 | i+4,hi=>simp [Qe.c] at hi
theorem Qt6 (v:TyV):tyD v=mxL tyD v.a+1:=by
 obtain ⟨n,a⟩:=v
 have:∀ l,tysD l=mxL tyD l:=fun l=>by
  induction l with
  | nil=>rfl
  | cons v l ih=>simp only [tysD,mxL,ih]
 simp only [tyD,TyV.a,this]
theorem QoL (l:List ExV):exsD l=mxL exD l:=by
 induction l with
 | nil=>rfl
 | cons v l ih=>simp only [exsD,mxL,ih]
theorem QtL (v:ExV):exD v=mxL exD v.a+1:=by
 obtain ⟨k,n,u,a⟩:=v
 simp only [exD,ExV.a,QoL]
section
variable {C:Ctx} {H A:Heap}
theorem box1 {cx:List Value} {K:Nat→Heap→Prop} (k:∀ b1 H2,H.le H2→H2 b1=some (true,.row cx)→K b1 H2):nw cx K H:=fun b n=>k b _ (Heap.le_put n) (Heap.put_same ..)
theorem fB0 {b:Nat} {m:Bool} {t:Bool} {K:Bool→Prop} (h:H b=some (m,.row [.bool t])) (k:K t):ldB H (b,0) K:=⟨t,by rw [QaC h]; rfl,k⟩
theorem QpU:∀ (v:TyV) {x:Qd} {H:Heap} {K:Int→Heap→Prop},TyIs A v x→A.le H→tyD v≤4611686018427387904→K (tyD v:Nat) H→Qbf C x K H:=by
 refine TyV.rec_ fun v ih x H K hx hA hb k=>?_
 have hx':=Qej.1 hx
 apply Qbf.gh
 apply QlN
 unfold QhW
 rw [Qt6] at hb k
 refine box1 fun b1 H2 hle h1=>fL h1 rfl ?_
 refine Qum hx'.2 (hA.trans hle) (d:=tyD) (fun w hw x D Φ hD hR hΦ=>cu QhL (ih w hw hR hD (by have:=Qkk (f:=tyD) hw; omega) hΦ)) ?_
 rw [Q4 (by omega) (by omega)]
 have e:(1+(mxL tyD v.a:Nat):Int)=((mxL tyD v.a+1:Nat):Int):=by omega
 rw [e]; exact ⟨H,Gh.le hle,k⟩
theorem Qs9:∀ (v:ExV) {x:Qb} {H:Heap} {K:Int→Heap→Prop},ExIs A v x→A.le H→exD v≤4611686018427387904→K (exD v:Nat) H→QdW C x K H:=by
 refine ExV.rec_ fun v ih x H K hx hA hb k=>?_
 have hx':=Qei.1 hx
 apply QdW.gh
 apply Qoy
 unfold Qlw
 rw [QtL] at hb k
 refine box1 fun b1 H2 hle h1=>fL h1 rfl ?_
 refine QrV hx'.2.2.2.2 (hA.trans hle) (d:=exD) (fun w hw x D Φ hD hR hΦ=>cu Qlm (ih w hw hR hD (by have:=Qkk (f:=exD) hw; omega) hΦ)) ?_
 rw [Q4 (by omega) (by omega)]
 have e:(1+(mxL exD v.a:Nat):Int)=((mxL exD v.a+1:Nat):Int):=by omega
 rw [e]; exact ⟨H,Gh.le hle,k⟩
theorem Qm2 {l:List ExV} {s:Sl} {K:Int→Heap→Prop} (hs:ExL A s l) (hA:A.le H) (hb:exsD l≤4611686018427387904) (k:K (exsD l:Nat) H):QC C s (.func (.func 115) (List.toArray []) (List.toArray []):Value) K H:=by
 rw [QoL] at k hb
 exact QrV hs hA (d:=exD) (fun w hw x D Φ hD hR hΦ=>cu Qlm (Qs9 w hR hD (by have:=Qkk (f:=exD) hw; omega) hΦ)) k
theorem QoQ {v:FdV} {x:Qf} {K:Int→Heap→Prop} (hx:FdIs A v x) (hA:A.le H) (hb:tyD v.t≤4611686018427387904) (k:K (tyD v.t:Nat) H):Qbr C x K H:=by
 apply Qbr.gh
 apply Qk4
 unfold QgC
 exact box1 fun b1 H2 hle h1=>fT h1 QuU (QpU v.t hx.2 (hA.trans hle) hb ⟨H,Gh.le hle,k⟩)
theorem Qkj {l:List FdV} {s:Sl} {K:Int→Heap→Prop} (hs:FdL A s l) (hA:A.le H) (hb:fdsD l≤4611686018427387904) (k:K (fdsD l:Nat) H):Qx C s (.func (.func 109) (List.toArray []) (List.toArray []):Value) K H:=
 Qp7 hs hA (d:=fun f:FdV=>tyD f.t) (fun w hw x D Φ hD hR hΦ=>cu Qln (QoQ hR hD (by have:=Qkk (f:=fun f:FdV=>tyD f.t) hw; unfold fdsD at hb; omega) hΦ)) k
theorem Qnd {v:LiV} {x:Qk} {K:Int→Heap→Prop} (hx:LiIs A v x) (hA:A.le H) (hb:liD v≤4611686018427387904) (k:K (liD v:Nat) H):QaZ C x K H:=by
 apply QaZ.gh
 apply Qj9
 unfold QfE
 exact box1 fun b1 H2 hle h1=>fL h1 rfl (Qm2 hx.2.2 (hA.trans hle) hb ⟨H,Gh.le hle,k⟩)
theorem Qnc {l:List LiV} {s:Sl} {K:Int→Heap→Prop} (hs:LiL A s l) (hA:A.le H) (hb:lisD l≤4611686018427387904) (k:K (lisD l:Nat) H):Qz C s (.func (.func 117) (List.toArray []) (List.toArray []):Value) K H:=
 Qrf hs hA (d:=liD) (fun w hw x D Φ hD hR hΦ=>cu Qke (Qnd hR hD (by have:=Qkk (f:=liD) hw; unfold lisD at hb; omega) hΦ)) k
theorem QrS {v:CnV} {x:Qg} {K:Int→Heap→Prop} (hx:CnIs A v x) (hA:A.le H) (hb:fdsD v.f≤4611686018427387904) (k:K (fdsD v.f:Nat) H):QbV C x K H:=by
 apply QbV.gh
 apply Qmm
 unfold QiD
 exact box1 fun b1 H2 hle h1=>fL h1 rfl (Qkj hx.2 (hA.trans hle) hb ⟨H,Gh.le hle,k⟩)
theorem Qs5 {v:TdV} {x:Qc} {K:Int→Heap→Prop} (hx:TdIs A v x) (hA:A.le H) (hb:tdD v≤4611686018427387904) (k:K (tdD v:Nat) H):Qdi C x K H:=by
 apply Qdi.gh
 apply QnL
 unfold Qky
 exact box1 fun b1 H2 hle h1=>fL h1 rfl (Qre hx.2.2.2 (hA.trans hle) (d:=fun c:CnV=>fdsD c.f) (fun w hw x D Φ hD hR hΦ=>cu Qmt (QrS hR hD (by have:=Qkk (f:=fun c:CnV=>fdsD c.f) hw; unfold tdD at hb; omega) hΦ)) ⟨H,Gh.le hle,k⟩)
theorem Qs6 {v:RdV} {x:Qh} {K:Int→Heap→Prop} (hx:RdIs A v x) (hA:A.le H) (hb:fdsD v.f≤4611686018427387904) (k:K (fdsD v.f:Nat) H):Qdj C x K H:=by
 apply Qdj.gh
 apply QnM
 unfold Qkz
 exact box1 fun b1 H2 hle h1=>fL h1 rfl (Qkj hx.2.2.2 (hA.trans hle) hb ⟨H,Gh.le hle,k⟩)
theorem ifmax (a b:Nat):(if ((b:Nat):Int) > ((a:Nat):Int) then ((b:Nat):Int) else ((a:Nat):Int))=((max a b:Nat):Int):=by split <;> omega
theorem Qs7 {v:RuV} {x:Qj} {K:Int→Heap→Prop} (hx:RuIs A v x) (hA:A.le H) (hb:ruD v≤4611686018427387904) (k:K (ruD v:Nat) H):Qdk C x K H:=by
 apply Qdk.gh
 apply QnN
 unfold QkA
 unfold ruD at hb
 refine box1 fun b1 H2 hle h1=>⟨H2,Heap.le.refl _,fL h1 rfl (fL h1 rfl ?_)⟩
 refine Qm2 hx.2.1 (hA.trans hle) (by omega) ⟨Heap.le.refl _,Qnc hx.2.2.2 (hA.trans hle) (by omega) ⟨Heap.le.refl _,?_⟩⟩
 dsimp only
 rw [ifmax]; exact ⟨H,Gh.le hle,k⟩
theorem Qs8 {v:NeV} {x:Qm} {K:Int→Heap→Prop} (hx:NeIs A v x) (hA:A.le H) (hb:lisD v.b≤4611686018427387904) (k:K (lisD v.b:Nat) H):Qdl C x K H:=by
 apply Qdl.gh
 apply QnO
 unfold QkB
 exact box1 fun b1 H2 hle h1=>fL h1 rfl (Qnc hx.2 (hA.trans hle) hb ⟨H,Gh.le hle,k⟩)
theorem Quk {v:MoV} {x:Qa} {K:Int→Heap→Prop} (hx:MoIs A v x) (hA:A.le H) (hb:moD v≤4611686018427387904) (k:K (moD v:Nat) H):QdT C x K H:=by
 apply QdT.gh
 apply Qph
 unfold Ql7
 unfold moD at hb k
 refine box1 fun b1 H2 hle h1=>⟨H2,Heap.le.refl _,fL h1 rfl (fL h1 rfl (fL h1 rfl (fL h1 rfl ?_)))⟩
 have hA2:=hA.trans hle
 refine Qrg hx.2.2.1 hA2 (d:=tdD) (fun w hw x D Φ hD hR hΦ=>cu QnW (Qs5 hR hD (by have:=Qkk (f:=tdD) hw; omega) hΦ)) ⟨Heap.le.refl _,?_⟩
 refine QrW hx.2.2.2.1 hA2 (d:=fun r:RdV=>fdsD r.f) (fun w hw x D Φ hD hR hΦ=>cu QnX (Qs6 hR hD (by have:=Qkk (f:=fun r:RdV=>fdsD r.f) hw; omega) hΦ)) ⟨Heap.le.refl _,?_⟩
 refine Qul hx.2.2.2.2.1 hA2 (d:=ruD) (fun w hw x D Φ hD hR hΦ=>cu QnY (Qs7 hR hD (by have:=Qkk (f:=ruD) hw; omega) hΦ)) ⟨Heap.le.refl _,?_⟩
 refine Qta hx.2.2.2.2.2 hA2 (d:=fun n:NeV=>lisD n.b) (fun w hw x D Φ hD hR hΦ=>cu QnZ (Qs8 hR hD (by have:=Qkk (f:=fun n:NeV=>lisD n.b) hw; omega) hΦ)) ⟨Heap.le.refl _,?_⟩
 have e:max4 ((mxL tdD v.ty:Nat):Int) ((mxL (fun r:RdV=>fdsD r.f) v.re:Nat):Int) ((mxL ruD v.ru:Nat):Int) ((mxL (fun n:NeV=>lisD n.b) v.ne:Nat):Int)=((max (max (mxL tdD v.ty) (mxL (fun r:RdV=>fdsD r.f) v.re)) (max (mxL ruD v.ru) (mxL (fun n:NeV=>lisD n.b) v.ne)):Nat):Int):=by unfold max4; omega
 rw [e]; exact ⟨H,Gh.le hle,k⟩
theorem QsH {s:Str} {K:Bool→Heap→Prop} (hs:s.length≤140737488355328) (k:K (s.all nameC && decide (s.length≤32)) H):Qii C s K H:=by
 apply Qpm
 unfold Qmc
 refine ⟨fun x D=>D=H∧∃ i:Nat,x=(i:Int)∧i≤s.length∧(s.take i).all nameC=true,fun x _=>s.length - x.toNat,⟨rfl,0,rfl,Nat.zero_le _,rfl⟩,?_⟩
 rintro _ D ⟨rfl,i,rfl,hi,ha⟩
 refine ift.of (fun h=>?_) (fun h=>?_)
 ·have hlt : i < s.length := by have := of_decide_eq_true h; omega
  refine ⟨s[i],by omega,getE hlt,?_⟩
  dsimp only
  have hm:=List.getElem_mem hlt
  have hat:=Qqu (p:=nameC) hlt
  generalize s[i]=c at *
  have e:((((decide ((c.toNat:Int) ≥ 97)) && (decide ((c.toNat:Int)≤122))) || ((decide ((c.toNat:Int) ≥ 65)) && (decide ((c.toNat:Int)≤90)))) || ((decide ((c.toNat:Int) ≥ 48)) && (decide ((c.toNat:Int)≤57)))  || ((c.toNat:Int) == 95))=nameC c:=by
   unfold nameC lowC
   have h1:decide ((c.toNat:Int) ≥ 65)=decide (65≤c.toNat):=by rw [decide_eq_decide]; omega
   have h2:decide ((c.toNat:Int)≤90)=decide (c.toNat≤90):=by rw [decide_eq_decide]; omega
   have h3:decide ((c.toNat:Int) ≥ 48)=decide (48≤c.toNat):=by rw [decide_eq_decide]; omega
   have h4:decide ((c.toNat:Int)≤57)=decide (c.toNat≤57):=by rw [decide_eq_decide]; omega
   have h5:((c.toNat:Int) == 95)=decide (c.toNat=95):=by
    rw [Bool.eq_iff_iff]; simp only [beq_iff_eq,decide_eq_true_eq]; omega
   have h6:decide ((c.toNat:Int) ≥ 97)=decide (97≤c.toNat):=by rw [decide_eq_decide]; omega
   have h7:decide ((c.toNat:Int)≤122)=decide (c.toNat≤122):=by rw [decide_eq_decide]; omega
   rw [h1,h2,h3,h4,h5,h6,h7]
  rw [e]
  refine ift.of (fun h=>?_) (fun h=>?_)
  ·rw [QtK hm (by simpa using h)] at k; exact k
  ·rw [Q4 (by omega) (by omega)]
   refine ⟨⟨rfl,i+1,by omega,by omega,?_⟩,by first | omega | (dsimp only; omega)⟩
   rw [hat,ha]; simpa using h
 ·have hie : i = s.length := by have := of_decide_eq_false h; omega
  rw [hie,List.take_length] at ha
  rw [ha] at k
  have e:decide ((s.length:Int)≤32)=decide (s.length≤32):=by rw [decide_eq_decide]; omega
  rw [e]; exact k
theorem Qu8 {s:Str} {p:Bool} (h:((!(s == ([]:Str))) && p)=true):s≠[]:=fun e=>by rw [e] at h; simp at h
theorem Qfr {s t:Str} {K:Bool→Heap→Prop} (hT:MaxC C) (ht:Nm t s) (k:K (namS s) H):Qa0 C t K H:=by
 obtain ⟨rfl,hs⟩:=ht
 apply Qpl
 unfold Qmb
 refine ja (decide (97≤(t.headD 0).toNat)) H (fun h=>ix0 (fun e=>by rw [e] at h; simp at h) ⟨rfl,by rw [decide_eq_decide]; omega⟩) ?_
 refine ja (decide ((t.headD 0).toNat≤122)) H (fun h=>ix0 (Qu8 h) ⟨rfl,by rw [decide_eq_decide]; omega⟩) ?_
 refine ja (t.all nameC && decide (t.length≤32)) H (fun h=>QsH hs ⟨rfl,rfl⟩) ?_
 refine ja (!resW.contains t) H (fun h=>?_) ?_
 ·simp only [Bool.and_eq_true,decide_eq_true_eq] at h
  have h32:=h.2.2
  refine ⟨by simp [catOk]; omega,by simp [catOk]; omega,?_⟩
  rw [← Quf]
  have hbl:(blk resW).length < 4294967281:=by decide
  refine Qn3 hT hbl ?_
  rw [Qvt h.2.1]; exact ⟨rfl,rfl⟩
 have e:(((((!(t == ([]:Str))) && decide (97≤(t.headD 0).toNat)) && decide ((t.headD 0).toNat≤122)) && (t.all nameC && decide (t.length≤32))) && !resW.contains t)=namS t:=by
  unfold namS nameS lowC
  rw [Qla,Bool.eq_iff_iff]
  simp only [Bool.and_eq_true]
  constructor
  ·rintro ⟨⟨⟨⟨a,b⟩,c⟩,d,e⟩,f⟩; exact ⟨⟨⟨⟨a,e⟩,b,c⟩,d⟩,f⟩
  ·rintro ⟨⟨⟨⟨a,e⟩,b,c⟩,d⟩,f⟩; exact ⟨⟨⟨⟨a,b⟩,c⟩,d,e⟩,f⟩
 rw [e]; exact k
theorem QoY {s t:Str} {K:Bool→Heap→Prop} (hT:MaxC C) (ht:Nm t s) (k:K (longS s) H):QeV C t K H:=by
 obtain ⟨rfl,hs⟩:=ht
 apply Qpk
 unfold Qma
 refine Qm0 hs ?_
 unfold longS at k
 cases hc:cutD t with
 | none=>
  rw [hc] at k
  refine Qfr hT ⟨rfl,hs⟩ ?_
  refine ja true H (fun h=>jo' true H (fun h=>(nomatch h)) ⟨rfl,rfl⟩) ?_
  rw [Bool.and_true]; exact k
 | some p=>
  obtain ⟨a,b⟩:=p
  rw [hc] at k
  have hl:=QoI hc
  refine Qfr hT ⟨rfl,by omega⟩ ?_
  exact ja (namS b) H (fun h=>jo' (namS b) H (fun h=>Qfr hT ⟨rfl,by omega⟩ ⟨rfl,rfl⟩) ⟨rfl,rfl⟩) k
theorem QnC {s t:Str} {K:Bool→Heap→Prop} (ht:Nm t s) (k:K (varS s) H):Qep C t K H:=by
 obtain ⟨rfl,hs⟩:=ht
 apply Qmp
 unfold QiG
 refine ja (decide (65≤(t.headD 0).toNat)) H (fun h=>ix0 (fun e=>by rw [e] at h; simp at h) ⟨rfl,by rw [decide_eq_decide]; omega⟩) ?_
 refine ja (decide ((t.headD 0).toNat≤90)) H (fun h=>ix0 (Qu8 h) ⟨rfl,by rw [decide_eq_decide]; omega⟩) ?_
 refine ja (t.all nameC && decide (t.length≤32)) H (fun h=>QsH hs ⟨rfl,rfl⟩) ?_
 have e:((((!(t == ([]:Str))) && decide (65≤(t.headD 0).toNat)) && decide ((t.headD 0).toNat≤90)) && (t.all nameC && decide (t.length≤32)))=varS t:=by
  unfold varS upC
  rw [Qla,Bool.eq_iff_iff]
  simp only [Bool.and_eq_true]
  constructor
  ·rintro ⟨⟨⟨a,b⟩,c⟩,d,e⟩; exact ⟨⟨⟨a,e⟩,b,c⟩,d⟩
  ·rintro ⟨⟨⟨a,e⟩,b,c⟩,d⟩; exact ⟨⟨⟨a,b⟩,c⟩,d,e⟩
 rw [e]; exact k
theorem QqY {s t:Str} {K:Bool→Heap→Prop} (hT:MaxC C) (ht:Nm t s) (k:K (parS s) H):Qjm C t K H:=by
 obtain ⟨rfl,hs⟩:=ht
 apply Qoz
 unfold Qlx
 apply Qfu
 unfold QdC
 refine Qjo ?_
 refine ja (namS (t.drop 1)) H (fun h=>?_) ?_
 ·have hl : 1 ≤ t.length := by have := (List.isPrefixOf_iff_prefix.1 h).length_le; simpa using this
  refine ⟨by omega,by omega,by omega,t.drop 1,by simp,Qfr hT ⟨rfl,by simp; omega⟩ ⟨rfl,rfl⟩⟩
 have e:(([39]:Str).isPrefixOf t && namS (t.drop 1))=parS t:=by
  cases t with
  | nil=>rfl
  | cons c t=>
   simp only [List.isPrefixOf,parS,List.drop_succ_cons,List.drop_zero,Bool.and_true]
   rw [show ((39:UInt8) == c)=decide (c=39) by rw [Bool.eq_iff_iff,beq_iff_eq,decide_eq_true_eq]; exact eq_comm]
 rw [e]; exact k
theorem Qm6 {s:Str} {K:Bool→Heap→Prop} (k:K (funB s) H):Qeo C s K H:=by
 apply Qmo
 unfold QiF
 have e:((((s == ([110,101,103]:Str)) || (s == ([108,101,110]:Str))) || (s == ([98,105,103]:Str))) || (s == ([105,110,116]:Str)))=funB s:=by
  unfold funB negS lenS bigS intS
  rw [Bool.eq_iff_iff]; simp only [Bool.or_eq_true,beq_iff_eq,decide_eq_true_eq,or_assoc]
 rw [e]; exact k
end
end
section
open Go Go.Proofs
/-- the table: how many arguments -/
def arL (k:Str):Option Int:=if opsW.contains k then some 2 else if k=intS then some 1 else if k=bigS then some 1 else if k=lenS then some 1 else if k=negS then some 1 else if k=notS then some 1 else none
theorem Qu6 (k:Str):arL k=if arS k=0 then none else some (arS k:Nat):=by
 unfold arL arS
 by_cases h:opsW.contains k=true
 ·rw [if_pos h,if_pos h]; rfl
 rw [if_neg h,if_neg h]
 unfold funB
 by_cases h1:k=intS
 ·rw [if_pos h1]; subst h1; rfl
 rw [if_neg h1]
 by_cases h2:k=bigS
 ·rw [if_pos h2]; subst h2; rfl
 rw [if_neg h2]
 by_cases h3:k=lenS
 ·rw [if_pos h3]; subst h3; rfl
 rw [if_neg h3]
 by_cases h4:k=negS
 ·rw [if_pos h4]; subst h4; rfl
 rw [if_neg h4]
 by_cases h5:k=notS
 ·rw [if_pos h5]; subst h5; rfl
 rw [if_neg h5]
 have:¬ (k=notS∨decide (k=negS∨k=lenS∨k=bigS∨k=intS)=true):=by
  rintro (h | h)
  ·exact h5 h
  ·rcases of_decide_eq_true h with h | h | h | h
   ·exact h4 h
   ·exact h3 h
   ·exact h2 h
   ·exact h1 h
 rw [if_neg this]; rfl
theorem QpV:∀ l,tysOk l=l.all tyOk
 | []=>rfl
 | v::l=>by simp only [tysOk,List.all_cons,QpV l]
theorem QfX (p:Bool):∀ l,exsOk p l=l.all (exOk p)
 | []=>rfl
 | v::l=>by simp only [exsOk,List.all_cons,QfX p l]
theorem QsS (v:TyV):tyOk v=(tyN v.n v.a.length && v.a.all tyOk):=by obtain ⟨n,a⟩:=v; simp only [tyOk,QpV,TyV.n,TyV.a]
theorem QoK (p:Bool) (v:ExV):exOk p v=if v.k=1 then litV v.v && decide (v.a.length=0) && v.n.isEmpty else exN p v.k v.n v.a.length && noV v.v && v.a.all (exOk p):=by obtain ⟨k,n,u,a⟩:=v; simp only [exOk,QfX,ExV.n,ExV.a,ExV.k,ExV.v]; rfl
theorem lenI {n m:Nat}:(((n:Nat):Int) == (m:Int))=decide (n=m):=by rw [Bool.eq_iff_iff,beq_iff_eq,decide_eq_true_eq]; omega
theorem lenN {n m:Nat}:(((n:Nat):Int) != (m:Int))=decide (n≠m):=by rw [Bool.eq_iff_iff,bne_iff_ne,decide_eq_true_eq]; omega
theorem lenL {n m:Nat}:decide (((n:Nat):Int)≤(m:Int))=decide (n≤m):=by rw [decide_eq_decide]; omega
section
variable {C:Ctx} {H A:Heap}
theorem Qoq {H D : Heap} {b : Nat} {l : List (Str × Int)} {f : Str → Option Int} {k : Str} {x : Int} {K : Heap → Prop} (nb : H b = none) (hle : H.le D) (hm : MapS sv (fun x : Int => (.int .i64 x : Value)) D b l) (hf : ∀ k2, lkL k2 l = f k2)
 (kk:∀ D2 l2,H.le D2→MapS sv (fun x:Int=>(.int .i64 x:Value)) D2 b l2→(∀ k2,lkL k2 l2=if k2=k then some x else f k2)→(∀ c,c≠b→D2 c=D c)→K D2):upS sv (fun x:Int=>(.int .i64 x:Value)) (some b) k x K D:=
 ⟨b,l,rfl,hm,fun g l2 hm2 hk _=>kk _ _ (hle.put _ _ nb) hm2 (fun k2=>by rw [hk,hf]) (fun c hc=>Heap.put_ne _ _ _ hc)⟩
theorem Qs3 {K:Option Nat→Heap→Prop} (k:∀ (b:Nat) (D:Heap) (l:List (Str×Int)),H.le D→MapIs sv (fun x:Int=>(.int .i64 x:Value)) D b l→(∀ k2,lkL k2 l=arL k2)→K (some b) D):Qjl C K H:=by
 apply Qox
 unfold Qlv
 intro b nb
 refine Qoq nb ((Heap.le.refl H).put _ _ nb) MapS.new (f:=fun _=>none) (fun _=>rfl) fun D1 l1 h1 m1 f1 _=>?_
 refine Qoq nb h1 m1 f1 fun D2 l2 h2 m2 f2 _=>?_
 refine Qoq nb h2 m2 f2 fun D3 l3 h3 m3 f3 _=>?_
 refine Qoq nb h3 m3 f3 fun D4 l4 h4 m4 f4 _=>?_
 refine Qoq nb h4 m4 f4 fun D5 l5 h5 m5 f5 _=>?_
 intro b8 n8
 have ne:b8≠b:=fun e=>by
  obtain ⟨g,hg⟩:=m5.is.mine
  rw [← e,n8] at hg; cases hg
 have h6:=h5.trans (Heap.le_put n8 (m:=true) (g:=.row (opsW.map sv)))
 have m6:=m5.le (Heap.le_put n8 (m:=true) (g:=.row (opsW.map sv)))
 have c6:(D5.put b8 (.row (opsW.map sv))) b8=some (true,.row (opsW.map sv)):=Heap.put_same ..
 have hol:opsW.length=14:=rfl
 refine ⟨fun y D=>∃ (i:Nat) (l:List (Str×Int)),y=(i:Int)∧i≤14∧H.le D∧MapS sv (fun x:Int=>(.int .i64 x:Value)) D b l∧D b8=some (true,.row (opsW.map sv))∧(∀ k2,lkL k2 l=if (opsW.take i).contains k2 then some 2 else lkL k2 l5),fun y _=>14 - y.toNat,⟨0,l5,rfl,by omega,h6,m6,c6,fun k2=>by simp⟩,?_⟩
 rintro _ D ⟨i,l,rfl,hi,hD,hm,hc,hf⟩
 refine ift.of (fun h=>?_) (fun h=>?_)
 ·have hlt : i < 14 := by have := of_decide_eq_true h; simp only [Sl.of] at this; omega
  refine ⟨(b8, 0), rfl, rfl, by omega, by simp only [Sl.of]; omega, opsW[i]'(by omega), ?_, ?_⟩
  ·show rd D (b8,0+(i:Int).toNat*1)=_
   rw [QaC hc,show 0+(i:Int).toNat*1=i by omega,List.getElem?_map,List.getElem?_eq_getElem (by omega)]; rfl
  ·refine Qoq nb hD hm hf fun D2 l2 h2 m2 f2 o2 => ?_
   rw [Q4 (by omega) (by omega)]
   refine ⟨⟨i+1,l2,by omega,by omega,h2,m2,by rw [o2 _ ne]; exact hc,fun k2=>?_⟩,by first | omega | (dsimp only; omega)⟩
   rw [f2,List.take_add_one,List.getElem?_eq_getElem (by omega:i < opsW.length),Option.toList_some]
   by_cases hk : k2 = opsW[i]'(by omega)
   ·rw [if_pos hk,if_pos (by rw [List.contains_iff_mem,hk]; exact List.mem_append.2 (.inr (List.mem_singleton.2 rfl)))]
   ·rw [if_neg hk]
    have : (opsW.take i ++ [opsW[i]'(by omega)]).contains k2 = (opsW.take i).contains k2 := by
     rw [Bool.eq_iff_iff,List.contains_iff_mem,List.contains_iff_mem,List.mem_append,List.mem_singleton]; exact ⟨fun h=>h.resolve_right hk,.inl⟩
    rw [this]
 ·have hie : i = 14 := by have := of_decide_eq_false h; simp only [Sl.of] at this; omega
  subst hie
  refine k b D l hD hm.is fun k2=>?_
  rw [hf,show opsW.take 14=opsW from rfl,f5]; rfl
theorem Qu3 {v:V} {x:TV} {K:Bool→Heap→Prop} (hx:VIs A v x) (k:K (noV v) H):QdV C x K H:=by
 have hx':=QhZ.1 hx
 apply QdV.gh
 apply Qpo
 unfold Qme
 refine box1 fun b1 H2 hle h1=>fI h1 rfl ?_
 refine ja (decide (v.n=0)) H2 (fun _=>fI h1 rfl ⟨rfl,by rw [hx'.2.1]; rfl⟩) ?_
 refine ja v.s.isEmpty H2 (fun _=>fS h1 rfl ⟨rfl,by rw [hx'.2.2.1,Qla]⟩) ?_
 refine ja (decide (v.l.length=0)) H2 (fun _=>fL h1 rfl ⟨rfl,by rw [hx'.2.2.2.len]; exact lenI (m:=0)⟩) ?_
 rw [hx'.1]
 have e:((v.k == 0 && decide (v.n=0)) && v.s.isEmpty && decide (v.l.length=0))=noV v:=rfl
 rw [e]; exact ⟨H,Gh.le hle,k⟩
theorem QtH (hT:MaxC C):∀ (v:TyV) {x:Qd} {H:Heap} {K:Bool→Heap→Prop},TyIs A v x→A.le H→K (tyOk v) H→Qc4 C x K H:=by
 refine TyV.rec_ fun v ih x H K hx hA k=>?_
 have hx':=Qej.1 hx
 have hlen:=hx'.2.len
 apply Qc4.gh
 apply QoA
 unfold Qly
 rw [QsS] at k
 refine box1 fun b1 H2 hle h1=>fL h1 rfl (fS h1 rfl ?_)
 have hall:∀ {K:Bool→Heap→Prop},K (v.a.all tyOk) H2→QZ C x.Args (.func (.func 133) (List.toArray []) (List.toArray []):Value) K H2:=fun k=>Que hx'.2 (hA.trans hle) (ok:=tyOk) (fun w hw y D Φ hD hR hΦ=>cu Qlp (ih w hw hR hD hΦ)) k
 rw [hlen]
 have e1:=hx'.1.1
 refine jp (P:=v.n=boolS∨v.n=intS∨v.n=bigS∨v.n=textS) H2 ?_ fun b hb=>?_
 ·rw [e1]
  refine ift.of (fun h=>⟨rfl,⟨fun _=>.inl (beq_iff_eq.1 h),fun _=>h⟩⟩) fun h1=>?_
  refine ift.of (fun h=>⟨rfl,⟨fun _=>.inr (.inl (beq_iff_eq.1 h)),fun _=>h⟩⟩) fun h2=>?_
  refine ift.of (fun h=>⟨rfl,⟨fun _=>.inr (.inr (.inl (beq_iff_eq.1 h))),fun _=>h⟩⟩) fun h3=>⟨rfl,⟨fun h=>.inr (.inr (.inr (beq_iff_eq.1 h))),fun h=>?_⟩⟩
  rcases h with h | h | h | h
  ·rw [h] at h1; cases h1
  ·rw [h] at h2; cases h2
  ·rw [h] at h3; cases h3
  ·rw [h]; rfl
 refine ift.of (fun h=>?_) (fun h=>?_)
 ·have hp:=hb.1 h
  have e:(tyN v.n v.a.length && v.a.all tyOk)=(((v.a.length:Nat):Int) == 0):=by
   unfold tyN
   rw [if_pos hp,show (((v.a.length:Nat):Int) == 0)=decide (v.a.length=0) from lenI (m:=0)]
   cases ha:v.a with
   | nil=>rfl
   | cons w l=>simp
  rw [← e]; exact ⟨H,Gh.le hle,k⟩
 have hp:¬ (v.n=boolS∨v.n=intS∨v.n=bigS∨v.n=textS):=fun p=>by rw [hb.2 p] at h; cases h
 unfold tyN at k
 rw [if_neg hp] at k
 refine ift.of (fun h=>?_) (fun h=>?_)
 ·rw [e1] at h
  rw [if_pos (show v.n=tupS from beq_iff_eq.1 h)] at k
  refine ja (v.a.all tyOk) H2 (fun _=>fL h1 rfl (hall ⟨rfl,rfl⟩)) ?_
  rw [show (((v.a.length:Nat):Int) != 1)=decide (v.a.length≠1) from lenN (m:=1),show decide (((v.a.length:Nat):Int)≤16)=decide (v.a.length≤16) from lenL (m:=16)]
  exact ⟨H,Gh.le hle,k⟩
 ·rw [e1] at h
  rw [if_neg (fun e:v.n=tupS=>by rw [e] at h; exact absurd h (by decide))] at k
  refine fS h1 rfl (QqY hT hx'.1 ?_)
  rw [show (((v.a.length:Nat):Int) == 0)=decide (v.a.length=0) from lenI (m:=0),show decide (((v.a.length:Nat):Int)≤8)=decide (v.a.length≤8) from lenL (m:=8)]
  refine jo' ((longS v.n && decide (v.a.length≤8)) && v.a.all tyOk) H2 (fun _=>fS h1 rfl (QoY hT hx'.1 ?_)) ?_
  ·exact ja (v.a.all tyOk) H2 (fun _=>fL h1 rfl (hall ⟨rfl,rfl⟩)) ⟨rfl,rfl⟩
  have e:((parS v.n && decide (v.a.length=0)) || ((longS v.n && decide (v.a.length≤8)) && v.a.all tyOk))=((parS v.n && decide (v.a.length=0) || longS v.n && decide (v.a.length≤8)) && v.a.all tyOk):=by
   cases hp:(parS v.n && decide (v.a.length=0)) with
   | false=>simp
   | true=>
    have h0:v.a.length=0:=by simp only [Bool.and_eq_true,decide_eq_true_eq] at hp; exact hp.2
    rw [List.length_eq_zero_iff.1 h0]; simp
  rw [e]; exact ⟨H,Gh.le hle,k⟩
theorem exN2 {p n m}:exN p 2 n m=(varS n && decide (m=0)):=rfl
theorem exN3 {p n m}:exN p 3 n m=(p && n.isEmpty && decide (m=0)):=rfl
theorem exN4 {p n m}:exN p 4 n m=(n.isEmpty && decide (m≠1) && decide (m≤16)):=rfl
theorem exN5 {p n m}:exN p 5 n m=(longS n && decide (m≤8)):=rfl
theorem exN6 {p n m}:exN p 6 n m=(!p && decide (0 < arS n) && decide (m=arS n)):=rfl
theorem exN7 {p n m}:exN p 7 n m=(!p && namS n && decide (m=1)):=rfl
theorem exN8 {p n m}:exN p 8 n m=(!p && n.isEmpty && decide (m=3)):=rfl
theorem Qr8 (hT:MaxC C):∀ (v:ExV) {p:Bool} {x:Qb} {H:Heap} {K:Bool→Heap→Prop},ExIs A v x→A.le H→K (exOk p v) H→Qcd C x p K H:=by
 refine ExV.rec_ fun v ih p x H K hx hA k=>?_
 have hx':=Qei.1 hx
 obtain ⟨ek,en,hv,hB,hs⟩:=hx'
 have hlen:=hs.len
 apply Qcd.gh
 apply Qpj
 unfold Ql9
 rw [QoK] at k
 refine box2 fun b1 b3 H4 hle h1 h3=>fL h1 rfl ?_
 have hA4:=hA.trans hle
 rw [hlen]
 have l0:(((v.a.length:Nat):Int) == 0)=decide (v.a.length=0):=lenI (m:=0)
 rw [l0]
 by_cases hk1:v.k=1
 ·rw [if_pos hk1] at k
  refine ⟨fun _ _=>False,fI h1 rfl (QeZ (by rw [ek,hk1]; rfl) (fI (j:=4) h1 rfl ?_)),fun _ _ h=>h.elim⟩
  refine ja (decide (checkV v.v=0)) H4 (fun h=>fT h1 Qu0 (QkI (hv.le hA4) hB ⟨rfl,?_⟩)) ?_
  ·rw [Bool.eq_iff_iff,beq_iff_eq,decide_eq_true_eq]
  refine ja v.n.isEmpty H4 (fun h=>fS h1 rfl ⟨rfl,by rw [en.1,Qla]⟩) ?_
  have e:((((decide (x.Value_.Kind ≥ 1)) && (decide (x.Value_.Kind≤4))) && decide (checkV v.v=0)) && decide (v.a.length=0) && v.n.isEmpty)=(litV v.v && decide (v.a.length=0) && v.n.isEmpty):=by
   unfold litV mayV
   rw [(QhZ.1 hv).1]
  rw [e]; exact ⟨H,Gh.le hle,k⟩
 rw [if_neg hk1] at k
 refine jw (exN p v.k v.n v.a.length) H4 (fI h1 rfl ?_) fun E hE=>?_
 ·rw [ek]
  have r0:=Heap.le.refl H4
  refine ift.of (fun h=>absurd (by simpa using h) hk1) fun _=>?_
  refine ift.of (fun h=>?_) fun n2=>?_
  ·rw [show v.k = 2 by simpa using h, exN2]
   exact fS h1 rfl (QnC en ⟨r0,rfl⟩)
  refine ift.of (fun h=>?_) fun n3=>?_
  ·rw [show v.k = 3 by simpa using h, exN3]
   exact fB0 h3 (ja v.n.isEmpty H4 (fun h=>fS h1 rfl ⟨rfl,by rw [en.1,Qla]⟩) ⟨r0,rfl⟩)
  refine ift.of (fun h=>?_) fun n4=>?_
  ·rw [show v.k = 4 by simpa using h, exN4]
   refine fS h1 rfl ⟨r0,?_⟩
   rw [en.1,Qla,show (((v.a.length:Nat):Int) != 1)=decide (v.a.length≠1) from lenN (m:=1),show decide (((v.a.length:Nat):Int)≤16)=decide (v.a.length≤16) from lenL (m:=16)]
  refine ift.of (fun h=>?_) fun n5=>?_
  ·rw [show v.k = 5 by simpa using h, exN5]
   refine fS h1 rfl (QoY hT en ⟨r0,?_⟩)
   rw [show decide (((v.a.length:Nat):Int)≤8)=decide (v.a.length≤8) from lenL (m:=8)]
  refine ift.of (fun h=>?_) fun n6=>?_
  ·rw [show v.k = 6 by simpa using h, exN6]
   refine ⟨H4,r0,fS h1 rfl (Qs3 fun b D l hD hM hl=>⟨hD,?_⟩)⟩
   rw [en.1]
   have ha:=(hl v.n).trans (Qu6 v.n)
   refine hM.lk (fun y hy=>⟨hD,fB0 (hD _ _ h3) ⟨hD,?_⟩⟩) (fun hy=>⟨hD,fB0 (hD _ _ h3) ⟨hD,?_⟩⟩)
   ·rw [hy] at ha
    by_cases h0:arS v.n=0
    ·rw [if_pos h0] at ha; cases ha
    ·rw [if_neg h0] at ha; injection ha with ha; subst ha
     rw [lenI]
     congr 1
     ·congr 1; rw [decide_eq_decide]; omega
     ·rw [decide_eq_decide]; exact eq_comm
   ·rw [hy] at ha
    by_cases h0:arS v.n=0
    ·rw [h0]; simp
    ·rw [if_neg h0] at ha; cases ha
  refine ift.of (fun h=>?_) fun n7=>?_
  ·rw [show v.k = 7 by simpa using h, exN7]
   refine fB0 h3 (ja (namS v.n) H4 (fun h=>fS h1 rfl (Qfr hT en ⟨rfl,rfl⟩)) ⟨r0,?_⟩)
   rw [show (((v.a.length:Nat):Int) == 1)=decide (v.a.length=1) from lenI (m:=1)]
  refine ift.of (fun h=>?_) fun n8=>?_
  ·rw [show v.k = 8 by simpa using h, exN8]
   refine fB0 h3 (ja v.n.isEmpty H4 (fun h=>fS h1 rfl ⟨rfl,by rw [en.1,Qla]⟩) ⟨r0,?_⟩)
   rw [show (((v.a.length:Nat):Int) == 3)=decide (v.a.length=3) from lenI (m:=3)]
  refine ⟨r0,?_⟩
  unfold exN
  rw [if_neg (by simpa using n2),if_neg (by simpa using n3),if_neg (by simpa using n4),if_neg (by simpa using n5),if_neg (by simpa using n6),if_neg (by simpa using n7),if_neg (by simpa using n8)]
 have g1:=hE _ _ h1
 have g3:=hE _ _ h3
 have hAE:=hA4.trans hE
 refine ja (noV v.v) E (fun _=>fT g1 Qu0 (Qu3 (hv.le hAE) ⟨rfl,rfl⟩)) ?_
 refine ja (v.a.all (exOk p)) E (fun _=>fL g1 rfl ?_) ?_
 ·refine Qp3 (hs.le hAE fun _ _ _ h => h) (Heap.le.refl E) (ok := exOk p) (fun w hw y D Φ hD hR hΦ => ⟨_, [], [pv (some (b3, 0))], rfl, Qn0, ?_⟩) ⟨rfl, rfl⟩
  show Qdm C y (b3,0) Φ D
  apply Qdm.gh
  apply QnQ
  unfold QkD
  exact box1 fun b4 H5 hle5 h5=>bxT h5 (fB0 (hle5 _ _ (hD _ _ g3)) (ih w hw hR (hAE.trans (hD.trans hle5)) ⟨D,Gh.le hle5,hΦ⟩))
 exact ⟨H,Gh.le (hle.trans hE),k⟩
end
end
section
open Go Go.Proofs
section
variable {C:Ctx} {H A:Heap}
theorem Qrr (hT:MaxC C) {v:ExV} {x:Qb} {K:Bool→Heap→Prop} (hx:ExIs A v x) (hA:A.le H) (k:K (exOk true v) H):QcB C x K H:=by
 apply QcB.gh
 apply QmN
 unfold QjP
 exact box1 fun b1 H2 hle h1=>bxT h1 (Qr8 hT v hx (hA.trans hle) ⟨H,Gh.le hle,k⟩)
theorem QrZ (hT:MaxC C) {v:ExV} {x:Qb} {K:Bool→Heap→Prop} (hx:ExIs A v x) (hA:A.le H) (k:K (exOk false v) H):Qcc C x K H:=by
 apply Qcc.gh
 apply Qpi
 unfold Ql8
 exact box1 fun b1 H2 hle h1=>bxT h1 (Qr8 hT v hx (hA.trans hle) ⟨H,Gh.le hle,k⟩)
theorem Qvp {l:List ExV} (h:l.length=1) (h0:0 < l.length) (p:Bool):exsOk p l=exOk p l[0]:=by
 match l,h with
 | [w],_=>simp [exsOk]
theorem Qqg (hT:MaxC C) {l:List ExV} {s:Sl} {K:Bool→Heap→Prop} (hs:ExL A s l) (hA:A.le H) (k:K (exsOk true l) H):QH C s (.func (.func 144) (List.toArray []) (List.toArray []):Value) K H:=by
 rw [QfX] at k
 exact Qp3 hs hA (fun w hw y D Φ hD hR hΦ=>cu Qnq (Qrr hT hR hD hΦ)) k
theorem Qtb (hT:MaxC C) {l:List ExV} {s:Sl} {K:Bool→Heap→Prop} (hs:ExL A s l) (hA:A.le H) (k:K (exsOk false l) H):QH C s (.func (.func 138) (List.toArray []) (List.toArray []):Value) K H:=by
 rw [QfX] at k
 exact Qp3 hs hA (fun w hw y D Φ hD hR hΦ=>cu Qjv (QrZ hT hR hD hΦ)) k
theorem Qrl (hT:MaxC C) {v:LiV} {x:Qk} {K:Bool→Heap→Prop} (hx:LiIs A v x) (hA:A.le H) (k:K (liOk v) H):QcA C x K H:=by
 obtain ⟨ek,en,hs⟩:=hx
 have hlen:=hs.len
 apply QcA.gh
 apply QmM
 unfold QjO
 refine box1 fun b1 H2 hle h1=>fI h1 rfl ?_
 have hA2:=hA.trans hle
 rw [ek]
 unfold liOk at k
 refine jp (P:=v.k=1∨v.k=2) H2 (ift.of (fun h=>⟨rfl,fun _=>.inl (by simpa using h),fun _=>h⟩) (fun h=>⟨rfl,fun h=>.inr (by simpa using h),fun h'=>?_⟩)) fun b hb=>?_
 ·rcases h' with h' | h'
  ·rw [h'] at h; cases h
  ·rw [h']; rfl
 refine ift.of (fun h=>?_) (fun h=>?_)
 ·rw [if_pos (hb.1 h)] at k
  refine fS h1 rfl (QoY hT en ?_)
  refine ja (decide (v.a.length≤8)) H2 (fun _=>fL h1 rfl ⟨rfl,by rw [hlen]; exact lenL (m:=8)⟩) ?_
  exact ja (exsOk true v.a) H2 (fun _=>fL h1 rfl (Qqg hT hs hA2 ⟨rfl,rfl⟩)) ⟨H,Gh.le hle,k⟩
 rw [if_neg (fun p=>by rw [hb.2 p] at h; cases h)] at k
 have hone:∀ {b:Bool} {K:Bool→Heap→Prop},(b && decide (v.a.length=1))=true→K (exsOk false v.a) H2→ldL H2 ((b1,0).1,(b1,0).2+4) fun x45=>ixa x45 0 fun p47=>ldT H2 Qb.c (p47.1,p47.2+(0:Int).toNat*9) fun x52=>Qcc C x52 K H2:=fun {b} {K} hb hk=>by
  simp only [Bool.and_eq_true,decide_eq_true_eq] at hb
  have h0:0 < v.a.length:=by omega
  rw [Qvp hb.2 h0] at hk
  exact fL h1 rfl (SlIs.ld hs hA2 Qdo (by omega) (i:=0) rfl h0 fun y hy=>QrZ hT hy hA2 hk)
 refine ift.of (fun h=>?_) (fun h=>?_)
 ·rw [if_pos (by simpa using h)] at k
  refine fS h1 rfl ?_
  refine ja (decide (v.a.length=1)) H2 (fun _=>fL h1 rfl ⟨rfl,by rw [hlen]; exact lenI (m:=1)⟩) ?_
  refine ja (exsOk false v.a) H2 (fun h=>hone h ⟨rfl,rfl⟩) ?_
  rw [en.1,Qla]; exact ⟨H,Gh.le hle,k⟩
 rw [if_neg (by simpa using h)] at k
 refine ift.of (fun h=>?_) (fun h=>?_)
 ·rw [if_pos (by simpa using h)] at k
  refine fS h1 rfl (QnC en ?_)
  refine ja (decide (v.a.length=1)) H2 (fun _=>fL h1 rfl ⟨rfl,by rw [hlen]; exact lenI (m:=1)⟩) ?_
  exact ja (exsOk false v.a) H2 (fun h=>hone h ⟨rfl,rfl⟩) ⟨H,Gh.le hle,k⟩
 ·rw [if_neg (by simpa using h)] at k
  exact ⟨H,Gh.le hle,k⟩
theorem Qne (hT:MaxC C) {l:List LiV} {s:Sl} {K:Bool→Heap→Prop} (hs:LiL A s l) (hA:A.le H) (k:K (l.all liOk) H):QI C s (.func (.func 53) (List.toArray []) (List.toArray []):Value) K H:=
 Qrc hs hA (fun w hw y D Φ hD hR hΦ=>cu Qnp (Qrl hT hR hD hΦ)) k
theorem Qrh (hT:MaxC C) {v:FdV} {x:Qf} {b:Nat} {nm:Bool} {K:Bool→Heap→Prop} (hx:FdIs A v x) (hA:A.le H) (hb:H b=some (true,.row [.bool nm])) (k:K (fdOk nm v) H):QbW C x (b,0) K H:=by
 apply QbW.gh
 apply Qmn
 unfold QiE
 refine box1 fun b1 H2 hle h1=>fS h1 rfl (Qfr hT hx.1 ?_)
 refine jo' (!nm && v.n.isEmpty) H2 (fun _=>fB0 (hle _ _ hb) (ja v.n.isEmpty H2 (fun _=>fS h1 rfl ⟨rfl,by rw [hx.1.1,Qla]⟩) ⟨rfl,rfl⟩)) ?_
 exact ja (tyOk v.t) H2 (fun _=>fT h1 QuU (QtH hT v.t hx.2 (hA.trans hle) ⟨rfl,rfl⟩)) ⟨H,Gh.le hle,k⟩
theorem Qpw (hT:MaxC C) {l:List FdV} {s:Sl} {nm:Bool} {K:Bool→Heap→Prop} (hs:FdL A s l) (hA:A.le H) (k:K (fdsOk nm l) H):QbA C s nm K H:=by
 apply QbA.gh
 apply QnP
 unfold QkC
 refine box1 fun b1 H2 hle h1=>?_
 have hA2:=hA.trans hle
 refine ja (l.all (fdOk nm)) H2 (fun _=>?_) ?_
 ·exact Qp4 (hs.le hA2 fun _ _ _ h=>h) (Heap.le.refl H2) (ok:=fdOk nm) (fun w hw y D Φ hD hR hΦ=>⟨_,[],[pv (some (b1,0))],rfl,Qmu,Qrh hT hR (hA2.trans hD) (hD _ _ h1) hΦ⟩) ⟨rfl,rfl⟩
 rw [hs.len,show decide (((l.length:Nat):Int)≤8)=decide (l.length≤8) from lenL (m:=8)]
 exact ⟨H,Gh.le hle,k⟩
theorem Quj (hT:MaxC C) {v:CnV} {x:Qg} {K:Bool→Heap→Prop} (hx:CnIs A v x) (hA:A.le H) (k:K (cnOk v) H):Qby C x K H:=by
 apply Qby.gh
 apply QlM
 unfold QhV
 refine box1 fun b1 H2 hle h1=>fS h1 rfl (Qfr hT hx.1 ?_)
 exact ja (fdsOk false v.f) H2 (fun _=>fL h1 rfl (Qpw hT hx.2 (hA.trans hle) ⟨rfl,rfl⟩)) ⟨H,Gh.le hle,k⟩
theorem geI {n m:Nat}:decide (((n:Nat):Int) ≥ (m:Int))=decide (m≤n):=by rw [decide_eq_decide]; omega
theorem gtI {n m:Nat}:decide (((n:Nat):Int) > (m:Int))=decide (m < n):=by rw [decide_eq_decide]; omega
theorem Qrz (hT:MaxC C) {v:TdV} {x:Qc} {K:Bool→Heap→Prop} (hx:TdIs A v x) (hA:A.le H) (k:K (tdOk v) H):QcC C x K H:=by
 apply QcC.gh
 apply QmO
 unfold QjQ
 obtain ⟨_,en,hps,hcs⟩:=hx
 have l1:=SlIs.len hps
 have l2:=hcs.len
 refine box1 fun b1 H2 hle h1=>fS h1 rfl (Qfr hT en ?_)
 have hA2:=hA.trans hle
 refine ja (decide (v.ps.length≤8)) H2 (fun _=>fL h1 rfl ⟨rfl,by rw [l1]; exact lenL (m:=8)⟩) ?_
 refine ja (v.ps.all parS) H2 (fun _=>fL h1 rfl (Qpq hps hA2 (fun w hw D Φ hD hl hΦ=>cu Qlo (QqY hT ⟨rfl,hl⟩ hΦ)) ⟨rfl,rfl⟩)) ?_
 refine ja (decide (1≤v.cs.length)) H2 (fun _=>fL h1 rfl ⟨rfl,by rw [l2]; exact geI (m:=1)⟩) ?_
 refine ja (decide (v.cs.length≤16)) H2 (fun _=>fL h1 rfl ⟨rfl,by rw [l2]; exact lenL (m:=16)⟩) ?_
 exact ja (v.cs.all cnOk) H2 (fun _=>fL h1 rfl (Qrb hcs hA2 (fun w hw y D Φ hD hR hΦ=>cu QlV (Quj hT hR hD hΦ)) ⟨rfl,rfl⟩)) ⟨H,Gh.le hle,k⟩
theorem QuO (hT:MaxC C) {v:RuV} {x:Qj} {K:Bool→Heap→Prop} (hx:RuIs A v x) (hA:A.le H) (k:K (ruOk v) H):QeW C x K H:=by
 apply QeW.gh
 apply Qpn
 unfold Qmd
 obtain ⟨en,ha,hg,hb⟩:=hx
 have l1:=ha.len
 have l2:=SlIs.len hg
 refine box1 fun b1 H2 hle h1=>fS h1 rfl (QoY hT en ?_)
 have hA2:=hA.trans hle
 refine ja (decide (v.a.length≤8)) H2 (fun _=>fL h1 rfl ⟨rfl,by rw [l1]; exact lenL (m:=8)⟩) ?_
 refine ja (decide (v.g.length=v.a.length)) H2 (fun _=>fL h1 rfl (fL h1 rfl ⟨rfl,by rw [l1,l2]; exact lenI⟩)) ?_
 refine ja (exsOk false v.a) H2 (fun _=>fL h1 rfl (Qtb hT ha hA2 ⟨rfl,rfl⟩)) ?_
 refine ja (v.b.all liOk) H2 (fun _=>fL h1 rfl (Qne hT hb hA2 ⟨rfl,rfl⟩)) ?_
 refine ja (v.g.all agOk) H2 (fun _=>fL h1 rfl (Qpq hg hA2 (fun w hw D Φ hD hl hΦ=>cu Qn1 ?_) ⟨rfl,rfl⟩)) ⟨H,Gh.le hle,k⟩
 show Qk8 C w Φ D
 apply QnR
 unfold QkE
 have e:(((((w == ([]:Str)) || (w == ([99,111,117,110,116]:Str))) || (w == ([115,117,109]:Str))) || (w == ([109,105,110]:Str))) || (w == ([109,97,120]:Str)))=agOk w:=by
  unfold agOk countS sumS minS maxS
  rw [Bool.eq_iff_iff]; simp only [Bool.or_eq_true,beq_iff_eq,decide_eq_true_eq,or_assoc]
 rw [e]; exact hΦ
theorem Qtn (hT:MaxC C) {v:NeV} {x:Qm} {K:Bool→Heap→Prop} (hx:NeIs A v x) (hA:A.le H) (k:K (neOk v) H):Qcx C x K H:=by
 apply Qcx.gh
 apply QmH
 unfold QjJ
 have l1:=hx.2.len
 refine box1 fun b1 H2 hle h1=>fS h1 rfl (Qfr hT hx.1 ?_)
 refine ja (decide (0 < v.b.length)) H2 (fun _=>fL h1 rfl ⟨rfl,by rw [l1]; exact gtI (m:=0)⟩) ?_
 exact ja (v.b.all liOk) H2 (fun _=>fL h1 rfl (Qne hT hx.2 (hA.trans hle) ⟨rfl,rfl⟩)) ⟨H,Gh.le hle,k⟩
theorem QsG (hT:MaxC C) {v:RdV} {x:Qh} {K:Bool→Heap→Prop} (hx:RdIs A v x) (hA:A.le H) (k:K (rdOk v) H):Qcw C x K H:=by
 apply Qcw.gh
 apply QmG
 unfold QjI
 refine box1 fun b1 H2 hle h1=>fS h1 rfl (Qfr hT hx.2.2.1 ?_)
 exact ja (fdsOk true v.f) H2 (fun _=>fL h1 rfl (Qpw hT hx.2.2.2 (hA.trans hle) ⟨rfl,rfl⟩)) ⟨H,Gh.le hle,k⟩
theorem Qsa (hT:MaxC C) {v:Str} {x:Qp} {K:Bool→Heap→Prop} (hx:ImIs v x) (k:K (namS v) H):Qcv C x K H:=by
 apply Qcv.gh
 apply QmF
 unfold QjH
 exact box1 fun b1 H2 hle h1=>fS h1 rfl (Qfr hT hx ⟨H,Gh.le hle,k⟩)
theorem Qun {v:RuV} {x:Qj} {K:Bool→Heap→Prop} (hx:RuIs A v x) (k:K (decide (v.b.length≤12)) H):Qcy C x K H:=by
 apply Qcy.gh
 apply QmI
 unfold QjK
 refine box1 fun b1 H2 hle h1=>fL h1 rfl ?_
 rw [hx.2.2.2.len,show decide (((v.b.length:Nat):Int)≤12)=decide (v.b.length≤12) from lenL (m:=12)]
 exact ⟨H,Gh.le hle,k⟩
theorem Quo {v:NeV} {x:Qm} {K:Bool→Heap→Prop} (hx:NeIs A v x) (k:K (decide (v.b.length≤12)) H):Qcz C x K H:=by
 apply Qcz.gh
 apply QmJ
 unfold QjL
 refine box1 fun b1 H2 hle h1=>fL h1 rfl ?_
 rw [hx.2.len,show decide (((v.b.length:Nat):Int)≤12)=decide (v.b.length≤12) from lenL (m:=12)]
 exact ⟨H,Gh.le hle,k⟩
theorem Qqq (hT:MaxC C) {v:MoV} {x:Qa} {K:Int→Heap→Prop} (hx:MoIs A v x) (hA:A.le H) (hb:moD v≤4611686018427387904) (k:K (moC v) H):Qb2 C x K H:=by
 apply Qb2.gh
 apply Qov
 unfold Qlt
 refine box1 fun b1 H2 hle h1=>bxT h1 ?_
 have hA2:=hA.trans hle
 refine Quk hx hA2 hb ?_
 obtain ⟨en,him,hty,hre,hru,hne⟩:=hx
 unfold moC at k
 refine ift.of (fun h=>?_) (fun h=>?_)
 ·rw [if_pos (by have:=of_decide_eq_true h; omega)] at k; exact ⟨H,Gh.le hle,k⟩
 rw [if_neg (by have:=of_decide_eq_false h; omega)] at k
 refine fS h1 rfl (Qfr hT en ?_)
 refine jo' (!v.im.all namS) H2 (fun _=>fL h1 rfl (QrE him hA2 (fun w hw y D Φ hD hR hΦ=>cu Qni (Qsa hT hR hΦ)) ⟨rfl,rfl⟩)) ?_
 refine jo' (!v.ty.all tdOk) H2 (fun _=>fL h1 rfl (Qrd hty hA2 (fun w hw y D Φ hD hR hΦ=>cu Qnr (Qrz hT hR hD hΦ)) ⟨rfl,rfl⟩)) ?_
 refine jo' (!v.re.all rdOk) H2 (fun _=>fL h1 rfl (QrF hre hA2 (fun w hw y D Φ hD hR hΦ=>cu Qnj (QsG hT hR hD hΦ)) ⟨rfl,rfl⟩)) ?_
 refine jo' (!v.ru.all ruOk) H2 (fun _=>fL h1 rfl (QrG hru hA2 (fun w hw y D Φ hD hR hΦ=>cu QpG (QuO hT hR hD hΦ)) ⟨rfl,rfl⟩)) ?_
 refine jo' (!v.ne.all neOk) H2 (fun _=>fL h1 rfl (Qqt hne hA2 (fun w hw y D Φ hD hR hΦ=>cu Qnk (Qtn hT hR hD hΦ)) ⟨rfl,rfl⟩)) ?_
 have e1:(((((!namS v.n || !v.im.all namS) || !v.ty.all tdOk) || !v.re.all rdOk) || !v.ru.all ruOk) || !v.ne.all neOk)=!moOk v:=by unfold moOk; simp only [Bool.not_and]
 rw [e1]
 refine ift.of (fun h=>?_) (fun h=>?_)
 ·rw [if_pos (by simpa using h)] at k; exact ⟨H,Gh.le hle,k⟩
 rw [if_neg (by simpa using h)] at k
 refine fL h1 rfl ?_
 refine jo' (decide (64 < v.ty.length)) H2 (fun _=>fL h1 rfl ⟨rfl,by rw [hty.len]; exact gtI (m:=64)⟩) ?_
 refine jo' (decide (64 < v.re.length)) H2 (fun _=>fL h1 rfl ⟨rfl,by rw [hre.len]; exact gtI (m:=64)⟩) ?_
 refine jo' (decide (256 < v.ru.length)) H2 (fun _=>fL h1 rfl ⟨rfl,by rw [hru.len]; exact gtI (m:=256)⟩) ?_
 refine jo' (decide (256 < v.ne.length)) H2 (fun _=>fL h1 rfl ⟨rfl,by rw [hne.len]; exact gtI (m:=256)⟩) ?_
 refine jo' (!v.ru.all (fun r=>decide (r.b.length≤12))) H2 (fun _=>fL h1 rfl (QrG hru hA2 (fun w hw y D Φ hD hR hΦ=>cu Qnl (Qun hR hΦ)) ⟨rfl,rfl⟩)) ?_
 refine jo' (!v.ne.all (fun n=>decide (n.b.length≤12))) H2 (fun _=>fL h1 rfl (Qqt hne hA2 (fun w hw y D Φ hD hR hΦ=>cu Qnm (Quo hR hΦ)) ⟨rfl,rfl⟩)) ?_
 rw [him.len,show decide (((v.im.length:Nat):Int) > 8)=decide (8 < v.im.length) from gtI (m:=8)]
 have nd:∀ a b:Nat,decide (a < b)=!decide (b≤a):=fun a b=>by rw [Bool.eq_iff_iff]; simp
 have e2:(((((((decide (8 < v.im.length)) || decide (64 < v.ty.length)) || decide (64 < v.re.length)) || decide (256 < v.ru.length)) || decide (256 < v.ne.length)) || !v.ru.all (fun r=>decide (r.b.length≤12))) || !v.ne.all (fun n=>decide (n.b.length≤12)))=!moFew v:=by
  unfold moFew; simp only [Bool.not_and,nd]
 rw [e2]
 refine ift.of (fun h=>?_) (fun h=>?_)
 ·rw [if_pos (by simpa using h)] at k; exact ⟨H,Gh.le hle,k⟩
 ·rw [if_neg (by simpa using h)] at k; exact ⟨H,Gh.le hle,k⟩
end
end
section
open Go Go.Proofs
theorem QsU:∀ (i:Nat) (l:List TyV),tysT i l=jo [44,32] tyT i l
 | i,[]=>rfl
 | i,v::l=>by
  simp only [tysT,jo,QsU (i+1) l]
  cases i <;> rfl
theorem Qqa (sp:Str) {sep:Nat→Str} (h:∀ i,sep i=if i=0 then [] else sp):∀ (i:Nat) (l:List ExV),exsT sep i l=jo sp exT i l
 | i,[]=>rfl
 | i,v::l=>by simp only [exsT,jo,Qqa sp h (i+1) l,h i]
theorem QvJ (i:Nat) (l:List ExV):exsT cm i l=jo [44,32] exT i l:=Qqa _ (fun i=>by cases i <;> rfl) i l
theorem QvO (n:Str) (i:Nat) (l:List ExV):exsT (opSep n) i l=jo (32::(n++[32])) exT i l:=Qqa _ (fun i=>by cases i <;> rfl) i l
theorem Qpu (sep:Nat→Str):∀ (l:List ExV) (j:Nat) (w:ExV),exsT sep j (l++[w])=exsT sep j l++(sep (j+l.length)++exT w)
 | [],j,w=>by simp [exsT]
 | v::l,j,w=>by
  rw [List.cons_append]
  simp only [exsT,Qpu sep l (j+1) w,List.append_assoc,List.length_cons]
  rw [show j+1+l.length=j+(l.length+1) by omega]
theorem Qr2 {sep:Nat→Str} {l:List ExV} {i:Nat} (h:i < l.length):exsT sep 0 (l.take (i+1))=exsT sep 0 (l.take i)++(sep i++exT l[i]):=by
 rw [List.take_add_one,List.getElem?_eq_getElem h,Option.toList_some,Qpu,List.length_take,Nat.min_eq_left (by omega),Nat.zero_add]
theorem Qtc {sep:Nat→Str} (l:List ExV) (i:Nat):(exsT sep 0 (l.take i)).length≤(exsT sep 0 l).length:=by
 have:∀ (a b:List ExV) (k:Nat),(exsT sep k a).length≤(exsT sep k (a++b)).length:=by
  intro a
  induction a with
  | nil=>intro b k; simp [exsT]
  | cons x a ih=>intro b k; have:=ih b (k+1); simp only [List.cons_append,exsT,List.length_append]; omega
 have:=this (l.take i) (l.drop i) 0
 rwa [List.take_append_drop] at this
theorem Qt7 (v:TyV):tyT v=(if v.n=tupS then [] else v.n)++(if v.n=tupS∨0 < v.a.length then 40::(jo [44,32] tyT 0 v.a++[41]) else []):=by
 obtain ⟨n,a⟩:=v
 show tyT (.mk n a)=(if n=tupS then [] else n)++(if n=tupS∨0 < a.length then 40::(jo [44,32] tyT 0 a++[41]) else [])
 simp only [tyT,QsU]
 by_cases h:n=tupS
 ·rw [if_pos h,if_pos h,if_pos (.inl h)]; rfl
 ·rw [if_neg h,if_neg h]
  by_cases h2:a.length=0
  ·rw [if_pos h2,if_neg (by rintro (e | e); exact h e; omega)]
  ·rw [if_neg h2,if_pos (.inr (by omega))]
theorem exE1 {v:ExV} (h:v.k=1):exT v=showV v.v:=by obtain ⟨k,n,u,a⟩:=v; have h:k=1:=h; subst h; simp [exT,ExV.v]
theorem exE2 {v:ExV} (h:v.k=2):exT v=v.n:=by obtain ⟨k,n,u,a⟩:=v; have h:k=2:=h; subst h; simp [exT,ExV.n]
theorem exE3 {v:ExV} (h:v.k=3):exT v=[95]:=by obtain ⟨k,n,u,a⟩:=v; have h:k=3:=h; subst h; simp [exT]
theorem exE4 {v:ExV} (h:v.k=4):exT v=40::(exsT cm 0 v.a++[41]):=by obtain ⟨k,n,u,a⟩:=v; have h:k=4:=h; subst h; simp [exT,ExV.a]
theorem exE5 {v:ExV} (h:v.k=5):exT v=v.n++(if v.a.length=0 then [] else 40::(exsT cm 0 v.a++[41])):=by obtain ⟨k,n,u,a⟩:=v; have h:k=5:=h; subst h; simp [exT,ExV.a,ExV.n]
theorem exE6 {v:ExV} (h:v.k=6):exT v=if funB v.n=true then v.n++40::(exsT cm 0 v.a++[41]) else if v.a.length=1 then 40::(v.n++32::(exsT noSep 0 v.a++[41])) else 40::(exsT (opSep v.n) 0 v.a++[41]):=by obtain ⟨k,n,u,a⟩:=v; have h:k=6:=h; subst h; simp [exT,ExV.a,ExV.n]; rfl
theorem exE7 {v:ExV} (h:v.k=7):exT v=(if brkE v.a=true then 40::(exsT cm 0 v.a++[41]) else exsT cm 0 v.a)++46::v.n:=by obtain ⟨k,n,u,a⟩:=v; have h:k=7:=h; subst h; simp [exT,ExV.a,ExV.n]; rfl
theorem exE8 {v:ExV} (h:v.k=8):exT v=exsT ifSep 0 v.a++[41]:=by obtain ⟨k,n,u,a⟩:=v; have h:k=8:=h; subst h; simp [exT,ExV.a]
theorem QoO {l:List ExV} {sep:Nat→Str} (hs:sep 0=[]) (h:l.length=1) (h0:0 < l.length):exsT sep 0 l=exT l[0]:=by
 match l,h with
 | [w],_=>simp [exsT,hs]
section
variable {C:Ctx} {A:Heap} {b:Nat}
/-- a copy of an argument, laid beside the writer -/
theorem Ww.box {B:Heap} {t:Str} {cx:List Value} {K:Nat→Heap→Prop} (h:Ww A B b t) (k:∀ b1 F D,A.le F→F b1=some (true,.row cx)→Ww F D b t→K b1 D):nw cx K B:=fun b1 n1=>by
 have l1:=Heap.le_put n1 (g:=.row cx) (m:=true)
 obtain ⟨hF,hAF⟩:=(h.up l1).full
 have hbb:b1≠b:=fun e=>by
  obtain ⟨g,hg⟩:=h.bl.some
  rw [e,hg] at n1; cases n1
 exact k b1 _ _ hAF (by rw [Heap.del_ne _ hbb]; exact Heap.put_same ..) hF
theorem Ww.texts {B:Heap} {t:Str} {cs:List Value} {n:Nat} {K:Heap→Prop} (ss:List Str) (h:Ww A B b t) (hl:t.length+ss.flatten.length≤140737488355328) (k:∀ D,Ww A D b (t++ss.flatten)→K D)
 (hs:cs=ss.map sv:=by rfl) (hn:n=ss.length:=by rfl) (hb:n≤100:=by omega):nw cs (fun b2 H=>QA C (some (b,0)) (Sl.of (some (b2,0)) n n) K H) B:=fun b2 n2=>by
 have l1:=Heap.le_put n2 (g:=.row cs) (m:=true)
 have hU:=h.up l1
 have hAF:=hU.full.2
 exact QtD hU (Heap.put_same ..) hs hn hb hl fun D hD=>k D (hD.down hAF)
theorem QvD:∀ (v:TyV) {A' B:Heap} {x:Qd} {t:Str} {K:Heap→Prop},TyIs A v x→A.le A'→Ww A' B b t→t.length+(tyT v).length≤140737488355328→(∀ D,Ww A' D b (t++tyT v)→K D)→QeX C (some (b,0)) x K B:=by
 refine TyV.rec_ fun v ih A' B x t K hx hA hW hl k=>?_
 obtain ⟨en,hs⟩:=Qej.1 hx
 have hlen:=hs.len
 apply Qk6
 unfold QgE
 refine hW.box fun b1 F D hF h1 hD=>?_
 rw [Qt7] at hl k
 simp only [List.length_append] at hl
 refine ⟨fun _ E=>Ww F E b (t++if v.n=tupS then [] else v.n),?_,?_⟩
 ·refine fS (hD.le _ _ h1) rfl ?_
  rw [en.1]
  refine ift.of (fun h=>⟨F,hD.le,(b,0),rfl,fS h1 rfl ?_⟩) (fun h=>?_)
  ·have hn : v.n ≠ tupS := fun e => by rw [e] at h; exact absurd h (by decide)
   rw [if_neg hn] at hl ⊢
   rw [en.1]
   exact hD.str (by omega) fun E hE=>⟨hE.le,hE⟩
  ·have hn : v.n = tupS := beq_iff_eq.1 (by rw [Bool.not_eq_false'] at h; exact h)
   rw [if_pos hn,List.append_nil]; exact hD
 rintro _ E hE
 refine fS (hE.le _ _ h1) rfl ?_
 rw [en.1]
 refine jp (P:=v.n=tupS∨0 < v.a.length) E (ift.of (fun h=>⟨rfl,fun _=>.inl (beq_iff_eq.1 h),fun _=>rfl⟩) (fun h=>fL (hE.le _ _ h1) rfl ⟨rfl,?_⟩)) fun b0 hb0=>?_
 ·rw [hlen]
  constructor
  ·intro h'; exact .inr (by have:=of_decide_eq_true h'; omega)
  ·rintro (e | e)
   ·rw [e] at h; exact absurd h (by decide)
   ·exact decide_eq_true (by omega)
 refine ift.of (fun h=>fL (hE.le _ _ h1) rfl ?_) (fun h=>?_)
 ·have hp:=hb0.1 h
  rw [if_pos hp] at hl k
  simp only [List.length_append,List.length_cons,List.length_nil] at hl
  refine Quh (hs.le (hA.trans hF) fun _ _ _ h=>h) hE (f:=tyT) (fun w hw y D u Φ hW hR hl hk=>⟨_,[pv (some (b,0))],[],rfl,Qgv,ih w hw hR (hA.trans hF) hW hl hk⟩) (by simp only [List.length_append]; omega) fun D2 h2=>?_
  exact k D2 (by rw [← List.append_assoc]; exact h2.down hF)
 ·have hp : ¬ (v.n = tupS ∨ 0 < v.a.length) := fun p => by rw [hb0.2 p] at h; cases h
  rw [if_neg hp,List.append_nil] at k
  exact k E (hE.down hF)
/-- an expression's text, by the program -/
def EW (C:Ctx) (A:Heap) (b:Nat) (w:ExV):Prop:=∀ {A' B:Heap} {x:Qb} {t:Str} {K:Heap→Prop},ExIs A w x→A.le A'→Ww A' B b t→t.length+(exT w).length≤140737488355328→(∀ D,Ww A' D b (t++exT w)→K D)→Qae C (some (b,0)) x K B
theorem lsE {A' D:Heap} {l:List ExV} {s:Sl} {sp u:Str} {K:Heap→Prop} (hs:ExL A s l) (he:∀ w ∈ l,EW C A b w) (hA:A.le A') (hW:Ww A' D b u) (hl:u.length+(jo sp exT 0 l).length≤140737488355328) (k:∀ D2,Ww A' D2 b (u++jo sp exT 0 l)→K D2) :
 QaN C (some (b,0)) s sp (.func (.func 169) (List.toArray [pv (some (b,0))]) (List.toArray []):Value) K D:=
 Qsh (hs.le hA fun _ _ _ h=>h) hW (f:=exT) (fun w hw y D u Φ hW hR hl hk=>⟨_,[pv (some (b,0))],[],rfl,Q2,he w hw hR hA hW hl hk⟩) hl k
theorem brE {A' D:Heap} {l:List ExV} {s:Sl} {u:Str} {K:Heap→Prop} (hs:ExL A s l) (he:∀ w ∈ l,EW C A b w) (hA:A.le A') (hW:Ww A' D b u) (hl:u.length+(exsT cm 0 l).length+2≤140737488355328) (k:∀ D2,Ww A' D2 b (u++40::(exsT cm 0 l++[41]))→K D2) :
 Qy C (some (b,0)) s (.func (.func 169) (List.toArray [pv (some (b,0))]) (List.toArray []):Value) K D:=by
 rw [QvJ] at hl k
 exact Qug (hs.le hA fun _ _ _ h=>h) hW (f:=exT) (fun w hw y D u Φ hW hR hl hk=>⟨_,[pv (some (b,0))],[],rfl,Q2,he w hw hR hA hW hl hk⟩) hl k
theorem Qui {v:ExV} (hk6:v.k=6) (he:∀ w ∈ v.a,EW C A b w) {A' B:Heap} {x:Qb} {t:Str} {K:Heap→Prop} (hx:ExIs A v x) (hA:A.le A') (hW:Ww A' B b t) (hl:t.length+(exT v).length≤140737488355328) (k:∀ D,Ww A' D b (t++exT v)→K D):Qeq C (some (b,0)) x K B:=by
 obtain ⟨ek,en,hv,hB,hs⟩:=Qei.1 hx
 have hlen:=hs.len
 apply QkL
 unfold Qgb
 rw [exE6 hk6] at hl k
 refine hW.box fun b1 F D hF h1 hD=>fS (hD.le _ _ h1) rfl ?_
 have hAF:=hA.trans hF
 refine Qm6 ?_
 rw [en.1]
 refine ift.of (fun h=>?_) (fun h=>?_)
 ·rw [if_pos h] at hl k
  simp only [List.length_append,List.length_cons,List.length_nil] at hl
  refine ⟨F,hD.le,(b,0),rfl,fS h1 rfl ?_⟩
  rw [en.1]
  refine hD.str (by omega) fun E hE=>⟨hE.le,fL (hE.le _ _ h1) rfl ?_⟩
  refine brE hs he hAF hE (by simp only [List.length_append]; omega) fun D2 h2=>k D2 ?_
  rw [← List.append_assoc]; exact h2.down hF
 rw [if_neg (by rw [h]; decide)] at hl k
 refine fL (hD.le _ _ h1) rfl ?_
 rw [hlen]
 refine ift.of (fun h1l=>?_) (fun h1l=>?_)
 ·have hl1:v.a.length=1:=Int.ofNat.inj (show ((v.a.length:Nat):Int)=((1:Nat):Int) from beq_iff_eq.1 h1l)
  have h0:0 < v.a.length:=by omega
  rw [if_pos hl1,QoO rfl hl1 h0] at hl k
  simp only [List.length_append,List.length_cons,List.length_nil] at hl
  refine fS (hD.le _ _ h1) rfl ?_
  rw [en.1]
  refine Ww.texts [[40],v.n,[32]] hD (by simp; omega) fun E hE=>fL (hE.le _ _ h1) rfl ?_
  refine SlIs.ld hs (hAF.trans hE.le) Qdo (by omega) (i:=0) rfl h0 fun y hy=>?_
  refine he _ (List.getElem_mem h0) hy hAF hE (by simp; omega) fun E2 h2=>⟨(b,0),rfl,?_⟩
  refine h2.byte (c:=41) rfl (by simp; omega) fun E3 h3=>k E3 ?_
  have:=h3.down hF
  simpa using this
 ·have hl1 : ¬ v.a.length = 1 := fun e => by rw [e] at h1l; cases h1l
  rw [if_neg hl1,QvO] at hl k
  simp only [List.length_append,List.length_cons,List.length_nil] at hl
  refine ⟨(b,0),rfl,hD.byte (c:=40) rfl (by omega) fun E hE=>fL (hE.le _ _ h1) rfl (fS (hE.le _ _ h1) rfl ?_)⟩
  have hn:=en.2
  rw [en.1]
  refine ⟨by simp [catOk]; omega,by simp [catOk]; omega,?_⟩
  refine lsE hs he hAF hE (by simp; omega) fun E2 h2=>⟨(b,0),rfl,h2.byte (c:=41) rfl (by simp; omega) fun E3 h3=>k E3 ?_⟩
  have:=h3.down hF
  simpa using this
theorem Qtd {v:ExV} (hk7:v.k=7) (hl1:v.a.length=1) (he:∀ w ∈ v.a,EW C A b w) {A' B:Heap} {x:Qb} {t:Str} {K:Heap→Prop} (hx:ExIs A v x) (hA:A.le A') (hW:Ww A' B b t) (hl:t.length+(exT v).length≤140737488355328) (k:∀ D,Ww A' D b (t++exT v)→K D):QdU C (some (b,0)) x K B:=by
 obtain ⟨ek,en,hv,hB,hs⟩:=Qei.1 hx
 have h0:0 < v.a.length:=by omega
 apply Qka
 unfold QfF
 rw [exE7 hk7] at hl k
 refine hW.box fun b1 F D hF h1 hD=>fL (hD.le _ _ h1) rfl ?_
 have hAF:=hA.trans hF
 refine SlIs.ld hs (hAF.trans hD.le) Qdo (by omega) (i:=0) rfl h0 fun y hy=>?_
 obtain ⟨yk,yn,_⟩:=Qei.1 hy
 have hbk:brkE v.a=decide (v.a[0].k=1∨v.a[0].k=5∨(v.a[0].k=6∧funB v.a[0].n=true)):=by
  generalize v.a=l at *
  cases l with
  | nil=>simp at h0
  | cons w l=>rfl
 intro b12 n12
 refine nwT rfl ?_
 have l12:=Heap.le_put n12 (g:=.row (Qb.c y)) (m:=true)
 have c12:(D.put b12 (.row (Qb.c y))) b12=some (true,.row (Qb.c y)):=Heap.put_same ..
 have hD2:=hD.up l12
 obtain ⟨hF2,hAF2⟩:=hD2.full
 have hbb:b12≠b:=fun e'=>by
  obtain ⟨g,hg⟩:=hD.bl.some
  rw [← e',n12] at hg; cases hg
 have c12':((D.put b12 (.row (Qb.c y))).del b) b12=some (true,.row (Qb.c y)):=by rw [Heap.del_ne _ hbb]; exact c12
 generalize D.put b12 (.row (Qb.c y))=D2 at *
 generalize D2.del b=F2 at *
 have h1':=hAF2 _ _ h1
 have hAF':=hAF.trans hAF2
 simp only [List.length_append,List.length_cons] at hl
 refine ⟨fun _ E=>Ww F2 E b (t++if brkE v.a=true then 40::(exsT cm 0 v.a++[41]) else exsT cm 0 v.a),?_,?_⟩
 ·refine fI c12 rfl ?_
  rw [yk]
  refine jp (P:=v.a[0].k=1∨v.a[0].k=5) D2 (ift.of (fun h=>⟨rfl,fun _=>.inl (by simpa using h),fun _=>rfl⟩) (fun h=>fI c12 rfl ⟨rfl,?_⟩)) fun b1 hb1=>?_
  ·rw [yk]
   constructor
   ·intro h'; exact .inr (by simpa using h')
   ·rintro (e | e)
    ·rw [e] at h; cases h
    ·rw [e]; rfl
  refine jp (P:=v.a[0].k=1∨v.a[0].k=5∨(v.a[0].k=6∧funB v.a[0].n=true)) D2 (ift.of (fun h=>⟨rfl,fun _=>(hb1.1 h).elim .inl fun e=>.inr (.inl e),fun _=>rfl⟩) (fun h=>fI c12 rfl ?_)) fun b2 hb2=>?_
  ·rw [yk]
   have hno:¬ (v.a[0].k=1∨v.a[0].k=5):=fun p=>by rw [hb1.2 p] at h; cases h
   refine ja (funB v.a[0].n) D2 (fun _=>fS c12 rfl ?_) ⟨rfl,?_⟩
   ·rw [yn.1]; exact Qm6 ⟨rfl,rfl⟩
   ·rw [Bool.and_eq_true]
    constructor
    ·rintro ⟨a1,a2⟩; exact .inr (.inr ⟨by simpa using a1,a2⟩)
    ·rintro (e | e | ⟨e1,e2⟩)
     ·exact absurd (.inl e) hno
     ·exact absurd (.inr e) hno
     ·exact ⟨by rw [e1]; rfl,e2⟩
  refine ift.of (fun h=>fL (hD2.le _ _ h1) rfl ?_) (fun h=>bxT c12 ?_)
  ·have hp : brkE v.a = true := by rw [hbk]; exact decide_eq_true (hb2.1 h)
   rw [if_pos hp] at hl ⊢
   simp only [List.length_append,List.length_cons,List.length_nil] at hl
   exact brE hs he hAF' hF2 (by omega) fun E hE=>hE
  ·have hp : ¬ brkE v.a = true := fun p => by rw [hbk] at p; rw [hb2.2 (of_decide_eq_true p)] at h; cases h
   rw [if_neg hp] at hl ⊢
   rw [QoO rfl hl1 h0] at hl ⊢
   exact he _ (List.getElem_mem h0) hy hAF' hF2 (by omega) fun E hE=>hE
 rintro _ E hE
 refine fS (hE.le _ _ h1') rfl ?_
 rw [en.1]
 refine Ww.texts [[46],v.n] hE (by simp only [List.length_append]; simp; omega) fun E2 h2=>k E2 ?_
 have:=(h2.down hAF2).down hF
 simpa using this
theorem QrX {p:Bool} {k:Int} {n:Str} {m:Nat} (h1:k≠1) (h:exN p k n m=true):k=2∨k=3∨k=4∨k=5∨k=6∨k=7∨k=8:=by
 refine Classical.byContradiction fun hn=>?_
 unfold exN at h
 rw [if_neg fun e=>hn (by simp [e]),if_neg fun e=>hn (by simp [e]),if_neg fun e=>hn (by simp [e]),if_neg fun e=>hn (by simp [e]),if_neg fun e=>hn (by simp [e]),if_neg fun e=>hn (by simp [e]),if_neg fun e=>hn (by simp [e])] at h
 cases h
theorem QqB {p:Bool} {v:ExV} (h:exOk p v=true):∀ w ∈ v.a,exOk p w=true:=by
 rw [QoK] at h
 by_cases h1:v.k=1
 ·rw [if_pos h1] at h
  simp only [Bool.and_eq_true,decide_eq_true_eq] at h
  intro w hw
  rw [List.length_eq_zero_iff.1 h.1.2] at hw; cases hw
 ·rw [if_neg h1,Bool.and_eq_true] at h
  exact List.all_eq_true.1 h.2
theorem QsZ (hFm:FmtC C):∀ (v:ExV),(∃ p,exOk p v=true)→EW C A b v:=by
 refine ExV.rec_ fun v ih ⟨p,hok⟩ A' B x t K hx hA hW hl k=>?_
 have he:∀ w ∈ v.a,EW C A b w:=fun w hw=>ih w hw ⟨p,QqB hok w hw⟩
 have hx0:=hx
 obtain ⟨ek,en,hv,hB,hs⟩:=Qei.1 hx
 have hlen:=hs.len
 apply QkM
 unfold Qgc
 refine hW.box fun b1 F D hF h1 hD=>fI (hD.le _ _ h1) rfl ?_
 have hAF:=hA.trans hF
 rw [ek]
 rw [QoK] at hok
 refine ift.of (fun h=>?_) (fun n1=>?_)
 ·have hk : v.k = 1 := by simpa using h
  rw [if_pos hk] at hok
  simp only [Bool.and_eq_true] at hok
  have hm:mayV v.v=true:=by have:=hok.1.1; unfold litV at this; simp only [Bool.and_eq_true] at this; exact this.2
  rw [exE1 hk] at hl k
  refine ⟨F,hD.le,(b,0),rfl,fT h1 Qu0 (Quc hFm (hv.le (hAF.trans hD.le)) hB (fun _=>by omega) fun E hE=>⟨hD.le.trans hE,?_⟩)⟩
  rw [if_pos hm]
  exact (hD.up hE).str (by omega) fun E2 h2=>⟨h2.le,k E2 (h2.down hF)⟩
 have n1:v.k≠1:=by simpa using n1
 rw [if_neg n1,Bool.and_eq_true,Bool.and_eq_true] at hok
 have hN:=hok.1.1
 refine ift.of (fun h=>?_) (fun n2=>?_)
 ·have hk : v.k = 2 := by simpa using h
  rw [exE2 hk] at hl k
  refine ⟨F,hD.le,(b,0),rfl,fS h1 rfl ?_⟩
  rw [en.1]
  exact hD.str (by omega) fun E2 h2=>⟨h2.le,k E2 (h2.down hF)⟩
 refine ift.of (fun h=>?_) (fun n3=>?_)
 ·have hk : v.k = 3 := by simpa using h
  rw [exE3 hk] at hl k
  exact ⟨(b,0),rfl,hD.byte (c:=95) rfl (by simpa using hl) fun E2 h2=>k E2 (h2.down hF)⟩
 refine ift.of (fun h=>?_) (fun n4=>?_)
 ·have hk : v.k = 4 := by simpa using h
  rw [exE4 hk] at hl k
  simp only [List.length_append,List.length_cons,List.length_nil] at hl
  exact fL (hD.le _ _ h1) rfl (brE hs he hAF hD (by omega) fun E2 h2=>k E2 (h2.down hF))
 refine ift.of (fun h=>?_) (fun n5=>?_)
 ·have hk : v.k = 5 := by simpa using h
  rw [exE5 hk] at hl k
  simp only [List.length_append] at hl
  refine ⟨F,hD.le,(b,0),rfl,fS h1 rfl ?_⟩
  rw [en.1]
  refine hD.str (by omega) fun E2 h2=>⟨h2.le,fL (h2.le _ _ h1) rfl ?_⟩
  rw [hlen]
  refine ift.of (fun h=>?_) (fun h=>?_)
  ·have h0 : ¬ v.a.length = 0 := by have := of_decide_eq_true h; omega
   rw [if_neg h0] at hl k
   simp only [List.length_append,List.length_cons,List.length_nil] at hl
   refine fL (h2.le _ _ h1) rfl (brE hs he hAF h2 (by simp only [List.length_append]; omega) fun E3 h3=>k E3 ?_)
   rw [← List.append_assoc]; exact h3.down hF
  ·have h0 : v.a.length = 0 := by have := of_decide_eq_false h; omega
   rw [if_pos h0,List.append_nil] at k
   exact k E2 (h2.down hF)
 refine ift.of (fun h=>?_) (fun n6=>?_)
 ·have hk : v.k = 6 := by simpa using h
  exact bxT (hD.le _ _ h1) (Qui hk he hx0 hAF hD hl fun E2 h2=>k E2 (h2.down hF))
 refine ift.of (fun h=>?_) (fun n7=>?_)
 ·have hk : v.k = 7 := by simpa using h
  rw [hk,exN7] at hN
  simp only [Bool.and_eq_true,decide_eq_true_eq] at hN
  exact bxT (hD.le _ _ h1) (Qtd hk hN.2 he hx0 hAF hD hl fun E2 h2=>k E2 (h2.down hF))
 refine ift.of (fun h=>?_) (fun n8=>?_)
 ·have hk : v.k = 8 := by simpa using h
  rw [hk,exN8] at hN
  simp only [Bool.and_eq_true,decide_eq_true_eq] at hN
  have hl3:v.a.length=3:=hN.2
  rw [exE8 hk] at hl k
  simp only [List.length_append,List.length_cons,List.length_nil] at hl
  refine hD.box fun b65 F2 D2 hF2 h65 hD2=>?_
  have h1':=hF2 _ _ h1
  have hAF2:=hAF.trans hF2
  refine ⟨fun y E=>∃ i:Nat,y=(i:Int)∧i≤3∧Ww F2 E b (t++exsT ifSep 0 (v.a.take i)),fun y _=>3 - y.toNat,⟨0,rfl,by omega,by simpa [exsT] using hD2⟩,?_⟩
  rintro _ E ⟨i,rfl,hi,hE⟩
  refine ift.of (fun h=>?_) (fun h=>?_)
  ·have hlt : i < 3 := by have := of_decide_eq_true h; simp only [Sl.of] at this; omega
   have hlt2:i < v.a.length:=by omega
   have hp:=Qtc (sep:=ifSep) v.a (i+1)
   have hst:=Qr2 (sep:=ifSep) hlt2
   rw [hst] at hp
   simp only [List.length_append] at hp
   refine ⟨(b65,0),rfl,rfl,by omega,by simp only [Sl.of]; omega,ifSep i,?_,?_⟩
   ·show rd E (b65,0+(i:Int).toNat*1)=_
    rw [QaC (hE.le _ _ h65),show 0+(i:Int).toNat*1=i by omega]
    match i,hlt with
    | 0,_=>rfl
    | 1,_=>rfl
    | 2,_=>rfl
   refine ⟨(b,0),rfl,hE.str (by simp only [List.length_append]; omega) fun E2 h2=>fL (h2.le _ _ h1') rfl ?_⟩
   refine SlIs.ld hs (hAF2.trans h2.le) Qdo (by omega) rfl hlt2 fun y hy=>?_
   refine he _ (List.getElem_mem hlt2) hy hAF2 h2 (by simp only [List.length_append]; omega) fun E3 h3=>?_
   rw [Q4 (by omega) (by omega)]
   refine ⟨⟨i+1,by omega,by omega,?_⟩,by first | omega | (dsimp only; omega)⟩
   rw [hst]; simpa using h3
  ·have hie : i = 3 := by have := of_decide_eq_false h; simp only [Sl.of] at this; omega
   subst hie
   rw [List.take_of_length_le (by omega)] at hE
   refine ⟨(b,0),rfl,hE.byte (c:=41) rfl (by simp only [List.length_append]; omega) fun E2 h2=>k E2 ?_⟩
   rw [← List.append_assoc]; exact (h2.down hF2).down hF
 ·exfalso
  rcases QrX n1 hN with e | e | e | e | e | e | e
  ·rw [e] at n2; cases n2
  ·rw [e] at n3; cases n3
  ·rw [e] at n4; cases n4
  ·rw [e] at n5; cases n5
  ·rw [e] at n6; cases n6
  ·rw [e] at n7; cases n7
  ·rw [e] at n8; cases n8
end
end
section
open Go Go.Proofs
section
variable {C:Ctx} {A H:Heap} {b:Nat}
theorem fP0 {c:Nat} {m:Bool} {q:Option (Nat×Nat)} {K:Option (Nat×Nat)→Prop} (h:H c=some (m,.row [pv q])) (k:K q):ldP H (c,0) K:=⟨q,by rw [QaC h]; rfl,k⟩
theorem jS {R:Str→Heap→Prop} {body:(Str→Heap→Prop)→Prop} (v:Str) (H0:Heap) (h1:body (fun b E=>E=H0∧b=v)) (h2:R v H0):jn (α:=Str) R body:=⟨fun b E=>E=H0∧b=v,h1,by rintro _ _ ⟨rfl,rfl⟩; exact h2⟩
theorem Ww.byteX {B:Heap} {bs:Str} {c:UInt8} {i:Int} {K:Value→Heap→Prop} (h:Ww A B b bs) (hi:i=(c.toNat:Int)) (hl:bs.length+1≤140737488355328) (k:∀ D,Ww A D b (bs++[c])→(∀ c,c≠b→D c=B c)→K .nilIface D):Qq C (some (b,0)) i K B:=by
 subst hi
 exact Qi8 h.bl liB147 hl (k _ ⟨h.le.put _ _ h.nb,h.nb,IsB.put⟩ fun c hc=>Heap.put_ne _ _ _ hc)
theorem ews (hFm:FmtC C) {p:Bool} {l:List ExV} (h:exsOk p l=true):∀ w ∈ l,EW C A b w:=fun w hw=>by
 rw [QfX] at h
 exact QsZ hFm w ⟨p,List.all_eq_true.1 h w hw⟩
theorem Qut (hFm:FmtC C) {v:LiV} (hok:liOk v=true) {A' B:Heap} {x:Qk} {t:Str} {K:Heap→Prop} (hx:LiIs A v x) (hA:A.le A') (hW:Ww A' B b t) (hl:t.length+(liT v).length≤140737488355328) (k:∀ D,Ww A' D b (t++liT v)→K D):Qe5 C (some (b,0)) x K B:=by
 obtain ⟨ek,en,hs⟩:=hx
 have hlen:=hs.len
 apply QiS
 unfold QeS
 refine hW.box fun b1 F D hF h1 hD=>fI (hD.le _ _ h1) rfl ?_
 have hAF:=hA.trans hF
 rw [ek]
 unfold liOk at hok
 unfold liT at hl k
 refine ⟨fun _ E=>Ww F E b (t++if v.k=2 then [110,111,116,32] else [])∧(v.k=1∨v.k=2),?_,?_⟩
 ·refine ift.of (fun h => ?_) (fun n2 => ?_)
  ·have hk : v.k = 2 := by simpa using h
   rw [if_neg (by rw [hk]; decide),if_pos hk] at hl
   simp only [List.length_append,List.length_cons,List.length_nil] at hl
   rw [if_pos hk]
   exact ⟨(b,0),rfl,hD.str (by simp only [List.length_cons,List.length_nil]; omega) fun E hE=>⟨hE,.inr hk⟩⟩
  refine ift.of (fun h=>?_) (fun n1=>?_)
  ·have hk : v.k = 1 := by simpa using h
   rw [if_neg (by rw [hk]; decide),List.append_nil]
   exact ⟨hD,.inl hk⟩
  have m1:v.k≠1:=by simpa using n1
  have m2:v.k≠2:=by simpa using n2
  rw [if_neg m1,if_neg m2] at hl k
  rw [if_neg (fun h=>h.elim m1 m2)] at hok
  refine ift.of (fun h=>?_) (fun n4=>?_)
  ·have hk : v.k = 4 := by simpa using h
   rw [if_neg (by rw [hk]; decide),if_pos hk] at hok
   simp only [Bool.and_eq_true,decide_eq_true_eq] at hok
   have hl1:=hok.1.2
   have h0:0 < v.a.length:=by omega
   rw [if_pos hk,QoO rfl hl1 h0] at hl k
   simp only [List.length_append,List.length_cons,List.length_nil] at hl
   refine fS (hD.le _ _ h1) rfl ?_
   rw [en.1]
   refine Ww.texts [v.r,[32,61,32]] hD (by simp; omega) fun E hE=>fL (hE.le _ _ h1) rfl ?_
   refine SlIs.ld hs (hAF.trans hE.le) Qdo (by omega) (i:=0) rfl h0 fun y hy=>?_
   refine ews hFm hok.2 _ (List.getElem_mem h0) hy hAF hE (by simp; omega) fun E2 h2=>k E2 ?_
   have:=h2.down hF
   simpa using this
  ·have m4 : v.k ≠ 4 := by simpa using n4
   by_cases m3:v.k=3
   ·rw [if_pos m3] at hok
    simp only [Bool.and_eq_true,decide_eq_true_eq] at hok
    have hl1:=hok.1.2
    have h0:0 < v.a.length:=by omega
    rw [if_neg m4] at hl k
    have hbk:isMk v.a=decide (v.a[0].k=5):=by
     generalize v.a=l at *
     cases l with
     | nil=>simp at h0
     | cons w l=>rfl
    refine ⟨fun _ E=>K E,?_,fun _ E h=>h⟩
    refine fL (hD.le _ _ h1) rfl ?_
    refine SlIs.fI hs (hAF.trans hD.le) Qdo (by omega) (i:=0) (j:=0) rfl h0 (f:=fun y=>y.Kind) (fun _=>rfl) fun y hy=>?_
    rw [(Qei.1 hy).1]
    refine ift.of (fun h=>fL (hD.le _ _ h1) rfl ?_) (fun h=>fL (hD.le _ _ h1) rfl ?_)
    ·have hp : isMk v.a = true := by rw [hbk]; exact decide_eq_true (by simpa using h)
     rw [if_pos hp] at hl k
     simp only [List.length_append,List.length_cons,List.length_nil] at hl
     exact brE hs (ews hFm hok.2) hAF hD (by omega) fun E2 h2=>k E2 (h2.down hF)
    ·have hp : ¬ isMk v.a = true := fun p => by rw [hbk] at p; rw [of_decide_eq_true p] at h; cases h
     rw [if_neg hp,QoO rfl hl1 h0] at hl k
     refine SlIs.ld hs (hAF.trans hD.le) Qdo (by omega) (i:=0) rfl h0 fun y hy=>?_
     exact ews hFm hok.2 _ (List.getElem_mem h0) hy hAF hD (by omega) fun E2 h2=>k E2 (h2.down hF)
   ·rw [if_neg m3,if_neg m4] at hok; cases hok
 rintro _ E ⟨hE,hk⟩
 rw [if_pos hk] at hok
 simp only [Bool.and_eq_true] at hok
 have key:t.length+((if v.k=2 then [110,111,116,32] else [])++(v.r++40::(exsT cm 0 v.a++[41]))).length≤140737488355328∧∀ D,Ww A' D b (t++((if v.k=2 then [110,111,116,32] else [])++(v.r++40::(exsT cm 0 v.a++[41]))))→K D:=by
  rcases hk with hk | hk
  ·rw [if_pos hk] at hl k
   rw [if_neg (by rw [hk]; decide)]
   exact ⟨hl,k⟩
  ·rw [if_neg (by rw [hk]; decide), if_pos hk] at hl k
   rw [if_pos hk]
   exact ⟨hl,k⟩
 obtain ⟨hl,k⟩:=key
 simp only [List.length_append,List.length_cons,List.length_nil] at hl
 refine ⟨F,hE.le,(b,0),rfl,fS h1 rfl ?_⟩
 rw [en.1]
 refine hE.str (by simp only [List.length_append]; omega) fun E2 h2=>⟨h2.le,fL (h2.le _ _ h1) rfl ?_⟩
 refine brE hs (ews hFm hok.2) hAF h2 (by simp only [List.length_append]; omega) fun E3 h3=>k E3 ?_
 have:=h3.down hF
 simpa using this
theorem Qqx (hFm:FmtC C) {l:List LiV} {s:Sl} {A' B:Heap} {t:Str} {K:Heap→Prop} (hok:l.all liOk=true) (hs:LiL A s l) (hA:A.le A') (hW:Ww A' B b t) (hl:t.length+(boT l).length≤140737488355328) (k:∀ D,Ww A' D b (t++boT l)→K D) :
 QaK C (some (b,0)) s [44,32] (.func (.func 84) (List.toArray [pv (some (b,0))]) (List.toArray []):Value) K B:=
 Qrn (hs.le hA fun _ _ _ h=>h) hW (f:=liT) (fun w hw y D u Φ hW hR hl hk=>⟨_,[pv (some (b,0))],[],rfl,Qi3,Qut hFm (List.all_eq_true.1 hok w hw) hR hA hW hl hk⟩) hl k
theorem Qpv {v:FdV} {A' B:Heap} {x:Qf} {t:Str} {K:Heap→Prop} (hx:FdIs A v x) (hA:A.le A') (hW:Ww A' B b t) (hl:t.length+(fdT v).length≤140737488355328) (k:∀ D,Ww A' D b (t++fdT v)→K D):QeI C (some (b,0)) x K B:=by
 obtain ⟨en,ht⟩:=hx
 apply Qia
 unfold QeG
 refine hW.box fun b1 F D hF h1 hD=>?_
 have hAF:=hA.trans hF
 unfold fdT at hl k
 simp only [List.length_append] at hl
 refine ⟨fun _ E=>Ww F E b (t++if v.n=[] then [] else v.n++[58,32]),?_,?_⟩
 ·refine fS (hD.le _ _ h1) rfl ?_
  rw [en.1]
  refine ift.of (fun h=>fS (hD.le _ _ h1) rfl ?_) (fun h=>?_)
  ·have hn : ¬ v.n = [] := fun e => by rw [e] at h; cases h
   rw [if_neg hn] at hl ⊢
   simp only [List.length_append,List.length_cons,List.length_nil] at hl
   rw [en.1]
   refine Ww.texts [v.n,[58,32]] hD (by simp; omega) fun E hE=>?_
   simpa using hE
  ·have hn : v.n = [] := by simpa using h
   rw [if_pos hn,List.append_nil]; exact hD
 rintro _ E hE
 refine fT (hE.le _ _ h1) QuU (QvD v.t ht hAF hE (by simp only [List.length_append]; omega) fun E2 h2=>k E2 ?_)
 rw [← List.append_assoc]; exact h2.down hF
theorem Qn9 {l:List FdV} {s:Sl} {A' B:Heap} {t:Str} {K:Heap→Prop} (hs:FdL A s l) (hA:A.le A') (hW:Ww A' B b t) (hl:t.length+(fdsT l).length+2≤140737488355328) (k:∀ D,Ww A' D b (t++40::(fdsT l++[41]))→K D) :
 Qad C (some (b,0)) s (.func (.func 165) (List.toArray [pv (some (b,0))]) (List.toArray []):Value) K B:=
 Qp5 (hs.le hA fun _ _ _ h=>h) hW (f:=fdT) (fun w hw y D u Φ hW hR hl hk=>⟨_,[pv (some (b,0))],[],rfl,Qiu,Qpv hR hA hW hl hk⟩) hl k
theorem QsD {p:Bool} {B:Heap} {t:Str} {K:Heap→Prop} (hW:Ww A B b t) (hl:t.length+(pubT p).length≤140737488355328) (k:∀ D,Ww A D b (t++pubT p)→K D):Qdn C (some (b,0)) p K B:=by
 apply Qk5
 unfold QgD
 cases p with
 | true=>exact QeZ rfl ⟨(b,0),rfl,hW.str hl fun D hD=>k D hD⟩
 | false=>exact Qet rfl (k B (by simpa [pubT] using hW))
theorem Qs4 {v:CnV} {b1:Nat} {A' B:Heap} {x:Qg} {t:Str} {K:Heap→Prop} (hx:CnIs A v x) (hA:A.le A') (hW:Ww A' B b t) (hp:A' b1=some (true,.row [pv (some (b,0))])) (hl:t.length+(cnT v).length≤140737488355328) (k:∀ D,Ww A' D b (t++cnT v)→K D):Qes C x (b1,0) K B:=by
 obtain ⟨en,hs⟩:=hx
 apply Qhq
 unfold Qee
 refine hW.box fun b4 F D hF h4 hD=>?_
 have hAF:=hA.trans hF
 have hp':=hF _ _ hp
 unfold cnT at hl k
 simp only [List.length_append] at hl
 refine ⟨F,hD.le,fP0 hp' ⟨(b,0),rfl,fS h4 rfl ?_⟩⟩
 rw [en.1]
 refine hD.str (by omega) fun E hE=>⟨hE.le,fL (hE.le _ _ h4) rfl ?_⟩
 rw [hs.len]
 refine ift.of (fun h=>?_) (fun h=>?_)
 ·have h0 : ¬ v.f.length = 0 := by have := of_decide_eq_true h; omega
  rw [if_neg h0] at hl k
  simp only [List.length_append,List.length_cons,List.length_nil] at hl
  refine fP0 (hE.le _ _ hp') (fL (hE.le _ _ h4) rfl (fP0 (hE.le _ _ hp') ?_))
  refine Qn9 hs hAF hE (by simp only [List.length_append]; omega) fun E2 h2=>k E2 ?_
  rw [← List.append_assoc]; exact h2.down hF
 ·have h0 : v.f.length = 0 := by have := of_decide_eq_false h; omega
  rw [if_pos h0,List.append_nil] at k
  exact k E (hE.down hF)
theorem Qqn {v:TdV} {A' B:Heap} {x:Qc} {t:Str} {K:Heap→Prop} (hx:TdIs A v x) (hA:A.le A') (hW:Ww A' B b t) (hl:t.length+(tdT v).length≤140737488355328) (k:∀ D,Ww A' D b (t++tdT v)→K D):Qe6 C (some (b,0)) x K B:=by
 obtain ⟨ep,en,hps,hcs⟩:=hx
 apply QiT
 unfold QeT
 refine hW.box fun b1 F1 D1 hF1 h1 hD1=>hD1.box fun b3 F D hF hb3 hD=>?_
 have hb1:=hF _ _ h1
 have hAF:=(hA.trans hF1).trans hF
 unfold tdT at hl k
 simp only [List.length_append,List.length_cons,List.length_nil] at hl
 refine fP0 (hD.le _ _ hb1) (fB (hD.le _ _ hb3) rfl ?_)
 rw [ep]
 refine QsD hD (by omega) fun E1 e1=>fP0 (e1.le _ _ hb1) (fS (e1.le _ _ hb3) rfl ?_)
 rw [en.1]
 refine Ww.texts [[116,121,112,101,32],v.n] e1 (by simp only [List.length_append]; simp; omega) fun E2 e2=>?_
 refine ⟨fun _ E=>Ww F E b (t++pubT v.p++[[116,121,112,101,32],v.n].flatten++(if v.ps.length=0 then [] else 40::(jo [44,32] id 0 v.ps++[41]))),?_,?_⟩
 ·refine fL (e2.le _ _ hb3) rfl ?_
  rw [SlIs.len hps]
  refine ift.of (fun h=>?_) (fun h=>?_)
  ·have h0 : ¬ v.ps.length = 0 := by have := of_decide_eq_true h; omega
   rw [if_neg h0] at hl ⊢
   simp only [List.length_append,List.length_cons,List.length_nil] at hl
   refine fP0 (e2.le _ _ hb1) (fL (e2.le _ _ hb3) rfl ?_)
   refine QrP (StL.le hAF hps) e2 (fun w hw D u Φ hW hl hk=>⟨_,[],[pv (some (b1,0))],rfl,QhM,?_⟩) (by simp; omega) fun E3 e3=>e3
   show Qer C w (b1,0) Φ D
   apply Qhp
   unfold Qed
   exact fP0 (hW.le _ _ hb1) ⟨(b,0),rfl,hW.str hl fun D2 h2=>hk D2 h2⟩
  ·have h0 : v.ps.length = 0 := by have := of_decide_eq_false h; omega
   rw [if_pos h0,List.append_nil]; exact e2
 rintro _ E3 e3
 refine fP0 (e3.le _ _ hb1) ⟨(b,0),rfl,e3.str (by simp only [List.length_append,List.length_cons,List.flatten_cons,List.flatten_nil,List.length_nil]; omega) fun E4 e4=>fP0 (e4.le _ _ hb1) (fL (e4.le _ _ hb3) rfl ?_)⟩
 refine Qrm (hcs.le hAF fun _ _ _ h=>h) e4 (f:=cnT) (fun w hw y D u Φ hW hR hl hk=>⟨_,[],[pv (some (b1,0))],rfl,QhN,Qs4 hR hAF hW hb1 hl hk⟩) (by simp only [List.length_append,List.length_cons,List.flatten_cons,List.flatten_nil,List.length_nil]; omega) fun E5 e5=>fP0 (e5.le _ _ hb1) ⟨(b,0),rfl,?_⟩
 refine e5.byte (c:=10) rfl (by simp only [List.length_append,List.length_cons,List.flatten_cons,List.flatten_nil,List.length_nil]; omega) fun E6 e6=>k E6 ?_
 have:=(e6.down hF).down hF1
 simpa using this
theorem Qru {v:RdV} {A' B:Heap} {x:Qh} {t:Str} {K:Heap→Prop} (hx:RdIs A v x) (hA:A.le A') (hW:Ww A' B b t) (hl:t.length+(rdT v).length≤140737488355328) (k:∀ D,Ww A' D b (t++rdT v)→K D):Qfv C (some (b,0)) x K B:=by
 obtain ⟨ep,ei,en,hs⟩:=hx
 apply Qjf
 unfold Qfh
 refine hW.box fun b1 F D hF h1 hD=>fB (hD.le _ _ h1) rfl ?_
 have hAF:=hA.trans hF
 rw [ep]
 unfold rdT at hl k
 simp only [List.length_append,List.length_cons,List.length_nil] at hl
 refine QsD hD (by omega) fun E1 e1=>?_
 refine jS (if v.i then [105,110,112,117,116,32] else [114,101,108,32]) E1 (fB (e1.le _ _ h1) rfl ?_) ?_
 ·rw [ei]
  refine ift.of (fun h=>⟨rfl,by rw [if_pos h]⟩) (fun h=>⟨rfl,by rw [h]; rfl⟩)
 refine fS (e1.le _ _ h1) rfl ?_
 rw [en.1]
 refine Ww.texts [if v.i then [105,110,112,117,116,32] else [114,101,108,32],v.n] e1 (by simp only [List.length_append,List.flatten_cons,List.flatten_nil,List.length_nil]; omega) fun E2 e2=>fL (e2.le _ _ h1) rfl ?_
 refine Qn9 hs hAF e2 (by simp only [List.length_append,List.flatten_cons,List.flatten_nil,List.length_nil]; omega) fun E3 e3=>⟨(b,0),rfl,e3.byte (c:=10) rfl (by simp only [List.length_append,List.length_cons,List.flatten_cons,List.flatten_nil,List.length_nil]; omega) fun E4 e4=>k E4 ?_⟩
 have:=e4.down hF
 simpa using this
def joi (f:Nat→Str):Nat→Str
 | 0=>[]
 | n+1=>joi f n++(cm n++f n)
theorem QqQ (f:Nat→Str):∀ {n m:Nat},n≤m→(joi f n).length≤(joi f m).length
 | n,0,h=>by rw [Nat.le_zero.1 h]; exact Nat.le_refl _
 | n,m+1,h=>by
  rcases Nat.lt_or_ge n (m+1) with h1 | h1
  ·have := QqQ f (n := n) (m := m) (by omega)
   simp only [joi,List.length_append]; omega
  ·rw [show n=m+1 by omega]; exact Nat.le_refl _
theorem Qpp:∀ (gs:List Str) (xs:List ExV) (j:Nat) (g:Str) (x:ExV),gs.length=xs.length→agsT j (gs++[g]) (xs++[x])=agsT j gs xs++(cm (j+xs.length)++agT g x)
 | [],[],j,g,x,_=>by simp [agsT]
 | [],_::_,j,g,x,h=>by simp at h
 | _::_,[],j,g,x,h=>by simp at h
 | g'::gs,x'::xs,j,g,x,h=>by
  simp only [List.cons_append,agsT,Qpp gs xs (j+1) g x (by simpa using h),List.append_assoc,List.length_cons]
  rw [show j+1+xs.length=j+(xs.length+1) by omega]
theorem Qqr {gs:List Str} {xs:List ExV} {f:Nat→Str} (hl:gs.length=xs.length) (hf:∀ (i:Nat) (h1:i < gs.length) (h2:i < xs.length),f i=agT gs[i] xs[i]):∀ n,n≤xs.length→joi f n=agsT 0 (gs.take n) (xs.take n)
 | 0,_=>rfl
 | n+1,h=>by
  rw [List.take_add_one,List.take_add_one,List.getElem?_eq_getElem (by omega),List.getElem?_eq_getElem (by omega),Option.toList_some,Option.toList_some,Qpp _ _ _ _ _ (by simp; omega),joi,Qqr hl hf n (by omega),hf n (by omega) (by omega),List.length_take,Nat.min_eq_left (by omega),Nat.zero_add]
theorem lsq {A B:Heap} {q:Nat} {α:Type} {R:α→Qb→Prop} {s:Sl} {l:List α} {e:Value} {f:Nat→Str} {t:Str} {K:Heap→Prop} (hs:SlIs R Qb.c A s l) (hW:Ww A B b t) (h0:B q=some (true,.row [.int .i64 0]))
 (he:∀ (i:Nat) (hi:i < l.length) (x:Qb) (D:Heap) (u:Str) (Φ:Heap→Prop),Ww A D b u→D q=some (true,.row [.int .i64 (i:Int)])→R l[i] x→u.length+(f i).length≤140737488355328→(∀ D2,Ww A D2 b (u++f i)→D2 q=some (true,.row [.int .i64 ((i+1:Nat):Int)])→Φ D2)→callU Tryz.prog C e [.agg (Qb.c x).toArray] D (fun v H31=>v=.tuple #[]∧Φ H31))
 (hl:t.length+(joi f l.length).length≤140737488355328) (k:∀ D,Ww A D b (t++joi f l.length)→K D):QaN C (some (b,0)) s [44,32] e K B:=by
 have hqb:q≠b:=fun e'=>by
  rw [e'] at h0
  rcases hW.bl with h | ⟨_,h⟩
  ·rw [h] at h0; injection h0 with h0; injection h0 with _ h0; cases h0
  ·rw [h] at h0; injection h0 with h0; injection h0 with _ h0; cases h0
 apply Qe4
 unfold Qdg
 have hlen:=SlIs.len hs
 have hbd:=SlIs.bd hs
 refine ⟨fun y D=>∃ i:Nat,y=(i:Int)∧i≤l.length∧Ww A D b (t++joi f i)∧D q=some (true,.row [.int .i64 (i:Int)]),fun y _=>l.length - y.toNat,⟨0,rfl,Nat.zero_le _,by simpa [joi] using hW,h0⟩,?_⟩
 rintro _ D ⟨i,rfl,hi,hD,hDq⟩
 rw [hlen]
 refine ift.of (fun h=>?_) (fun h=>?_)
 ·have hlt : i < l.length := by have := of_decide_eq_true h; omega
  have hp:=QqQ f (n:=i+1) (m:=l.length) (by omega)
  simp only [joi,List.length_append] at hp
  refine SlIs.ld hs hD.le Qdo (by omega) rfl hlt fun x hx=>?_
  intro b13 n13
  refine nwT rfl ?_
  have l13:=Heap.le_put n13 (g:=.row (Qb.c x)) (m:=true)
  have c13:(D.put b13 (.row (Qb.c x))) b13=some (true,.row (Qb.c x)):=Heap.put_same ..
  have hD2:=hD.up l13
  have hDq2:=l13 _ _ hDq
  generalize D.put b13 (.row (Qb.c x))=D2 at *
  obtain ⟨hF,hAF⟩:=hD2.full
  have hbb:b13≠b:=fun e'=>by
   obtain ⟨g,hg⟩:=hD.bl.some
   rw [← e',n13] at hg; cases hg
  refine ⟨fun _ E=>Ww (D2.del b) E b (t++joi f i++cm i),?_,?_⟩
  ·refine ift.of (fun hp0 => ?_) (fun hp0 => ?_)
   ·have hi0 : i ≠ 0 := by have := of_decide_eq_true hp0; omega
    have e2 : cm i = [44, 32] := by cases i with
     | zero=>exact absurd rfl hi0
     | succ i=>rfl
    rw [e2] at hp ⊢
    refine ⟨_,rfl,hF.str (by simp only [List.length_append]; omega) fun E hE=>hE⟩
   ·have hi0 : i = 0 := by have := of_decide_eq_false hp0; omega
    subst hi0
    simpa [cm] using hF
  ·rintro _ E hE
   have hc:E b13=some (true,.row (Qb.c x)):=hE.le _ _ (by rw [Heap.del_ne _ hbb]; exact c13)
   have hq:E q=some (true,.row [.int .i64 (i:Int)]):=hE.le _ _ (by rw [Heap.del_ne _ hqb]; exact hDq2)
   refine bxT (c:=Qb.c) hc (he i hlt x E _ _ (hE.down hAF) hq hx (by simp only [List.length_append]; omega) fun D3 h3 q3=>?_)
   rw [Q4 (by omega) (by omega)]
   refine ⟨⟨i+1,by omega,by omega,?_,q3⟩,by first | omega | (dsimp only; omega)⟩
   simp only [joi]
   simpa using h3
 ·have hie : i = l.length := by have := of_decide_eq_false h; omega
  subst hie
  exact k D hD
theorem Qtv {A' D:Heap} {w:ExV} {y:Qb} {b1 b3 q i:Nat} {gs:List Str} {r:Qj} {u:Str} {K:Heap→Prop} (he:EW C A b w) (hy:ExIs A w y) (hA:A.le A') (hW:Ww A' D b u) (hDq:D q=some (true,.row [.int .i64 (i:Int)])) (hAq:A' q=none)
 (h1:A' b1=some (true,.row [pv (some (b,0))])) (h3:A' b3=some (true,.row (Qj.c r))) (hg:StL A r.Aggs gs) (hi:i < gs.length) (hl:u.length+(agT gs[i] w).length≤140737488355328)
 (k:∀ D2,Ww A' D2 b (u++agT gs[i] w)→D2 q=some (true,.row [.int .i64 ((i+1:Nat):Int)])→K D2):Qdx C y (b3,0) (q,0) (b1,0) K D:=by
 have hqb:q≠b:=fun e'=>by
  rw [e'] at hDq
  rcases hW.bl with h | ⟨_,h⟩
  ·rw [h] at hDq; injection hDq with h0; injection h0 with _ h0; cases h0
  ·rw [h] at hDq; injection hDq with h0; injection h0 with _ h0; cases h0
 have hbd:=SlIs.bd hg
 apply Qjg
 unfold Qfi
 intro b4 n4
 have l4:=Heap.le_put n4 (g:=.row (Qb.c y)) (m:=true)
 have c4:(D.put b4 (.row (Qb.c y))) b4=some (true,.row (Qb.c y)):=Heap.put_same ..
 have hW2:=hW.up l4
 have hq2:=l4 _ _ hDq
 have h4q:b4≠q:=fun e=>by rw [e,hDq] at n4; cases n4
 have hbb:b4≠b:=fun e'=>by
  obtain ⟨g,hg⟩:=hW.bl.some
  rw [e',hg] at n4; cases n4
 generalize D.put b4 (.row (Qb.c y))=D2 at *
 refine fL (hW2.le _ _ h3) rfl ⟨(i:Int),by rw [QaC hq2]; rfl,?_⟩
 refine SlIs.at_ hg (hA.trans hW2.le) (z:=1) (fun _=>rfl) (by omega) rfl hi fun p z hz hr=>⟨z,hr 0 _ rfl,⟨(i:Int),by rw [QaC hq2]; rfl,?_⟩⟩
 rw [hz.1]
 dsimp only
 rw [Q4 (by omega) (by omega)]
 refine ⟨_,hq2,Nat.zero_lt_one,?_⟩
 dsimp only
 have hW3:Ww A' (D2.put q (.row [.int .i64 ((i+1:Nat):Int)])) b u:=⟨hW2.le.put _ _ hAq,hW2.nb,by
  have:=hW2.bl
  unfold IsB at this ⊢
  rw [Heap.put_ne _ _ _ (Ne.symm hqb)]; exact this⟩
 have q3:(D2.put q (.row [.int .i64 ((i+1:Nat):Int)])) q=some (true,.row [.int .i64 ((i+1:Nat):Int)]):=Heap.put_same ..
 have c43:(D2.put q (.row [.int .i64 ((i+1:Nat):Int)])) b4=some (true,.row (Qb.c y)):=by rw [Heap.put_ne _ _ _ h4q]; exact c4
 rw [show (List.set [Value.int .i64 (i:Int)] 0 (.int .i64 ((i:Int)+1)))=[.int .i64 ((i+1:Nat):Int)] from by simp]
 generalize D2.put q (.row [.int .i64 ((i+1:Nat):Int)])=D3 at *
 obtain ⟨hG,hAG⟩:=hW3.full
 have gq:(D3.del b) q=some (true,.row [.int .i64 ((i+1:Nat):Int)]):=by rw [Heap.del_ne _ hqb]; exact q3
 have g4:(D3.del b) b4=some (true,.row (Qb.c y)):=by rw [Heap.del_ne _ hbb]; exact c43
 generalize D3.del b=G at *
 have g1:=hAG _ _ h1
 unfold agT at hl k
 refine ift.of (fun h=>?_) (fun h=>?_)
 ·have h0 : gs[i] = [] := by simpa using h
  rw [if_pos h0] at hl k
  refine fP0 (hG.le _ _ g1) (bxT (hG.le _ _ g4) (he hy (hA.trans hAG) hG (by omega) fun D4 h4=>k D4 (h4.down hAG) (h4.le _ _ gq)))
 ·have h0 : ¬ gs[i] = [] := fun e => by rw [e] at h; cases h
  rw [if_neg h0] at hl k
  simp only [List.length_append,List.length_cons,List.length_nil] at hl
  refine fP0 (hG.le _ _ g1) (Ww.texts [gs[i],[40]] hG (by simp; omega) fun E2 e2=>fP0 (e2.le _ _ g1) (bxT (e2.le _ _ g4) ?_))
  refine he hy (hA.trans hAG) e2 (by simp; omega) fun E3 e3=>fP0 (e3.le _ _ g1) ⟨(b,0),rfl,e3.byte (c:=41) rfl (by simp; omega) fun E4 e4=>k E4 ?_ (e4.le _ _ gq)⟩
  have:=e4.down hAG
  simpa using this
theorem Qtw (hFm:FmtC C) {v:RuV} (hok:ruOk v=true) {A' B:Heap} {x:Qj} {t:Str} {K:Heap→Prop} (hx:RuIs A v x) (hA:A.le A') (hW:Ww A' B b t) (hl:t.length+(ruT v).length≤140737488355328) (k:∀ D,Ww A' D b (t++ruT v)→K D):Qgr C (some (b,0)) x K B:=by
 obtain ⟨en,ha,hg,hb⟩:=hx
 unfold ruOk at hok
 simp only [Bool.and_eq_true,decide_eq_true_eq] at hok
 obtain ⟨⟨⟨⟨⟨o1,o2⟩,o3⟩,o4⟩,o5⟩,o6⟩:=hok
 apply QkN
 unfold Qgd
 refine hW.box fun b1 F1 D1 hF1 h1 hD1=>hD1.box fun b3 F D hF hb3 hD=>?_
 have hb1:=hF _ _ h1
 have hAF:=(hA.trans hF1).trans hF
 unfold ruT at hl k
 simp only [List.length_append,List.length_cons,List.length_nil] at hl
 refine ⟨F,hD.le,fP0 hb1 ⟨(b,0),rfl,fS hb3 rfl ?_⟩⟩
 rw [en.1]
 refine hD.str (by omega) fun E1 e1=>⟨e1.le,?_⟩
 intro q nq
 have hqb:q≠b:=fun e'=>by
  obtain ⟨g,hg⟩:=e1.bl.some
  rw [e',hg] at nq; cases nq
 have hFq:=e1.le.none nq
 refine ⟨_,Heap.put_same ..,Nat.zero_lt_one,?_⟩
 dsimp only
 rw [Heap.put_put]
 have e2:Ww F (E1.put q (.row [.int .i64 0])) b (t++v.r):=e1.up (Heap.le_put nq)
 have q2:(E1.put q (.row [.int .i64 0])) q=some (true,.row [.int .i64 0]):=Heap.put_same ..
 rw [show List.set [Value.int .i64 0] 0 (.int .i64 0)=[.int .i64 0] from rfl]
 generalize E1.put q (.row [.int .i64 0])=E2 at *
 refine fP0 (e2.le _ _ hb1) (fL (e2.le _ _ hb3) rfl ?_)
 apply QdE
 unfold QbI
 have hfj:=Qqr (gs:=v.g) (xs:=v.a) (f:=fun i=>if h:i < v.g.length∧i < v.a.length then agT v.g[i] v.a[i] else []) o3 (fun i h1 h2=>dif_pos ⟨h1,h2⟩) v.a.length (Nat.le_refl _)
 rw [List.take_length,List.take_of_length_le (by omega)] at hfj
 refine ⟨(b,0),rfl,e2.byteX (c:=40) rfl (by simp only [List.length_append]; omega) fun E3 e3 o3'=>?_⟩
 refine lsq (f:=fun i=>if h:i < v.g.length∧i < v.a.length then agT v.g[i] v.a[i] else []) (ha.le hAF fun _ _ _ h=>h) e3 (by rw [o3' _ hqb]; exact q2) (fun i hi y D u Φ hW hq hR hl hk=>?_) (by rw [hfj]; simp only [List.length_append,List.length_cons,List.length_nil]; omega) fun E4 e4=>?_
 ·have hi2 : i < v.g.length := by omega
  rw [dif_pos ⟨hi2,hi⟩] at hl hk
  refine ⟨_,[],[pv (some (b3,0)),pv (some (q,0)),pv (some (b1,0))],rfl,QjA,?_⟩
  show Qdx C y (b3,0) (q,0) (b1,0) Φ D
  exact Qtv (ews hFm o4 _ (List.getElem_mem hi)) hR hAF hW hq hFq hb1 hb3 hg hi2 hl hk
 rw [hfj] at e4
 refine ⟨(b,0),rfl,e4.byte (c:=41) rfl (by simp only [List.length_append,List.length_cons,List.length_nil]; omega) fun E5 e5=>?_⟩
 refine ⟨fun _ E=>Ww F E b (t++v.r++[40]++agsT 0 v.g v.a++[41]++(if v.b.length=0 then [] else [32,58,45,32]++boT v.b)),?_,?_⟩
 ·refine fL (e5.le _ _ hb3) rfl ?_
  rw [hb.len]
  refine ift.of (fun h=>?_) (fun h=>?_)
  ·have h0 : ¬ v.b.length = 0 := by have := of_decide_eq_true h; omega
   rw [if_neg h0] at hl ⊢
   simp only [List.length_append,List.length_cons,List.length_nil] at hl
   refine fP0 (e5.le _ _ hb1) ⟨(b,0),rfl,e5.str (by simp only [List.length_append,List.length_cons,List.length_nil]; omega) fun E6 e6=>fP0 (e6.le _ _ hb1) (fL (e6.le _ _ hb3) rfl (fP0 (e6.le _ _ hb1) ?_))⟩
   refine Qqx hFm o5 hb hAF e6 (by simp only [List.length_append,List.length_cons,List.length_nil]; omega) fun E7 e7=>?_
   simpa using e7
  ·have h0 : v.b.length = 0 := by have := of_decide_eq_false h; omega
   rw [if_pos h0,List.append_nil]; exact e5
 rintro _ E6 e6
 refine fP0 (e6.le _ _ hb1) ⟨(b,0),rfl,e6.str (by simp only [List.length_append,List.length_cons,List.length_nil]; omega) fun E7 e7=>k E7 ?_⟩
 have:=(e7.down hF).down hF1
 simpa using this
end
end
section
open Go Go.Proofs
theorem QtR {α:Type} (f:α→Str):∀ (i:Nat) (l:List α),jo [] f i l=(l.map f).flatten
 | i,[]=>rfl
 | i,v::l=>by simp only [jo,QtR f (i+1) l,List.map_cons,List.flatten_cons,ite_self,List.nil_append]
theorem QtT (m:MoV):moT m=hdT m.n++(jo [] imT 0 m.im++(jo [] tdT 0 m.ty++(jo [] rdT 0 m.re++(jo [] ruT 0 m.ru++jo [] neT 0 m.ne)))):=by
 unfold moT moL
 simp only [List.flatten_cons,List.flatten_append,QtR]
section
variable {C:Ctx} {A H:Heap} {b:Nat}
theorem QsB {v:Str} {b1:Nat} {A' B:Heap} {x:Qp} {t:Str} {K:Heap→Prop} (hx:ImIs v x) (hW:Ww A' B b t) (hp:A' b1=some (true,.row [pv (some (b,0))])) (hl:t.length+(imT v).length≤140737488355328) (k:∀ D,Ww A' D b (t++imT v)→K D):Qkh C x (b1,0) K B:=by
 apply QmK
 unfold QjM
 refine hW.box fun b4 F D hF h4 hD=>?_
 unfold imT at hl k
 simp only [List.length_append,List.length_cons,List.length_nil] at hl
 refine fP0 (hD.le _ _ (hF _ _ hp)) (fS (hD.le _ _ h4) rfl ?_)
 rw [hx.1]
 refine Ww.texts [[105,109,112,111,114,116,32],v,[10]] hD (by simp; omega) fun E hE=>k E ?_
 have:=hE.down hF
 simpa using this
theorem QsC (hFm:FmtC C) {v:NeV} (hok:neOk v=true) {b1:Nat} {A' B:Heap} {x:Qm} {t:Str} {K:Heap→Prop} (hx:NeIs A v x) (hA:A.le A') (hW:Ww A' B b t) (hp:A' b1=some (true,.row [pv (some (b,0))])) (hl:t.length+(neT v).length≤140737488355328) (k:∀ D,Ww A' D b (t++neT v)→K D):Qki C x (b1,0) K B:=by
 unfold neOk at hok
 simp only [Bool.and_eq_true] at hok
 apply QmL
 unfold QjN
 refine hW.box fun b4 F D hF h4 hD=>?_
 have hp':=hF _ _ hp
 unfold neT at hl k
 simp only [List.length_append,List.length_cons,List.length_nil] at hl
 refine fP0 (hD.le _ _ hp') (fS (hD.le _ _ h4) rfl ?_)
 rw [hx.1.1]
 refine Ww.texts [[110,101,118,101,114,32],v.n,[32,58,45,32]] hD (by simp; omega) fun E hE=>?_
 refine fP0 (hE.le _ _ hp') (fL (hE.le _ _ h4) rfl (fP0 (hE.le _ _ hp') ?_))
 refine Qqx hFm hok.2 hx.2 (hA.trans hF) hE (by simp; omega) fun E2 h2=>fP0 (h2.le _ _ hp') ⟨(b,0),rfl,?_⟩
 refine h2.str (by simp; omega) fun E3 h3=>k E3 ?_
 have:=h3.down hF
 simpa using this
theorem Qs1 (hT:MaxC C) (hFm:FmtC C) {v:MoV} {x:Qa} {K:Str→Int→Heap→Prop} (hx:MoIs A v x) (hA:A.le H) (hb:moD v≤4611686018427387904) (hl:moC v=0→(moT v).length≤140737488355328) (k:∀ D,H.le D→K (if moC v=0 then moT v else []) (moC v) D):Qjh C x K H:=by
 apply Qow
 unfold Qlu
 refine box1 fun b1 H2 hle h1=>bxT h1 (Qqq hT hx (hA.trans hle) hb ?_)
 refine ift.of (fun h=>?_) (fun h=>?_)
 ·have hc : ¬ moC v = 0 := by simpa using h
  have:=k H2 hle
  rw [if_neg hc] at this; exact this
 have hc:moC v=0:=by simpa using h
 have hl:=hl hc
 have k:=fun D hD=>k D hD
 rw [if_pos hc,hc] at k
 have hok:moOk v=true:=by
  unfold moC at hc
  split at hc
  ·cases hc
  ·split at hc
   ·cases hc
   ·rename_i h2; simpa using h2
 obtain ⟨en,him,hty,hre,hru,hne⟩:=hx
 unfold moOk at hok
 simp only [Bool.and_eq_true] at hok
 obtain ⟨⟨⟨⟨⟨o1,o2⟩,o3⟩,o4⟩,o5⟩,o6⟩:=hok
 rw [QtT] at hl k
 simp only [List.length_append] at hl
 intro b n8
 have hW0:Ww H2 (H2.put b (.trow 147 0 [pv none,slv Sl.nil])) b []:=⟨Heap.le_put n8,n8,IsB.new⟩
 generalize H2.put b (.trow 147 0 [pv none,slv Sl.nil])=D0 at *
 intro b10 n10
 refine ⟨_,Heap.put_same ..,Nat.zero_lt_one,?_⟩
 dsimp only
 rw [Heap.put_put,show List.set [pv none] 0 (pv (some (b,0)))=[pv (some (b,0))] from rfl]
 have hbb:b10≠b:=fun e'=>by
  obtain ⟨g,hg⟩:=hW0.bl.some
  rw [e',hg] at n10; cases n10
 obtain ⟨hW,hHF⟩:=(hW0.up (Heap.le_put n10 (g:=.row [pv (some (b,0))]))).full
 have hp:((D0.put b10 (.row [pv (some (b,0))])).del b) b10=some (true,.row [pv (some (b,0))]):=by rw [Heap.del_ne _ hbb]; exact Heap.put_same ..
 generalize D0.put b10 (.row [pv (some (b,0))])=D1 at *
 generalize D1.del b=F at *
 have h1':=hHF _ _ h1
 have hAF:=(hA.trans hle).trans hHF
 refine fP0 (hW.le _ _ hp) (fS (hW.le _ _ h1') rfl ?_)
 rw [en.1]
 have hh:[[109,111,100,117,108,101,32],v.n,[10]].flatten=hdT v.n:=by simp [hdT]
 refine Ww.texts [[109,111,100,117,108,101,32],v.n,[10]] hW (by rw [hh]; simp only [List.length_nil]; omega) fun E1 e1=>?_
 rw [hh,List.nil_append] at e1
 refine fP0 (e1.le _ _ hp) (fL (e1.le _ _ h1') rfl ?_)
 refine Qsi (him.le hAF fun _ _ _ h=>h) e1 (f:=imT) (fun w hw y D u Φ hW hR hl hk=>⟨_,[],[pv (some (b10,0))],rfl,Qnn,QsB hR hW hp hl hk⟩) (by omega) fun E2 e2=>?_
 refine fP0 (e2.le _ _ hp) (fL (e2.le _ _ h1') rfl (fP0 (e2.le _ _ hp) ?_))
 refine Qro (hty.le hAF fun _ _ _ h=>h) e2 (f:=tdT) (fun w hw y D u Φ hW hR hl hk=>⟨_,[pv (some (b,0))],[],rfl,Qi4,Qqn hR hAF hW hl hk⟩) (by simp only [List.length_append]; omega) fun E3 e3=>?_
 refine fP0 (e3.le _ _ hp) (fL (e3.le _ _ h1') rfl (fP0 (e3.le _ _ hp) ?_))
 refine Qsj (hre.le hAF fun _ _ _ h=>h) e3 (f:=rdT) (fun w hw y D u Φ hW hR hl hk=>⟨_,[pv (some (b,0))],[],rfl,Qjz,Qru hR hAF hW hl hk⟩) (by simp only [List.length_append]; omega) fun E4 e4=>?_
 refine fP0 (e4.le _ _ hp) (fL (e4.le _ _ h1') rfl (fP0 (e4.le _ _ hp) ?_))
 refine Quw (hru.le hAF fun _ _ _ h=>h) e4 (f:=ruT) (fun w hw y D u Φ hW hR hl hk=>⟨_,[pv (some (b,0))],[],rfl,QkY,Qtw hFm (List.all_eq_true.1 o5 w hw) hR hAF hW hl hk⟩) (by simp only [List.length_append]; omega) fun E5 e5=>?_
 refine fP0 (e5.le _ _ hp) (fL (e5.le _ _ h1') rfl ?_)
 refine Qth (hne.le hAF fun _ _ _ h=>h) e5 (f:=neT) (fun w hw y D u Φ hW hR hl hk=>⟨_,[],[pv (some (b10,0))],rfl,Qno,QsC hFm (List.all_eq_true.1 o6 w hw) hR hAF hW hp hl hk⟩) (by simp only [List.length_append]; omega) fun E6 e6=>?_
 refine fP0 (e6.le _ _ hp) ⟨(b,0),rfl,Qpg e6.bl liB147 (by simp only [List.length_append]; omega) ?_⟩
 have:=k (E6.put b (.bld tyW tyE (hdT v.n++jo [] imT 0 v.im++jo [] tdT 0 v.ty++jo [] rdT 0 v.re++jo [] ruT 0 v.ru++jo [] neT 0 v.ne))) ((hle.trans hHF).trans (e6.le.put _ _ e6.nb))
 simpa only [List.append_assoc] using this
end
end
section
open Go Go.Proofs
/-- the sum of a list -/
def sL {α:Type} (f:α→Nat):List α→Nat
 | []=>0
 | v::l=>f v+sL f l
theorem QpQ {α:Type} (f:α→Nat):∀ (a b:List α),sL f (a++b)=sL f a+sL f b
 | [],b=>by simp [sL]
 | v::a,b=>by simp only [List.cons_append,sL,QpQ f a b]; omega
theorem QuQ {α:Type} {f:α→Nat} {l:List α} {i:Nat} (h:i < l.length):sL f (l.take (i+1))=sL f (l.take i)+f l[i]:=by
 rw [List.take_add_one,List.getElem?_eq_getElem h,Option.toList_some,QpQ]; simp [sL]
theorem Qiv {α:Type} {f g:α→Nat} {l:List α} (h:∀ v ∈ l,f v≤g v):sL f l≤sL g l:=by
 induction l with
 | nil=>exact Nat.le_refl _
 | cons v l ih=>
  simp only [sL]
  have:=h v (List.mem_cons_self ..)
  have:=ih fun w hw=>h w (List.mem_cons_of_mem _ hw)
  omega
theorem QjE {α : Type} (c : Nat) (f : α → Nat) : ∀ l : List α, sL (fun v => c * f v) l = c * sL f l
 | []=>rfl
 | v::l=>by simp only [sL,QjE c f l,Nat.mul_add]
theorem Qnx {α : Type} : ∀ l : List α, sL (fun _ => 1) l = l.length
 | []=>rfl
 | v::l=>by simp only [sL,Qnx l,List.length_cons]; omega
theorem Qjr {α:Type} {f g:α→Nat} {l:List α} (h:∀ v ∈ l,f v≤g v):mxL f l≤sL g l:=by
 induction l with
 | nil=>exact Nat.le_refl _
 | cons v l ih=>
  simp only [sL,mxL]
  have:=h v (List.mem_cons_self ..)
  have:=ih fun w hw=>h w (List.mem_cons_of_mem _ hw)
  omega
mutual
def tySz:TyV→Nat
 | .mk _ a=>tysSz a+1
def tysSz:List TyV→Nat
 | []=>0
 | v::l=>tySz v+tysSz l
end
mutual
def exSz:ExV→Nat
 | .mk _ _ _ a=>exsSz a+1
def exsSz:List ExV→Nat
 | []=>0
 | v::l=>exSz v+exsSz l
end
theorem Qpe (v:TyV):tySz v=sL tySz v.a+1:=by
 obtain ⟨n,a⟩:=v
 have:∀ l,tysSz l=sL tySz l:=fun l=>by
  induction l with
  | nil=>rfl
  | cons v l ih=>simp only [tysSz,sL,ih]
 simp only [tySz,TyV.a,this]
theorem Qp9 (v:ExV):exSz v=sL exSz v.a+1:=by
 obtain ⟨k,n,u,a⟩:=v
 have:∀ l,exsSz l=sL exSz l:=fun l=>by
  induction l with
  | nil=>rfl
  | cons v l ih=>simp only [exsSz,sL,ih]
 simp only [exSz,ExV.a,this]
def fdsSz (l:List FdV):Nat:=sL (fun f=>tySz f.t) l
def liSz (x:LiV):Nat:=sL exSz x.a+1
def cnSz (c:CnV):Nat:=fdsSz c.f+1
def tdSz (t:TdV):Nat:=sL cnSz t.cs+t.ps.length+1
def rdSz (r:RdV):Nat:=fdsSz r.f+1
def ruSz (r:RuV):Nat:=sL exSz r.a+sL liSz r.b+1
def neSz (n:NeV):Nat:=sL liSz n.b+1
def moSz (m:MoV):Nat:=m.im.length+sL tdSz m.ty+sL rdSz m.re+sL ruSz m.ru+sL neSz m.ne
theorem QvA:∀ v,tyD v≤tySz v:=by
 refine TyV.rec_ fun v ih=>?_
 rw [Qt6,Qpe]
 have:=Qjr ih
 omega
theorem QtM:∀ v,exD v≤exSz v:=by
 refine ExV.rec_ fun v ih=>?_
 rw [QtL,Qp9]
 have:=Qjr ih
 omega
theorem Qr3 (l:List FdV):fdsD l≤fdsSz l:=Qjr fun v _=>QvA v.t
theorem Qvj (x:LiV):liD x≤liSz x:=by
 unfold liD liSz
 rw [QoL]
 have:=Qjr (l:=x.a) fun v _=>QtM v
 omega
theorem Qvm (m:MoV):moD m≤moSz m:=by
 unfold moD moSz
 have h1:mxL tdD m.ty≤sL tdSz m.ty:=Qjr fun t _=>by
  unfold tdD tdSz
  have:=Qjr (f:=fun c:CnV=>fdsD c.f) (g:=cnSz) (l:=t.cs) fun c _=>by unfold cnSz; have:=Qr3 c.f; omega
  omega
 have h2:mxL (fun r:RdV=>fdsD r.f) m.re≤sL rdSz m.re:=Qjr fun r _=>by unfold rdSz; have:=Qr3 r.f; omega
 have hl:∀ l:List LiV,lisD l≤sL liSz l:=fun l=>Qjr fun x _=>Qvj x
 have h3:mxL ruD m.ru≤sL ruSz m.ru:=Qjr fun r _=>by
  unfold ruD ruSz
  rw [QoL]
  have:=Qjr (l:=r.a) fun v _=>QtM v
  have:=hl r.b
  omega
 have h4:mxL (fun n:NeV=>lisD n.b) m.ne≤sL neSz m.ne:=Qjr fun n _=>by unfold neSz; have:=hl n.b; omega
 omega
theorem Qna {α : Type} {sep : Str} {f : α → Str} : ∀ (i : Nat) (l : List α), (jo sep f i l).length ≤ sL (fun v => (f v).length + sep.length) l
 | i,[]=>Nat.le_refl _
 | i,v::l=>by
  have:=Qna (sep:=sep) (f:=f) (i+1) l
  simp only [jo,sL,List.length_append]
  by_cases h:i=0
  ·rw [if_pos h]; simp only [List.length_nil]; omega
  ·rw [if_neg h]; omega
theorem QoN {sep : Nat → Str} (hs : ∀ i, (sep i).length ≤ 6) : ∀ (i : Nat) (l : List ExV), (exsT sep i l).length ≤ sL (fun v => (exT v).length + 6) l
 | i,[]=>Nat.le_refl _
 | i,v::l=>by
  have:=QoN hs (i+1) l
  have:=hs i
  simp only [exsT,sL,List.length_append]; omega
theorem Qfq {s:Str} (h:namS s=true):s.length≤32:=by
 unfold namS nameS at h
 simp only [Bool.and_eq_true,decide_eq_true_eq] at h
 exact h.1.1.1.2
theorem Qmy {s:Str} (h:longS s=true):s.length≤65:=by
 unfold longS at h
 by_cases hm:(46:UInt8) ∈ s
 ·obtain ⟨a,b,e1,e2⟩:=Qmx s hm
  rw [e1,QmY a b e2] at h
  simp only [Bool.and_eq_true] at h
  have:=Qfq h.1
  have:=Qfq h.2
  rw [e1]; simp only [List.length_append,List.length_cons]; omega
 ·rw [QmZ s hm] at h
  have:=Qfq h; omega
theorem Qsv {s:Str} (h:parS s=true):s.length≤33:=by
 cases s with
 | nil=>simp
 | cons c t=>
  simp only [parS,Bool.and_eq_true] at h
  have:=Qfq h.2
  simp only [List.length_cons]; omega
theorem QsW {s:Str} (h:varS s=true):s.length≤32:=by
 unfold varS at h
 simp only [Bool.and_eq_true,decide_eq_true_eq] at h
 exact h.1.1.2
theorem Qvq {s:Str} (h:0 < arS s):s.length≤3:=by
 unfold arS at h
 split at h
 ·rename_i h1
  have h1:=List.contains_iff_mem.1 h1
  revert h1
  have:∀ w ∈ opsW,w.length≤3:=by decide
  exact this s
 ·split at h
  ·rename_i h1
   rcases h1 with h1 | h1
   ·rw [h1]; decide
   ·unfold funB at h1
    rcases of_decide_eq_true h1 with h1 | h1 | h1 | h1 <;> rw [h1] <;> decide
  ·omega
theorem Qu5 {s:Str} (h:agOk s=true):s.length≤5:=by
 rcases of_decide_eq_true h with h | h | h | h | h <;> rw [h] <;> decide
theorem QuS {n:Str} {m:Nat} (h:tyN n m=true):n.length≤65:=by
 unfold tyN at h
 split at h
 ·rename_i h1; rcases h1 with h1 | h1 | h1 | h1 <;> rw [h1] <;> decide
 ·split at h
  ·rename_i h1; rw [h1]; decide
  ·simp only [Bool.or_eq_true,Bool.and_eq_true] at h
   rcases h with h | h
   ·have:=Qsv h.1; omega
   ·exact Qmy h.1
theorem QuT:∀ v,tyOk v=true→(tyT v).length+2≤100*tySz v:=by
 refine TyV.rec_ fun v ih h=>?_
 rw [QsS,Bool.and_eq_true,List.all_eq_true] at h
 have h1:=QuS h.1
 have h2:(jo [44,32] tyT 0 v.a).length≤100*sL tySz v.a:=by
  refine Nat.le_trans (Qna 0 v.a) ?_
  rw [← QjE]
  exact Qiv fun w hw=>ih w hw (h.2 w hw)
 rw [Qt7,Qpe]
 simp only [List.length_append]
 have h3:(if v.n=tupS then ([]:Str) else v.n).length≤65:=by split <;> first | exact h1 | simp
 have h4:(if v.n=tupS∨0 < v.a.length then 40::(jo [44,32] tyT 0 v.a++[41]) else []).length≤(jo [44,32] tyT 0 v.a).length+2:=by split <;> simp
 omega
theorem QqD {nm:Bool} {l:List FdV} (h:∀ f ∈ l,fdOk nm f=true):(fdsT l).length≤100*(fdsSz l+l.length):=by
 unfold fdsT fdsSz
 refine Nat.le_trans (Qna 0 l) ?_
 rw [Nat.mul_add,← QjE,← Qnx l,← QjE]
 have:∀ l:List FdV,(∀ f ∈ l,fdOk nm f=true)→sL (fun v=>(fdT v).length+([44,32]:Str).length) l≤sL (fun v=>100*tySz v.t) l+sL (fun _=>100*1) l:=by
  intro l
  induction l with
  | nil=>intro _; exact Nat.le_refl _
  | cons f l ih=>
   intro h
   have h1:=h f (List.mem_cons_self ..)
   have h2:=ih fun w hw=>h w (List.mem_cons_of_mem _ hw)
   unfold fdOk at h1
   simp only [Bool.and_eq_true,Bool.or_eq_true] at h1
   have h3:=QuT f.t h1.2
   have h4:f.n.length≤32:=by
    rcases h1.1 with h1 | h1
    ·exact Qfq h1
    ·rw [List.isEmpty_iff.1 h1.2]; simp
   simp only [sL]
   have h5:(fdT f).length≤f.n.length+2+(tyT f.t).length:=by
    unfold fdT
    simp only [List.length_append]
    split <;> simp
   simp only [List.length_cons,List.length_nil] at h2 ⊢
   omega
 exact this l h
theorem QtG (v:TyV):1≤tySz v:=by rw [Qpe]; omega
theorem Qr4 (l:List FdV):l.length≤fdsSz l:=by
 rw [← Qnx l]; exact Qiv fun v _=>QtG v.t
theorem Qsq (i:Nat):(noSep i).length≤6:=by simp [noSep]
theorem Qpr (i:Nat):(cm i).length≤6:=by cases i <;> simp [cm]
theorem Qvi (i:Nat):(ifSep i).length≤6:=by
 match i with
 | 0=>simp [ifSep]
 | 1=>simp [ifSep]
 | i+2=>simp [ifSep]
section
variable {A:Heap}
theorem Quu {v:V} (hB:VB v) (h:litV v=true):(showV v).length≤17000:=by
 unfold litV at h
 simp only [Bool.and_eq_true,decide_eq_true_eq] at h
 have hm:=(Qtj v).1 h.2
 have:=QsM v hB hm.2.1 hm.2.2
 have hl:v.l=[]:=by
  rcases (QqX hm.2.1).2 with h1 | h1 | h1 | h1 | h1 | h1
  ·exact h1.2.2.2
  ·exact h1.2.2
  ·exact h1.2.2.2
  ·exact h1.2.2
  ·exfalso; have:=h1.1; omega
  ·exfalso; have:=h1.1; omega
 have hz:vsize v=1:=by
  obtain ⟨k,n,s,l⟩:=v
  have hl:l=[]:=hl
  subst hl; rfl
 rw [hz] at this; omega
theorem QrY {p:Bool}:∀ v:ExV,∀ x,ExIs A v x→exOk p v=true→(exT v).length+6≤18000*exSz v:=by
 refine ExV.rec_ fun v ih x hx h=>?_
 obtain ⟨ek,en,hv,hB,hs⟩:=Qei.1 hx
 have hsub:=QqB h
 have hl:∀ {sep:Nat→Str},(∀ i,(sep i).length≤6)→(exsT sep 0 v.a).length≤18000*sL exSz v.a:=fun hsep=>by
  refine Nat.le_trans (QoN hsep 0 v.a) ?_
  rw [← QjE]
  refine Qiv fun w hw=>?_
  obtain ⟨i,hi,rfl⟩:=List.getElem_of_mem hw
  obtain ⟨xs,_,_,h3,_,h4⟩:=hs
  exact ih _ hw _ (h4 i _ _ (List.getElem?_eq_getElem hi) (List.getElem?_eq_getElem (by omega))) (hsub _ hw)
 rw [Qp9]
 have hcm:=hl Qpr
 rw [QoK] at h
 by_cases h1:v.k=1
 ·rw [if_pos h1] at h
  simp only [Bool.and_eq_true] at h
  rw [exE1 h1]
  have:=Quu hB h.1.1
  omega
 rw [if_neg h1] at h
 simp only [Bool.and_eq_true] at h
 have hN:=h.1.1
 rcases QrX h1 hN with hk | hk | hk | hk | hk | hk | hk
 ·rw [exE2 hk]
  rw [hk,exN2,Bool.and_eq_true] at hN
  have:=QsW hN.1; omega
 ·rw [exE3 hk]; simp only [List.length_cons,List.length_nil]; omega
 ·rw [exE4 hk]
  simp only [List.length_append,List.length_cons,List.length_nil]; omega
 ·rw [exE5 hk]
  rw [hk,exN5,Bool.and_eq_true] at hN
  have:=Qmy hN.1
  have h4:(if v.a.length=0 then ([]:Str) else 40::(exsT cm 0 v.a++[41])).length≤(exsT cm 0 v.a).length+2:=by split <;> simp
  simp only [List.length_append]; omega
 ·rw [exE6 hk]
  rw [hk,exN6] at hN
  simp only [Bool.and_eq_true,decide_eq_true_eq] at hN
  have ho:=Qvq hN.1.2
  have hno:=hl Qsq
  have hop:=hl (sep:=opSep v.n) (fun i=>by
   cases i with
   | zero=>simp [opSep]
   | succ i=>simp only [opSep,List.length_cons,List.length_append,List.length_nil]; omega)
  split
  ·simp only [List.length_append,List.length_cons,List.length_nil]; omega
  ·split
   ·simp only [List.length_append,List.length_cons,List.length_nil]; omega
   ·simp only [List.length_append,List.length_cons,List.length_nil]; omega
 ·rw [exE7 hk]
  rw [hk,exN7] at hN
  simp only [Bool.and_eq_true] at hN
  have:=Qfq hN.1.2
  have h4:(if brkE v.a=true then 40::(exsT cm 0 v.a++[41]) else exsT cm 0 v.a).length≤(exsT cm 0 v.a).length+2:=by split <;> simp
  simp only [List.length_append,List.length_cons]; omega
 ·rw [exE8 hk]
  have:=hl Qvi
  simp only [List.length_append,List.length_cons,List.length_nil]; omega
theorem Qqb {p:Bool} {l:List ExV} {s:Sl} {sep:Nat→Str} (hs:ExL A s l) (hsep:∀ i,(sep i).length≤6) (hok:exsOk p l=true):(exsT sep 0 l).length≤18000*sL exSz l:=by
 refine Nat.le_trans (QoN hsep 0 l) ?_
 rw [← QjE]
 refine Qiv fun w hw=>?_
 rw [QfX] at hok
 obtain ⟨i,hi,rfl⟩:=List.getElem_of_mem hw
 obtain ⟨xs,_,_,h3,_,h4⟩:=hs
 exact QrY _ _ (h4 i _ _ (List.getElem?_eq_getElem hi) (List.getElem?_eq_getElem (by omega))) (List.all_eq_true.1 hok _ hw)
theorem Qus {v:LiV} {x:Qk} (hx:LiIs A v x) (h:liOk v=true):(liT v).length+2≤18000*liSz v:=by
 obtain ⟨ek,en,hs⟩:=hx
 unfold liOk at h
 unfold liT liSz
 by_cases h12:v.k=1∨v.k=2
 ·rw [if_pos h12] at h
  simp only [Bool.and_eq_true] at h
  have h1:=Qqb hs Qpr h.2
  have h2:=Qmy h.1.1
  rcases h12 with hk | hk
  ·rw [if_pos hk]; simp only [List.length_append,List.length_cons,List.length_nil]; omega
  ·rw [if_neg (by rw [hk]; decide),if_pos hk]; simp only [List.length_append,List.length_cons,List.length_nil]; omega
 rw [if_neg h12] at h
 rw [if_neg fun e=>h12 (.inl e),if_neg fun e=>h12 (.inr e)]
 by_cases h3:v.k=3
 ·rw [if_pos h3] at h
  simp only [Bool.and_eq_true] at h
  have h1:=Qqb hs Qpr h.2
  rw [if_neg (by rw [h3]; decide)]
  split
  ·simp only [List.length_append,List.length_cons,List.length_nil]; omega
  ·omega
 rw [if_neg h3] at h
 by_cases h4:v.k=4
 ·rw [if_pos h4] at h
  simp only [Bool.and_eq_true] at h
  have h1:=Qqb hs Qpr h.2
  have h2:=QsW h.1.1
  rw [if_pos h4]; simp only [List.length_append,List.length_cons,List.length_nil]; omega
 ·rw [if_neg h4] at h; cases h
theorem SlIs.mem {α β:Type} {R:α→β→Prop} {c:β→List Value} {s:Sl} {l:List α} (hs:SlIs R c A s l) {v:α} (hv:v ∈ l):∃ x,R v x:=by
 obtain ⟨i,hi,rfl⟩:=List.getElem_of_mem hv
 obtain ⟨xs,_,_,h3,_,h4⟩:=hs
 exact ⟨_,h4 i _ _ (List.getElem?_eq_getElem hi) (List.getElem?_eq_getElem (by omega))⟩
theorem QrN {l:List LiV} {s:Sl} (hs:LiL A s l) (h:l.all liOk=true):(boT l).length≤18000*sL liSz l:=by
 unfold boT
 refine Nat.le_trans (Qna 0 l) ?_
 rw [← QjE]
 refine Qiv fun w hw=>?_
 obtain ⟨x,hx⟩:=hs.mem hw
 exact Qus hx (List.all_eq_true.1 h w hw)
theorem Qqs : ∀ (i : Nat) (gs : List Str) (xs : List ExV), (∀ g ∈ gs, g.length ≤ 5) → (agsT i gs xs).length ≤ sL (fun v => (exT v).length + 6) xs + 9 * gs.length
 | i,[],xs,_=>by simp [agsT]
 | i,g::gs,[],_=>by simp [agsT]
 | i,g::gs,x::xs,h=>by
  have h1:=Qqs (i+1) gs xs fun g hg=>h g (List.mem_cons_of_mem _ hg)
  have h2:=h g (List.mem_cons_self ..)
  have h3:=Qpr i
  simp only [agsT,sL,List.length_append,List.length_cons]
  have h4:(agT g x).length≤g.length+(exT x).length+2:=by
   unfold agT
   split
   ·omega
   ·simp only [List.length_append,List.length_cons,List.length_nil]; omega
  omega
theorem QuN {v:RuV} {x:Qj} (hx:RuIs A v x) (h:ruOk v=true):(ruT v).length≤18000*ruSz v:=by
 obtain ⟨en,ha,hg,hb⟩:=hx
 unfold ruOk at h
 simp only [Bool.and_eq_true,decide_eq_true_eq] at h
 obtain ⟨⟨⟨⟨⟨o1,o2⟩,o3⟩,o4⟩,o5⟩,o6⟩:=h
 have h1:=Qmy o1
 have h2:=QrN hb o5
 have h3:=Qqs 0 v.g v.a fun g hg=>Qu5 (List.all_eq_true.1 o6 g hg)
 have h4:sL (fun v=>(exT v).length+6) v.a≤18000*sL exSz v.a:=by
  rw [← QjE]
  refine Qiv fun w hw=>?_
  rw [QfX] at o4
  obtain ⟨x,hx⟩:=ha.mem hw
  exact QrY w x hx (List.all_eq_true.1 o4 w hw)
 unfold ruT ruSz
 have h5:(if v.b.length=0 then ([]:Str) else [32,58,45,32]++boT v.b).length≤(boT v.b).length+4:=by
  split
  ·simp
  ·simp only [List.length_append,List.length_cons,List.length_nil]; omega
 simp only [List.length_append,List.length_cons,List.length_nil]
 omega
theorem QuC {v:NeV} {x:Qm} (hx:NeIs A v x) (h:neOk v=true):(neT v).length≤18000*neSz v:=by
 unfold neOk at h
 simp only [Bool.and_eq_true] at h
 have h1:=Qfq h.1.1
 have h2:=QrN hx.2 h.2
 unfold neT neSz
 simp only [List.length_append,List.length_cons,List.length_nil]
 omega
theorem QuR {v:TdV} (h:tdOk v=true):(tdT v).length≤18000*tdSz v:=by
 unfold tdOk at h
 simp only [Bool.and_eq_true,decide_eq_true_eq] at h
 obtain ⟨⟨⟨⟨⟨o1,o2⟩,o3⟩,o4⟩,o5⟩,o6⟩:=h
 have h1:=Qfq o1
 have h2:(jo [44,32] id 0 v.ps).length≤100*v.ps.length:=by
  refine Nat.le_trans (Qna 0 v.ps) ?_
  rw [← Qnx v.ps,← QjE]
  refine Qiv fun w hw=>?_
  have:=Qsv (List.all_eq_true.1 o3 w hw)
  simp only [id_eq,List.length_cons,List.length_nil]; omega
 have h3:(jo [32,124,32] cnT 0 v.cs).length≤1000*sL cnSz v.cs:=by
  refine Nat.le_trans (Qna 0 v.cs) ?_
  rw [← QjE]
  refine Qiv fun w hw=>?_
  have h4:=List.all_eq_true.1 o6 w hw
  unfold cnOk fdsOk at h4
  simp only [Bool.and_eq_true,decide_eq_true_eq] at h4
  have h5:=Qfq h4.1
  have h6:=QqD (List.all_eq_true.1 h4.2.2)
  have h7:=Qr4 w.f
  unfold cnT cnSz
  have h8:(if w.f.length=0 then ([]:Str) else 40::(fdsT w.f++[41])).length≤(fdsT w.f).length+2:=by split <;> simp
  simp only [List.length_append,List.length_cons,List.length_nil] at h8 ⊢
  omega
 unfold tdT tdSz
 have h4:(if v.ps.length=0 then ([]:Str) else 40::(jo [44,32] id 0 v.ps++[41])).length≤(jo [44,32] id 0 v.ps).length+2:=by split <;> simp
 have h5:(pubT v.p).length≤4:=by cases v.p <;> simp [pubT]
 simp only [List.length_append,List.length_cons,List.length_nil] at h4 ⊢
 omega
theorem QuI {v:RdV} (h:rdOk v=true):(rdT v).length≤18000*rdSz v:=by
 unfold rdOk fdsOk at h
 simp only [Bool.and_eq_true,decide_eq_true_eq] at h
 have h1:=Qfq h.1
 have h6:=QqD (List.all_eq_true.1 h.2.2)
 have h7:=Qr4 v.f
 unfold rdT rdSz
 have h5:(pubT v.p).length≤4:=by cases v.p <;> simp [pubT]
 have h8:(if v.i=true then ([105,110,112,117,116,32]:Str) else [114,101,108,32]).length≤6:=by split <;> simp
 simp only [List.length_append,List.length_cons,List.length_nil]
 omega
theorem Qm9 {α:Type} {f:α→Str} {g:α→Nat} {l:List α} (h:∀ v ∈ l,(f v).length≤18000*g v):(jo [] f 0 l).length≤18000*sL g l:=by
 refine Nat.le_trans (Qna 0 l) ?_
 rw [← QjE]
 exact Qiv fun w hw=>h w hw
theorem QuA {v:MoV} {x:Qa} (hx:MoIs A v x) (h:moOk v=true):(moT v).length≤18000*(moSz v+1):=by
 obtain ⟨en,him,hty,hre,hru,hne⟩:=hx
 unfold moOk at h
 simp only [Bool.and_eq_true] at h
 obtain ⟨⟨⟨⟨⟨o1,o2⟩,o3⟩,o4⟩,o5⟩,o6⟩:=h
 have h0:=Qfq o1
 have h1:(jo [] imT 0 v.im).length≤18000*sL (fun _=>1) v.im:=Qm9 fun w hw=>by
  have:=Qfq (List.all_eq_true.1 o2 w hw)
  unfold imT; simp only [List.length_append,List.length_cons,List.length_nil]; omega
 have h2:(jo [] tdT 0 v.ty).length≤18000*sL tdSz v.ty:=Qm9 fun w hw=>QuR (List.all_eq_true.1 o3 w hw)
 have h3:(jo [] rdT 0 v.re).length≤18000*sL rdSz v.re:=Qm9 fun w hw=>QuI (List.all_eq_true.1 o4 w hw)
 have h4:(jo [] ruT 0 v.ru).length≤18000*sL ruSz v.ru:=Qm9 fun w hw=>by
  obtain ⟨y,hy⟩:=hru.mem hw
  exact QuN hy (List.all_eq_true.1 o5 w hw)
 have h5:(jo [] neT 0 v.ne).length≤18000*sL neSz v.ne:=Qm9 fun w hw=>by
  obtain ⟨y,hy⟩:=hne.mem hw
  exact QuC hy (List.all_eq_true.1 o6 w hw)
 rw [Qnx] at h1
 rw [QtT]
 unfold moSz hdT
 simp only [List.length_append,List.length_cons,List.length_nil]
 omega
end
end
section
open Go Go.Proofs
theorem jb {P:Prop} {R:Bool→Heap→Prop} {body:(Bool→Heap→Prop)→Prop} (H0:Heap) (h1:body (fun b E=>E=H0∧(b=true↔P))) (h2:∀ b,(b=true↔P)→R b H0):jn (α:=Bool) R body:=⟨fun b E=>E=H0∧(b=true↔P),h1,fun b E hh=>by obtain ⟨e,h⟩:=hh; subst e; exact h2 b h⟩
theorem nand {b:Bool} {P Q:Prop} (hb:b=true↔P) (h:b=false):(false=true↔P∧Q):=⟨fun h'=>(nomatch h'),fun ⟨hp,_⟩=>by rw [hb.2 hp] at h; cases h⟩
theorem yand {b r:Bool} {P Q:Prop} (hb:b=true↔P) (h:b=true) (hr:r=true↔Q):(r=true↔P∧Q):=⟨fun h'=>⟨hb.1 h,hr.1 h'⟩,fun ⟨_,hq⟩=>hr.2 hq⟩
theorem Qvw {α:Type} {v w:α} {b:Bool} (h:b=true↔v=w):b=sm v w:=by
 rw [Bool.eq_iff_iff,h,sm_t]
theorem iq {a b a' b':Int} (ha:a=a') (hb:b=b'):((a == b)=true↔a' = b'):=by rw [ha,hb]; simp
theorem sq {a b a' b':Str} (ha:a=a') (hb:b=b'):((a == b)=true↔a' = b'):=by rw [ha,hb]; simp
theorem sqN {a b a' b':Str} (ha:Nm a a') (hb:Nm b b'):((a == b)=true↔a' = b'):=sq ha.1 hb.1
theorem bq {a b a' b':Bool} (ha:a=a') (hb:b=b'):((a == b)=true↔a' = b'):=by rw [ha,hb]; simp
theorem TyV.eq_iff {v w:TyV}:v=w↔v.n=w.n∧v.a=w.a:=by
 obtain ⟨a,b⟩:=v; obtain ⟨e,f⟩:=w
 constructor
 ·rintro ⟨⟩; exact ⟨rfl,rfl⟩
 ·rintro ⟨h1,h2⟩
  have h1:a=e:=h1; have h2:b=f:=h2
  rw [h1,h2]
theorem ExV.eq_iff {v w:ExV}:v=w↔((v.k=w.k∧v.n=w.n)∧v.v=w.v)∧v.a=w.a:=by
 obtain ⟨a,b,c,d⟩:=v; obtain ⟨e,f,g,h⟩:=w
 constructor
 ·rintro ⟨⟩; exact ⟨⟨⟨rfl,rfl⟩,rfl⟩,rfl⟩
 ·rintro ⟨⟨⟨h1,h2⟩,h3⟩,h4⟩
  have h1:a=e:=h1; have h2:b=f:=h2; have h3:c=g:=h3; have h4:d=h:=h4
  rw [h1,h2,h3,h4]
theorem LiV.eq_iff {v w:LiV}:v=w↔(v.k=w.k∧v.r=w.r)∧v.a=w.a:=by cases v; cases w; simp [and_assoc]
theorem FdV.eq_iff {v w:FdV}:v=w↔v.n=w.n∧v.t=w.t:=by cases v; cases w; simp
theorem RuV.eq_iff {v w:RuV}:v=w↔((v.r=w.r∧v.a=w.a)∧v.g=w.g)∧v.b=w.b:=by cases v; cases w; simp [and_assoc]
section
variable {C:Ctx} {H A:Heap}
theorem SlIs.ldS {s:Sl} {l:List Str} {i:Nat} {x:Int} {K:Str→Prop} (h:StL A s l) (hle:A.le H) (hx:x=i) (hi:i < l.length) (k:K l[i]):ixa s x fun p=>Sx.ldS H (p.1,p.2+x.toNat*1) K:=
 SlIs.at_ h hle (z:=1) (fun _=>rfl) (by omega) hx hi fun p y hy hr=>⟨y,by have:=hr 0 _ rfl; rw [Nat.add_zero] at this; exact this,by rw [hy.1]; exact k⟩
theorem Qrx {l m:List Str} {s t:Sl} {K:Bool→Heap→Prop} (hs:StL A s l) (ht:StL A t m) (hA:A.le H) (k:K (sm l m) H) :
 ift (((Sl.len s:Int):Int) != (Sl.len t:Int))
  (K false H)
  (lp (α:=Int) 0 H (fun x2 J3 H4=>
  ift (decide ((x2:Int) < (Sl.len s:Int)))
  (ixa s x2 fun p6=>
  Sx.ldS H4 (p6.1,p6.2+(x2:Int).toNat*1) fun x11=>
  ixa t x2 fun p13=>
  Sx.ldS H4 (p13.1,p13.2+(x2:Int).toNat*1) fun x18=>
  ift (!(x11 == x18))
  (K false H4)
  (J3 (w .i64 (x2+1)) H4))
  (K true H4))):=by
 rw [SlIs.len hs,SlIs.len ht]
 refine ift.of (fun h=>?_) (fun h=>?_)
 ·have : l ≠ m := fun e => by subst e; simp at h
  rw [Qmv this] at k; exact k
 have hl:l.length=m.length:=Int.ofNat.inj (show (l.length:Int)=m.length by simpa using h)
 have hb:=SlIs.bd hs
 refine ⟨fun x D=>D=H∧∃ i:Nat,x=(i:Int)∧i≤l.length∧l.take i=m.take i,fun x _=>l.length - x.toNat,⟨rfl,0,rfl,Nat.zero_le _,rfl⟩,?_⟩
 rintro _ D ⟨rfl,i,rfl,hi,hq⟩
 refine ift.of (fun h=>?_) (fun h=>?_)
 ·have hlt : i < l.length := by have := of_decide_eq_true h; omega
  have hlt2:i < m.length:=by omega
  refine SlIs.ldS hs hA rfl hlt (SlIs.ldS ht hA rfl hlt2 ?_)
  refine ift.of (fun h=>?_) (fun h=>?_)
  ·have : l[i] ≠ m[i] := by simpa using h
   rw [Qmv (Qpy hlt hlt2 this)] at k; exact k
  ·have : l[i] = m[i] := by simpa using h
   rw [Q4 (by omega) (by omega)]
   exact ⟨⟨rfl,i+1,by omega,by omega,Qnz hlt hlt2 hq this⟩,by first | omega | (dsimp only; omega)⟩
 ·have hie : i = l.length := by have := of_decide_eq_false h; omega
  rw [Qmh (QlD hie hl hq)] at k
  exact k
theorem QvB {x:Qf} (i:Nat) (u:Value) (hi:(Qd.c x.Type_)[i]? = some u):(Qf.c x)[1+i]? = some u:=by
 match i,hi with
 | 0,hi=>exact hi
 | 1,hi=>exact hi
 | i+2,hi=>simp [Qd.c] at hi
end
end
section
open Go Go.Proofs
theorem n1 {b:Bool} {P Q:Prop} (hb:b=true ↔ ¬P) (h:b=true):(true=true ↔ ¬(P∧Q)):=⟨fun _ hh=>hb.1 h hh.1,fun _=>rfl⟩
theorem n2 {b r:Bool} {P Q:Prop} (hb:b=true ↔ ¬P) (h:b=false) (hr:r=true ↔ ¬Q):(r=true ↔ ¬(P∧Q)):=by
 have hp:P:=Classical.byContradiction fun e=>by rw [hb.2 e] at h; cases h
 rw [hr]; exact ⟨fun hq hh=>hq hh.2,fun hh hq=>hh ⟨hp,hq⟩⟩
theorem n3 {b:Bool} {P:Prop} (hb:b=true ↔ ¬P) (h:b=false):P:=Classical.byContradiction fun e=>by rw [hb.2 e] at h; cases h
theorem nsq {a b a' b':Str} (ha:Nm a a') (hb:Nm b b'):((!(a == b))=true ↔ ¬ a' = b'):=by rw [ha.1,hb.1]; simp
theorem niq {a b a' b':Int} (ha:a=a') (hb:b=b'):((a != b)=true ↔ ¬ a' = b'):=by rw [ha,hb]; simp
theorem nsm {α:Type} {v w:α}:((!(sm v w))=true ↔ ¬ v=w):=by rw [Bool.not_eq_true',← Bool.not_eq_true,sm_t]
theorem nlen {α β α' β':Type} {R:α→β→Prop} {c:β→List Value} {R':α'→β'→Prop} {c':β'→List Value} {A B:Heap} {s t:Sl} {l:List α} {m:List α'} (h1:SlIs R c A s l) (h2:SlIs R' c' B t m):((((Sl.len s:Int):Int) != (Sl.len t:Int))=true ↔ ¬ l.length=m.length):=by
 rw [h1.len,h2.len,bne_iff_ne]; omega
theorem lpEq {α:Type} {l m:List α} {H:Heap} {body:Int→(Int→Heap→Prop)→Heap→Prop} (hb:l.length≤140737488355328)
 (step:∀ (i:Nat) (D:Heap) (J:Int→Heap→Prop),H.le D→i≤l.length→l.take i=m.take i→(i < l.length→∀ D',H.le D'→l.take (i+1)=m.take (i+1)→J (w .i64 ((i:Int)+1)) D')→body (i:Int) J D):lp (α:=Int) 0 H body:=by
 refine ⟨fun x D=>H.le D∧∃ i:Nat,x=(i:Int)∧i≤l.length∧l.take i=m.take i,fun x _=>l.length - x.toNat,⟨Heap.le.refl _,0,rfl,Nat.zero_le _,rfl⟩,?_⟩
 rintro _ D ⟨hD,i,rfl,hi,hq⟩
 refine step i D _ hD hi hq fun hlt D' hD' ht=>?_
 rw [Q4 (by omega) (by omega)]
 exact ⟨⟨hD',i+1,by omega,by omega,ht⟩,by first | omega | (dsimp only; omega)⟩
section
variable {C:Ctx} {H A:Heap}
theorem Qpf {l m:List Str} {s t:Sl} {K:Bool→Heap→Prop} (hs:StL A s l) (ht:StL A t m) (hA:A.le H) (k:K (sm l m) H):QeU C s t K H:=by
 apply Qk2
 unfold QgA
 exact Qrx hs ht hA k
theorem Qp2:∀ (v:TyV) {w:TyV} {x y:Qd} {H:Heap} {K:Bool→Heap→Prop},TyIs A v x→TyIs A w y→A.le H→K (sm v w) H→QaQ C x y K H:=by
 refine TyV.rec_ fun v ih w' x y H K hx hy hA k=>?_
 have hx':=Qej.1 hx
 have hy':=Qej.1 hy
 apply QaQ.gh
 apply QlL
 unfold QhS
 refine box2 fun b1 b3 H4 hle h1 h3=>fS h1 rfl (fS h3 rfl ?_)
 have hA4:=hA.trans hle
 refine jb (P:=¬(v.n=w'.n∧v.a.length=w'.a.length)) H4 ?_ fun b hb=>?_
 ·have i1:=nsq hx'.1 hy'.1
  exact ift.of (fun h=>⟨rfl,n1 i1 h⟩) (fun h=>fL h1 rfl (fL h3 rfl ⟨rfl,n2 i1 h (nlen hx'.2 hy'.2)⟩))
 refine ift.of (fun h=>?_) (fun h=>?_)
 ·rw [Qmv (fun e=>hb.1 h (by subst e; exact ⟨rfl,rfl⟩))] at k; exact ⟨H,Gh.le hle,k⟩
 have hq:=n3 hb h
 refine lpEq (l:=v.a) (m:=w'.a) (SlIs.bd hx'.2) fun i D J hD hi ht hJ=>?_
 refine fL (hD _ _ h1) rfl ?_
 rw [SlIs.len hx'.2]
 refine ift.of (fun h=>?_) (fun h=>?_)
 ·have hlt : i < v.a.length := by have := of_decide_eq_true h; omega
  have hlt2:i < w'.a.length:=by omega
  have hAD:=hA4.trans hD
  refine ⟨D,Heap.le.refl _,fL (hD _ _ h1) rfl (SlIs.ld hx'.2 hAD Qle (by omega) rfl hlt fun x2 hx2=>fL (hD _ _ h3) rfl (SlIs.ld hy'.2 hAD Qle (by omega) rfl hlt2 fun y2 hy2=>ih _ (List.getElem_mem hlt) hx2 hy2 hAD ⟨Heap.le.refl _,?_⟩))⟩
  by_cases e:v.a[i]=w'.a[i]
  ·rw [Qmh e]; exact Qet rfl (hJ hlt _ hD (Qnz hlt hlt2 ht e))
  ·rw [Qmv e]; rw [Qmv (fun e2=>Qpy hlt hlt2 e (by rw [e2]))] at k; exact QeZ rfl ⟨H,Gh.le (hle.trans hD),k⟩
 ·have hie : i = v.a.length := by have := of_decide_eq_false h; omega
  rw [Qmh (TyV.eq_iff.2 ⟨hq.1,QlD hie hq.2 ht⟩)] at k
  exact ⟨H,Gh.le (hle.trans hD),k⟩
theorem Qk0 {l m:List ExV} {s t:Sl} {K:Bool→Heap→Prop} (hs:ExL A s l) (ht:ExL A t m) (hA:A.le H)
 (ih:∀ (p:ExV),p ∈ l→∀ {w:ExV} {x y:Qb} {D:Heap} {K:Bool→Heap→Prop},ExIs A p x→ExIs A w y→A.le D→K (sm p w) D→QaO C x y K D) (k:K (sm l m) H):Q7 C s t K H:=by
 apply Q7.gh
 apply Qk1
 unfold Qgz
 have i1:=nlen hs ht
 refine ift.of (fun h=>?_) (fun h=>?_)
 ·rw [Qmv (fun e=>i1.1 h (by rw [e]))] at k; exact ⟨H,Gh.refl _,k⟩
 have hq:=n3 i1 h
 refine lpEq (l:=l) (m:=m) hs.bd fun i D J hD hi hh hJ=>?_
 rw [hs.len]
 refine ift.of (fun h=>?_) (fun h=>?_)
 ·have hlt : i < l.length := by have := of_decide_eq_true h; omega
  have hlt2:i < m.length:=by omega
  have hAD:=hA.trans hD
  refine ⟨D,Heap.le.refl _,hs.ld hAD Qdo (by omega) rfl hlt fun x2 hx2=>ht.ld hAD Qdo (by omega) rfl hlt2 fun y2 hy2=>ih _ (List.getElem_mem hlt) hx2 hy2 hAD ⟨Heap.le.refl _,?_⟩⟩
  by_cases e:l[i]=m[i]
  ·rw [Qmh e]; exact Qet rfl (hJ hlt _ hD (Qnz hlt hlt2 hh e))
  ·rw [Qmv e]; rw [Qmv (Qpy hlt hlt2 e)] at k; exact QeZ rfl ⟨H,Gh.le hD,k⟩
 ·have hie : i = l.length := by have := of_decide_eq_false h; omega
  rw [Qmh (QlD hie hq hh)] at k
  exact ⟨H,Gh.le hD,k⟩
theorem Qt9 {x:Qb} (i:Nat) (u:Value) (hi:(Qe.c x.Value_)[i]? = some u):(Qb.c x)[4+i]? = some u:=by
 match i,hi with
 | 0,hi=>exact hi
 | 1,hi=>exact hi
 | 2,hi=>exact hi
 | 3,hi=>exact hi
 | i+4,hi=>simp [Qe.c] at hi
theorem Qp0:∀ (v:ExV) {w:ExV} {x y:Qb} {H:Heap} {K:Bool→Heap→Prop},ExIs A v x→ExIs A w y→A.le H→K (sm v w) H→QaO C x y K H:=by
 refine ExV.rec_ fun v ih w' x y H K hx hy hA k=>?_
 have hx':=Qei.1 hx
 have hy':=Qei.1 hy
 apply QaO.gh
 apply QlJ
 unfold QhQ
 refine box2 fun b1 b3 H4 hle h1 h3=>fI h1 rfl (fI h3 rfl ?_)
 have hA4:=hA.trans hle
 refine jb (P:=v.k=w'.k∧v.n=w'.n) H4 ?_ fun b9 hb9=>?_
 ·have i1:=iq hx'.1 hy'.1
  exact ift.of (fun h=>fS h1 rfl (fS h3 rfl ⟨rfl,yand i1 h (sqN hx'.2.1 hy'.2.1)⟩)) (fun h=>⟨rfl,nand i1 h⟩)
 refine jb (P:=(v.k=w'.k∧v.n=w'.n)∧v.v=w'.v) H4 ?_ fun b18 hb18=>?_
 ·exact ift.of (fun h=>fT h1 Qt9 (fT h3 Qt9 (Qub (hx'.2.2.1.le hA4) (hy'.2.2.1.le hA4) hx'.2.2.2.1 ⟨rfl,yand hb9 h QsJ⟩))) (fun h=>⟨rfl,nand hb9 h⟩)
 refine jb (P:=v=w') H4 ?_ fun b27 hb27=>⟨H,Gh.le hle,by rw [Qvw hb27]; exact k⟩
 rw [ExV.eq_iff]
 refine ift.of (fun h=>fL h1 rfl (fL h3 rfl ?_)) (fun h=>⟨rfl,nand hb18 h⟩)
 exact Qk0 hx'.2.2.2.2 hy'.2.2.2.2 hA4 (fun p hp w x y D K g1 g2 g3 g4=>ih p hp g1 g2 g3 g4) ⟨rfl,yand hb18 h sm_t⟩
theorem Ql2 {l m:List ExV} {s t:Sl} {K:Bool→Heap→Prop} (hs:ExL A s l) (ht:ExL A t m) (hA:A.le H) (k:K (sm l m) H):Q7 C s t K H:=
 Qk0 hs ht hA (fun p _ w x y D K g1 g2 g3 g4=>Qp0 p g1 g2 g3 g4) k
theorem Qot {l m:List FdV} {s t:Sl} {K:Bool→Heap→Prop} (hs:FdL A s l) (ht:FdL A t m) (hA:A.le H) (k:K (sm l m) H):QaG C s t K H:=by
 apply QaG.gh
 apply QkJ
 unfold Qf9
 have i1:=nlen hs ht
 refine ift.of (fun h=>?_) (fun h=>?_)
 ·rw [Qmv (fun e=>i1.1 h (by rw [e]))] at k; exact ⟨H,Gh.refl _,k⟩
 have hq:=n3 i1 h
 refine lpEq (l:=l) (m:=m) hs.bd fun i D J hD hi hh hJ=>?_
 rw [hs.len]
 refine ift.of (fun h=>?_) (fun h=>?_)
 ·have hlt : i < l.length := by have := of_decide_eq_true h; omega
  have hlt2:i < m.length:=by omega
  have hAD:=hA.trans hD
  refine jb (P:=¬ (l[i].n=m[i].n∧l[i].t=m[i].t)) D ?_ fun b hb=>?_
  ·refine ⟨D, Heap.le.refl _, SlIs.fS hs hAD Qc6 (by omega) rfl hlt (f := fun y => y.Name) (fun _ => rfl) fun y1 hy1 => SlIs.fS ht hAD Qc6 (by omega) rfl hlt2 (f := fun y => y.Name) (fun _ => rfl) fun y2 hy2 => ?_⟩
   have j1:=nsq hy1.1 hy2.1
   refine ift.of (fun h=>⟨rfl,n1 j1 h⟩) fun h=>?_
   refine SlIs.fT hs hAD Qc6 (by omega) rfl hlt (f:=fun y=>y.Type_) (fun y n v hn=>QvB n v hn) fun y3 hy3=>SlIs.fT ht hAD Qc6 (by omega) rfl hlt2 (f:=fun y=>y.Type_) (fun y n v hn=>QvB n v hn) fun y4 hy4=>?_
   exact Qp2 _ hy3.2 hy4.2 hAD ⟨Heap.le.refl _,rfl,n2 j1 h nsm⟩
  rw [← FdV.eq_iff] at hb
  refine ift.of (fun h=>?_) (fun h=>?_)
  ·rw [Qmv (Qpy hlt hlt2 (hb.1 h))] at k; exact ⟨H,Gh.le hD,k⟩
  ·exact hJ hlt _ hD (Qnz hlt hlt2 hh (n3 hb h))
 ·have hie : i = l.length := by have := of_decide_eq_false h; omega
  rw [Qmh (QlD hie hq hh)] at k
  exact ⟨H,Gh.le hD,k⟩
theorem QpZ {l m:List LiV} {s t:Sl} {K:Bool→Heap→Prop} (hs:LiL A s l) (ht:LiL A t m) (hA:A.le H) (k:K (sm l m) H):Qbe C s t K H:=by
 apply Qbe.gh
 apply QlI
 unfold QhP
 have i1:=nlen hs ht
 refine ift.of (fun h=>?_) (fun h=>?_)
 ·rw [Qmv (fun e=>i1.1 h (by rw [e]))] at k; exact ⟨H,Gh.refl _,k⟩
 have hq:=n3 i1 h
 refine lpEq (l:=l) (m:=m) hs.bd fun i D J hD hi hh hJ=>?_
 rw [hs.len]
 refine ift.of (fun h=>?_) (fun h=>?_)
 ·have hlt : i < l.length := by have := of_decide_eq_true h; omega
  have hlt2:i < m.length:=by omega
  have hAD:=hA.trans hD
  refine jb (P:=¬ ((l[i].k=m[i].k∧l[i].r=m[i].r)∧l[i].a=m[i].a)) D ?_ fun b hb=>?_
  ·refine ⟨D, Heap.le.refl _, SlIs.fI hs hAD Qcg (by omega) rfl hlt (f := fun y => y.Kind) (fun _ => rfl) fun y1 hy1 => SlIs.fI ht hAD Qcg (by omega) rfl hlt2 (f := fun y => y.Kind) (fun _ => rfl) fun y2 hy2 => ?_⟩
   have j1:=niq hy1.1 hy2.1
   refine ift.of (fun h=>⟨rfl,n1 (n1 j1 h) rfl⟩) fun h=>?_
   refine SlIs.fS hs hAD Qcg (by omega) rfl hlt (f:=fun y=>y.Rel) (fun _=>rfl) fun y3 hy3=>SlIs.fS ht hAD Qcg (by omega) rfl hlt2 (f:=fun y=>y.Rel) (fun _=>rfl) fun y4 hy4=>?_
   have j2:=n2 j1 h (nsq hy3.2.1 hy4.2.1)
   refine ift.of (fun h=>⟨rfl,n1 j2 h⟩) fun h=>?_
   refine SlIs.fL hs hAD Qcg (by omega) rfl hlt (f:=fun y=>y.Args) (fun _=>rfl) fun y5 hy5=>SlIs.fL ht hAD Qcg (by omega) rfl hlt2 (f:=fun y=>y.Args) (fun _=>rfl) fun y6 hy6=>?_
   exact Ql2 hy5.2.2 hy6.2.2 hAD ⟨Heap.le.refl _,rfl,n2 j2 h nsm⟩
  rw [← LiV.eq_iff] at hb
  refine ift.of (fun h=>?_) (fun h=>?_)
  ·rw [Qmv (Qpy hlt hlt2 (hb.1 h))] at k; exact ⟨H,Gh.le hD,k⟩
  ·exact hJ hlt _ hD (Qnz hlt hlt2 hh (n3 hb h))
 ·have hie : i = l.length := by have := of_decide_eq_false h; omega
  rw [Qmh (QlD hie hq hh)] at k
  exact ⟨H,Gh.le hD,k⟩
theorem QmC {v w:RuV} {x y:Qj} {K:Bool→Heap→Prop} (hx:RuIs A v x) (hy:RuIs A w y) (hA:A.le H) (k:K (sm v w) H):QaP C x y K H:=by
 apply QaP.gh
 apply QlK
 unfold QhR
 refine box2 fun b1 b3 H4 hle h1 h3=>fS h1 rfl (fS h3 rfl ?_)
 have hA4:=hA.trans hle
 refine jb (P:=v.r=w.r∧v.a=w.a) H4 ?_ fun b9 hb9=>?_
 ·have i1:=sqN hx.1 hy.1
  exact ift.of (fun h=>fL h1 rfl (fL h3 rfl (Ql2 hx.2.1 hy.2.1 hA4 ⟨rfl,yand i1 h sm_t⟩))) (fun h=>⟨rfl,nand i1 h⟩)
 refine jb (P:=(v.r=w.r∧v.a=w.a)∧v.g=w.g) H4 ?_ fun b18 hb18=>?_
 ·exact ift.of (fun h=>fL h1 rfl (fL h3 rfl (Qpf hx.2.2.1 hy.2.2.1 hA4 ⟨rfl,yand hb9 h sm_t⟩))) (fun h=>⟨rfl,nand hb9 h⟩)
 refine jb (P:=v=w) H4 ?_ fun b hb=>⟨H,Gh.le hle,by rw [Qvw hb]; exact k⟩
 rw [RuV.eq_iff]
 exact ift.of (fun h=>fL h1 rfl (fL h3 rfl (QpZ hx.2.2.2 hy.2.2.2 hA4 ⟨rfl,yand hb18 h sm_t⟩))) (fun h=>⟨rfl,nand hb18 h⟩)
end
end
section
open Go Go.Proofs
section
variable {C:Ctx} {H A:Heap}
end
end
section
open Go Go.Proofs
def V0:V:=.mk 0 0 [] []
theorem QvI {E:Heap}:VIs E V0 Qe.zero:=QhZ.2 ⟨rfl,rfl,rfl,[],.inl rfl,rfl,trivial⟩
theorem V0_B:VB V0:=by simp [V0,VB,VBs]
end
section
open Go
abbrev Pl:=Int×Int
inductive ExP where
 | mk (p:Pl) (k:Int) (n:Str) (v:V) (a:List ExP)
structure LiP where
 p:Pl
 k:Int
 r:Str
 a:List ExP
structure TdP where
 p:Pl
 b:Bool
 n:Str
 ps:List Str
 cs:List CnV
structure RdP where
 p:Pl
 b:Bool
 i:Bool
 n:Str
 f:List FdV
structure RuP where
 p:Pl
 r:Str
 a:List ExP
 g:List Str
 b:List LiP
structure NeP where
 p:Pl
 n:Str
 b:List LiP
structure ImP where
 p:Pl
 n:Str
structure MoP where
 n:Str
 im:List ImP
 ty:List TdP
 re:List RdP
 ru:List RuP
 ne:List NeP
def ExP.p:ExP→Pl | .mk p _ _ _ _=>p
def ExP.k:ExP→Int | .mk _ k _ _ _=>k
def ExP.n:ExP→Str | .mk _ _ n _ _=>n
def ExP.v:ExP→V | .mk _ _ _ v _=>v
def ExP.a:ExP→List ExP | .mk _ _ _ _ a=>a
theorem ExP.rec_ {P:ExP→Prop} (h:∀ v,(∀ w ∈ v.a,P w)→P v):∀ v,P v
 | .mk p k n u a=>h _ fun w hw=>by
  have:sizeOf w < sizeOf a:=List.sizeOf_lt_of_mem hw
  exact ExP.rec_ h w
termination_by v=>sizeOf v
decreasing_by simp_wf; have:sizeOf w < sizeOf a:=List.sizeOf_lt_of_mem hw; omega
mutual
/-- without places -/
def ExP.e:ExP→ExV
 | .mk _ k n v a=>.mk k n v (exsE a)
def exsE:List ExP→List ExV
 | []=>[]
 | v::l=>v.e::exsE l
end
theorem QqC:∀ l:List ExP,exsE l=l.map ExP.e
 | []=>rfl
 | v::l=>by rw [exsE,QqC l]; rfl
theorem ExP.e_eq (v:ExP):v.e=.mk v.k v.n v.v (v.a.map ExP.e):=by obtain ⟨p,k,n,u,a⟩:=v; rw [ExP.e,QqC]; rfl
def LiP.e (x:LiP):LiV:=⟨x.k,x.r,x.a.map ExP.e⟩
def TdP.e (x:TdP):TdV:=⟨x.b,x.n,x.ps,x.cs⟩
def RdP.e (x:RdP):RdV:=⟨x.b,x.i,x.n,x.f⟩
def RuP.e (x:RuP):RuV:=⟨x.r,x.a.map ExP.e,x.g,x.b.map LiP.e⟩
def NeP.e (x:NeP):NeV:=⟨x.n,x.b.map LiP.e⟩
def MoP.e (m:MoP):MoV:=⟨m.n,m.im.map ImP.n,m.ty.map TdP.e,m.re.map RdP.e,m.ru.map RuP.e,m.ne.map NeP.e⟩
def mpO {α β:Type} (f:α→Option β):List α→Option (List β)
 | []=>some []
 | v :: l => match f v with
  | none=>none
  | some w => match mpO f l with
   | none=>none
   | some r=>some (w::r)
def mpE {ε α β:Type} (f:α→Except ε β):List α→Except ε (List β)
 | []=>.ok []
 | v :: l => match f v with
  | .error e=>.error e
  | .ok w => match mpE f l with
   | .error e=>.error e
   | .ok r=>.ok (w::r)
abbrev Ky:=Str×Str×Int
abbrev Tl:=List (Ky×Bool)
def tellF (T:Tl) (k:Ky) (b:Bool):Bool×Tl:=match lkL k T with
 | some _=>(false,T)
 | none=>(true,T++[(k,b)])
mutual
def freeTy (ps:List Str):TyV→Bool
 | .mk n a=>if n.headD 0=39 then !ps.contains n else freeTys ps a
def freeTys (ps:List Str):List TyV→Bool
 | []=>false
 | v::l=>freeTy ps v || freeTys ps l
end
def openF (ps:List Str) (l:List FdV):Bool:=l.any fun f=>freeTy ps f.t
def csNm (m:Str) (b:Bool):Bool×Tl→List CnV→Bool×Tl
 | s,[]=>s
 | s,c::l=>csNm m b ((tellF s.2 (m,c.n,1) b).1 && s.1,(tellF s.2 (m,c.n,1) b).2) l
def tyNm (m:Str) (t:TdP) (T:Tl):Bool×Tl:=csNm m t.b ((tellF T (m,t.n,0) t.b).1 && decide t.ps.Nodup,(tellF T (m,t.n,0) t.b).2) t.cs
abbrev Er:=Str×Pl×Int
def namesTy (m:Str):List TdP→Tl→Except Er Tl
 | [],T=>.ok T
 | t::l,T=>if (tyNm m t T).1=false then .error (m,t.p,6) else if t.cs.any (fun c=>openF t.ps c.f)=true then .error (m,t.p,63) else namesTy m l (tyNm m t T).2
def namesRe (m:Str):List RdP→Tl→Except Er Tl
 | [],T=>.ok T
 | x::l,T=>if (tellF T (m,x.n,2) x.b).1=false then .error (m,x.p,6) else if openF [] x.f=true then .error (m,x.p,63) else namesRe m l (tellF T (m,x.n,2) x.b).2
def namesNe (m:Str):List NeP→Tl→Except Er Tl
 | [],T=>.ok T
 | x::l,T=>if (tellF T (m,x.n,3) false).1=false then .error (m,x.p,6) else namesNe m l (tellF T (m,x.n,3) false).2
def namesF (m:MoP) (T:Tl):Except Er Tl:=match namesTy m.n m.ty T with
 | .error e=>.error e
 | .ok T1 => match namesRe m.n m.re T1 with
  | .error e=>.error e
  | .ok T2=>namesNe m.n m.ne T2
def namesAll:List MoP→Tl→Except Er Tl
 | [],T=>.ok T
 | m :: l, T => match namesF m T with
  | .error e=>.error e
  | .ok T1=>namesAll l T1
def singleF:List Str→List MoP→Option Er
 | _,[]=>none
 | ns,m::r=>if moC m.e≠0 then some (m.n,(0,0),moC m.e) else if ns.contains m.n=true then some (m.n,(0,0),6) else singleF (ns++[m.n]) r
/-- the place of a module; as many as there are: there is none -/
def findN:List MoP→Str→Nat
 | [],_=>0
 | m::l,s=>if m.n=s then 0 else findN l s+1
def impA1 (l:List MoP) (m:Str):List Str→List ImP→Option Er
 | _,[]=>none
 | ps,x::r=>if l.length≤findN l x.n then some (m,x.p,63) else if ps.contains x.n=true then some (m,x.p,6) else impA1 l m (ps++[x.n]) r
def impA (l:List MoP):List MoP→Option Er
 | []=>none
 | m :: r => match impA1 l m.n [] m.im with
  | some e=>some e
  | none=>impA l r
def adj (l:List MoP) (i:Nat):List Nat:=match l[i]? with
 | none=>[]
 | some m=>m.im.map fun x=>findN l x.n
def comeF (l:List MoP) (a:Nat):Nat→Nat→Bool
 | 0,j=>decide (j=a)
 | n+1,j=>comeF l a n j || (List.range l.length).any fun i=>comeF l a n i && (adj l i).contains j
def reachF (l:List MoP) (a b:Nat):Bool:=comeF l a l.length b
def impB1 (l:List MoP) (m:Str) (i:Nat):List ImP→Option Er
 | []=>none
 | x::r=>if reachF l (findN l x.n) i=true then some (m,x.p,64) else impB1 l m i r
def impBf (l:List MoP):Nat→List MoP→Option Er
 | _,[]=>none
 | i, m :: r => match impB1 l m.n i m.im with
  | some e=>some e
  | none=>impBf l (i+1) r
def dotS (a b:Str):Str:=(a++[46])++b
def cutN (m s:Str):Str×Str:=match cutD s with
 | some p=>p
 | none=>(m,s)
def impd (m:MoP) (s:Str):Bool:=m.im.any fun x=>decide (x.n=s)
def meanF (T:Tl) (m:MoP) (s:Str) (k:Int):Option Str:=match lkL (((cutN m.n s).1,(cutN m.n s).2,k):Ky) T with
 | none=>none
 | some b=>if (decide ((cutN m.n s).1=m.n) || (b && impd m (cutN m.n s).1))=true then some (dotS (cutN m.n s).1 (cutN m.n s).2) else none
def primS (n:Str):Bool:=decide (n=boolS) || decide (n=intS) || decide (n=bigS) || decide (n=textS) || decide (n=tupS)
def tnF (T:Tl) (m:MoP) (n:Str):Option Str:=if (primS n || decide (n.headD 0=39))=true then some n else meanF T m n 0
mutual
def tyF (T:Tl) (m:MoP):TyV→Option TyV
 | .mk n a => match tnF T m n with
  | none=>none
  | some n' => match tysF T m a with
   | none=>none
   | some a'=>some (.mk n' a')
def tysF (T:Tl) (m:MoP):List TyV→Option (List TyV)
 | []=>some []
 | v :: l => match tyF T m v with
  | none=>none
  | some w => match tysF T m l with
   | none=>none
   | some r=>some (w::r)
end
theorem QsT (T:Tl) (m:MoP):∀ l,tysF T m l=mpO (tyF T m) l
 | []=>rfl
 | v::l=>by
  rw [tysF,mpO,QsT T m l]
  cases tyF T m v with
  | none=>rfl
  | some w=>cases mpO (tyF T m) l <;> rfl
def fdF (T:Tl) (m:MoP) (f:FdV):Option FdV:=match tyF T m f.t with
 | none=>none
 | some t=>some ⟨f.n,t⟩
def cnF (T:Tl) (m:MoP) (c:CnV):Option CnV:=match mpO (fdF T m) c.f with
 | none=>none
 | some f=>some ⟨dotS m.n c.n,f⟩
def tdF (T:Tl) (m:MoP) (t:TdP):Except Pl TdP:=match mpO (cnF T m) t.cs with
 | none=>.error t.p
 | some cs=>.ok ⟨t.p,t.b,dotS m.n t.n,t.ps,cs⟩
def rdF (T:Tl) (m:MoP) (x:RdP):Except Pl RdP:=match mpO (fdF T m) x.f with
 | none=>.error x.p
 | some f=>.ok ⟨x.p,x.b,x.i,dotS m.n x.n,f⟩
def enF (T:Tl) (m:MoP) (k:Int) (n:Str):Option Str:=if k=5 then meanF T m n 1 else some n
mutual
def exF (T:Tl) (m:MoP):ExP→Except Pl ExP
 | .mk p k n v a => match enF T m k n with
  | none=>.error p
  | some n' => match exsF T m a with
   | .error q=>.error q
   | .ok a'=>.ok (.mk p k n' v a')
def exsF (T:Tl) (m:MoP):List ExP→Except Pl (List ExP)
 | []=>.ok []
 | v :: l => match exF T m v with
  | .error q=>.error q
  | .ok w => match exsF T m l with
   | .error q=>.error q
   | .ok r=>.ok (w::r)
end
theorem Qr1 (T:Tl) (m:MoP):∀ l,exsF T m l=mpE (exF T m) l
 | []=>rfl
 | v::l=>by
  rw [exsF,mpE,Qr1 T m l]
  cases exF T m v with
  | error q=>rfl
  | ok w=>cases mpE (exF T m) l <;> rfl
def lnF (T:Tl) (m:MoP) (k:Int) (r:Str):Option Str:=if k=1∨k=2 then meanF T m r 2 else some r
def liF (T:Tl) (m:MoP) (x:LiP):Except Pl LiP:=match lnF T m x.k x.r with
 | none=>.error x.p
 | some r => match mpE (exF T m) x.a with
  | .error q=>.error q
  | .ok a=>.ok ⟨x.p,x.k,r,a⟩
def ruF (T:Tl) (m:MoP) (x:RuP):Except Pl RuP:=match meanF T m x.r 2 with
 | none=>.error x.p
 | some r => if (m.n ++ [46]).isPrefixOf r = false then .error x.p else match mpE (exF T m) x.a with
  | .error q=>.error q
  | .ok a => match mpE (liF T m) x.b with
   | .error q=>.error q
   | .ok b=>.ok ⟨x.p,r,a,x.g,b⟩
def neF (T:Tl) (m:MoP) (x:NeP):Except Pl NeP:=match mpE (liF T m) x.b with
 | .error q=>.error q
 | .ok b=>.ok ⟨x.p,dotS m.n x.n,b⟩
/-- a module behind what there is -/
def usedF (T:Tl) (o m:MoP):Except Pl MoP:=match mpE (tdF T m) m.ty with
 | .error q=>.error q
 | .ok a => match mpE (rdF T m) m.re with
  | .error q=>.error q
  | .ok b => match mpE (ruF T m) m.ru with
   | .error q=>.error q
   | .ok c => match mpE (neF T m) m.ne with
    | .error q=>.error q
    | .ok d=>.ok ⟨o.n,o.im,o.ty++a,o.re++b,o.ru++c,o.ne++d⟩
def usedAll (T:Tl):MoP→List MoP→Except Er MoP
 | o,[]=>.ok o
 | o, m :: l => match usedF T o m with
  | .error q=>.error (m.n,q,63)
  | .ok o1=>usedAll T o1 l
def total {α:Type} (f:MoP→List α):List MoP→Nat
 | []=>0
 | m::l=>(f m).length+total f l
def totB (l:List MoP):Bool:=decide (64 < total MoP.ty l) || decide (64 < total MoP.re l) || decide (256 < total MoP.ru l) || decide (256 < total MoP.ne l)
/-- modules as one program -/
def flatF (l:List MoP):Except Er MoP:=
 if l.length=0 then .error ([],(0,0),1) else if 8 < l.length then .error ([],(0,0),3) else
 match singleF [] l with
 | some e=>.error e
 | none => match impA l l with
  | some e=>.error e
  | none => match impBf l 0 l with
   | some e=>.error e
   | none => match namesAll l [] with
    | .error e=>.error e
    | .ok T=>if totB l=true then .error ([],(0,0),3) else usedAll T ⟨(l.head?.map MoP.n).getD [],[],[],[],[],[]⟩ l
end
section
open Go Go.Proofs
def psP (p:Pl):Qo:=⟨p.1,p.2⟩
mutual
def EpIs (H:Heap):ExP→Qb→Prop
 | .mk p k n v a,x=>x.Pos=psP p∧x.Kind=k∧Nm x.Name n∧VIs H v x.Value_∧VB v∧∃ xs:List Qb,rdsl H x.Args (xs.flatMap Qb.c)∧x.Args.len=xs.length∧a.length≤140737488355328∧EpsAre H a xs
def EpsAre (H:Heap):List ExP→List Qb→Prop
 | [],[]=>True
 | v::l,x::xs=>EpIs H v x∧EpsAre H l xs
 | [],_::_=>False
 | _::_,[]=>False
end
theorem EpsAre.iff {H:Heap}:∀ {l:List ExP} {xs:List Qb},EpsAre H l xs↔l.length=xs.length∧∀ (i:Nat) (v:ExP) (x:Qb),l[i]? = some v→xs[i]? = some x→EpIs H v x
 | [],[]=>by simp [EpsAre]
 | [],_::_=>by simp [EpsAre]
 | _::_,[]=>by simp [EpsAre]
 | v::l,x::xs=>by
  simp only [EpsAre,EpsAre.iff (l:=l) (xs:=xs),List.length_cons]
  constructor
  ·rintro ⟨h1,h2,h3⟩
   refine ⟨by omega,fun i v' x' hv hx=>?_⟩
   cases i with
   | zero=>simp at hv hx; subst hv; subst hx; exact h1
   | succ i=>exact h3 i v' x' (by simpa using hv) (by simpa using hx)
  ·rintro ⟨h1,h2⟩
   exact ⟨h2 0 v x rfl rfl,by omega,fun i v' x' hv hx=>h2 (i+1) v' x' (by simpa using hv) (by simpa using hx)⟩
abbrev EpL (A:Heap):=SlIs (EpIs A) Qb.c A
theorem QjV {H:Heap} {v:ExP} {x:Qb}:EpIs H v x↔x.Pos=psP v.p∧x.Kind=v.k∧Nm x.Name v.n∧VIs H v.v x.Value_∧VB v.v∧EpL H x.Args v.a:=by
 obtain ⟨p,k,n,u,a⟩:=v
 simp only [EpIs,ExP.p,ExP.k,ExP.n,ExP.v,ExP.a,EpL,SlIs,EpsAre.iff]
 constructor
 ·rintro ⟨h0,h1,h2,h3,h4,xs,h5,h6,h7,h8,h9⟩; exact ⟨h0,h1,h2,h3,h4,xs,h5,h6,h8,h7,h9⟩
 ·rintro ⟨h0,h1,h2,h3,h4,xs,h5,h6,h8,h7,h9⟩; exact ⟨h0,h1,h2,h3,h4,xs,h5,h6,h7,h8,h9⟩
def LpIs (A:Heap) (v:LiP) (x:Qk):Prop:=x.Pos=psP v.p∧x.Kind=v.k∧Nm x.Rel v.r∧EpL A x.Args v.a
abbrev LpL (A:Heap):=SlIs (LpIs A) Qk.c A
def TpIs (A:Heap) (v:TdP) (x:Qc):Prop:=x.Pos=psP v.p∧x.Pub=v.b∧Nm x.Name v.n∧(StL A x.Params v.ps∧x.Params.len≤x.Params.cap)∧CnL A x.Cons v.cs
abbrev TpL (A:Heap):=SlIs (TpIs A) Qc.c A
def RpIs (A:Heap) (v:RdP) (x:Qh):Prop:=x.Pos=psP v.p∧x.Pub=v.b∧x.Input=v.i∧Nm x.Name v.n∧FdL A x.Fields v.f
abbrev RpL (A:Heap):=SlIs (RpIs A) Qh.c A
def UpIs (A:Heap) (v:RuP) (x:Qj):Prop:=x.Pos=psP v.p∧Nm x.Rel v.r∧EpL A x.Args v.a∧StL A x.Aggs v.g∧LpL A x.Body v.b
abbrev UpL (A:Heap):=SlIs (UpIs A) Qj.c A
def NpIs (A:Heap) (v:NeP) (x:Qm):Prop:=x.Pos=psP v.p∧Nm x.Name v.n∧LpL A x.Body v.b
abbrev NpL (A:Heap):=SlIs (NpIs A) Qm.c A
def IpIs (v:ImP) (x:Qp):Prop:=x.Pos=psP v.p∧Nm x.Name v.n
abbrev IpL (A:Heap):=SlIs IpIs Qp.c A
def MpIs (A:Heap) (v:MoP) (x:Qa):Prop:=Nm x.Name v.n∧(IpL A x.Imports v.im∧x.Imports.len≤x.Imports.cap)∧TpL A x.Types v.ty∧RpL A x.Rels v.re∧UpL A x.Rules v.ru∧NpL A x.Nevers v.ne
abbrev MpL (A:Heap):=SlIs (MpIs A) Qa.c A
section
variable {α α2 β:Type} {R:α→β→Prop} {R2:α2→β→Prop} {c:β→List Value} {A B:Heap} {s:Sl} {l:List α}
theorem SlIs.map (h:SlIs R c A s l) (f:α→α2) (hR:∀ v ∈ l,∀ x,R v x→R2 (f v) x):SlIs R2 c A s (l.map f):=by
 obtain ⟨xs,h1,h2,h3,h4,h5⟩:=h
 refine ⟨xs,h1,h2,by simpa using h3,by simpa using h4,fun i v x hv hx=>?_⟩
 rw [List.getElem?_map] at hv
 cases hl:l[i]? with
 | none=>rw [hl] at hv; cases hv
 | some w=>
  rw [hl] at hv
  injection hv with hv
  subst hv
  exact hR w (List.mem_of_getElem? hl) x (h5 i w x hl hx)
end
theorem EpIs.e {A:Heap}:∀ (v:ExP) (x:Qb),EpIs A v x→ExIs A v.e x:=by
 refine ExP.rec_ fun v ih x h=>?_
 rw [QjV] at h
 rw [ExP.e_eq,Qei]
 exact ⟨h.2.1,h.2.2.1,h.2.2.2.1,h.2.2.2.2.1,h.2.2.2.2.2.map _ ih⟩
section
variable {A:Heap}
theorem EpL.e {s:Sl} {l:List ExP} (h:EpL A s l):ExL A s (l.map ExP.e):=h.map _ fun v _ x hx=>EpIs.e v x hx
theorem LpIs.e {v:LiP} {x} (h:LpIs A v x):LiIs A v.e x:=⟨h.2.1,h.2.2.1,EpL.e h.2.2.2⟩
theorem LpL.e {s:Sl} {l:List LiP} (h:LpL A s l):LiL A s (l.map LiP.e):=h.map _ fun v _ x hx=>LpIs.e hx
theorem TpIs.e {v:TdP} {x} (h:TpIs A v x):TdIs A v.e x:=⟨h.2.1,h.2.2.1,h.2.2.2.1.1,h.2.2.2.2⟩
theorem RpIs.e {v:RdP} {x} (h:RpIs A v x):RdIs A v.e x:=h.2
theorem UpIs.e {v:RuP} {x} (h:UpIs A v x):RuIs A v.e x:=⟨h.2.1,EpL.e h.2.2.1,h.2.2.2.1,LpL.e h.2.2.2.2⟩
theorem NpIs.e {v:NeP} {x} (h:NpIs A v x):NeIs A v.e x:=⟨h.2.1,LpL.e h.2.2⟩
theorem MpIs.e {v:MoP} {x} (h:MpIs A v x):MoIs A v.e x:=
 ⟨h.1,h.2.1.1.map _ fun _ _ _ hx=>hx.2,h.2.2.1.map _ fun _ _ _ hx=>TpIs.e hx,h.2.2.2.1.map _ fun _ _ _ hx=>RpIs.e hx,h.2.2.2.2.1.map _ fun _ _ _ hx=>UpIs.e hx,h.2.2.2.2.2.map _ fun _ _ _ hx=>NpIs.e hx⟩
end
theorem EpIs.le {A B:Heap} (hle:A.le B):∀ v:ExP,∀ x,EpIs A v x→EpIs B v x:=by
 refine ExP.rec_ fun v ih x h=>?_
 rw [QjV] at h ⊢
 exact ⟨h.1,h.2.1,h.2.2.1,h.2.2.2.1.le hle,h.2.2.2.2.1,h.2.2.2.2.2.le hle ih⟩
section
variable {A B:Heap} (hle:A.le B)
include hle
theorem LpIs.le {v:LiP} {x} (h:LpIs A v x):LpIs B v x:=⟨h.1,h.2.1,h.2.2.1,h.2.2.2.le hle fun v _ x h=>EpIs.le hle v x h⟩
theorem TpIs.le {v:TdP} {x} (h:TpIs A v x):TpIs B v x:=⟨h.1,h.2.1,h.2.2.1,⟨StL.le hle h.2.2.2.1.1,h.2.2.2.1.2⟩,h.2.2.2.2.le hle fun _ _ _ h=>CnIs.le hle h⟩
theorem RpIs.le {v:RdP} {x} (h:RpIs A v x):RpIs B v x:=⟨h.1,h.2.1,h.2.2.1,h.2.2.2.1,h.2.2.2.2.le hle fun _ _ _ h=>FdIs.le hle h⟩
theorem UpIs.le {v:RuP} {x} (h:UpIs A v x):UpIs B v x:=⟨h.1,h.2.1,h.2.2.1.le hle fun v _ x h=>EpIs.le hle v x h,StL.le hle h.2.2.2.1,h.2.2.2.2.le hle fun _ _ _ h=>LpIs.le hle h⟩
theorem NpIs.le {v:NeP} {x} (h:NpIs A v x):NpIs B v x:=⟨h.1,h.2.1,h.2.2.le hle fun _ _ _ h=>LpIs.le hle h⟩
theorem MpIs.le {v:MoP} {x} (h:MpIs A v x):MpIs B v x:=⟨h.1,⟨h.2.1.1.le hle fun _ _ _ h=>h,h.2.1.2⟩,h.2.2.1.le hle fun _ _ _ h=>TpIs.le hle h,h.2.2.2.1.le hle fun _ _ _ h=>RpIs.le hle h,h.2.2.2.2.1.le hle fun _ _ _ h=>UpIs.le hle h,h.2.2.2.2.2.le hle fun _ _ _ h=>NpIs.le hle h⟩
end
def Heap.nw (A H D : Heap) : Heap := fun b => match H b with
 | none=>D b
 | some _=>A b
section
variable {A H H1 D D2:Heap}
theorem Qsd (hA:A.le H):A.le (Heap.nw A H D):=fun b e h=>by
 unfold Heap.nw
 rw [hA b e h]; exact h
theorem QuE (h:D.le D2):(Heap.nw A H D).le (Heap.nw A H D2):=fun b e hb=>by
 unfold Heap.nw at hb ⊢
 cases hh:H b with
 | none=>rw [hh] at hb; exact h b e hb
 | some e'=>rw [hh] at hb; exact hb
theorem QuD (hA:A.le H) (h:H.le H1):(Heap.nw A H1 D).le (Heap.nw A H D):=fun b e hb=>by
 unfold Heap.nw at hb ⊢
 cases h1:H1 b with
 | none=>rw [h1] at hb; rw [h.none h1]; exact hb
 | some e'=>
  rw [h1] at hb
  rw [hA b e hb]; exact hb
theorem Qng {b:Nat} {e:Bool×GO} (hb:H b=none) (h:D b=some e):Heap.nw A H D b=some e:=by
 unfold Heap.nw; rw [hb]; exact h
theorem QjY {b:Nat} {e:Bool×GO} (h:Heap.nw A H D b=some e):(H b=none∧D b=some e)∨A b=some e:=by
 unfold Heap.nw at h
 cases hb:H b with
 | none=>rw [hb] at h; exact .inl ⟨rfl,h⟩
 | some e'=>rw [hb] at h; exact .inr h
end
structure Gr {α β:Type} (R:Heap→α→β→Prop) (c:β→List Value) (z:Nat) (A H D:Heap) (s:Sl) (l:List α):Prop where
 dom:∀ b,D b=none→H b=none
 al:A.le D
 fresh:Fresh H s
 ex:∃ xs:List β,Own D z s (xs.flatMap c)∧l.length=xs.length∧∀ (i:Nat) (v:α) (x:β),l[i]? = some v→xs[i]? = some x→R (Heap.off s (Heap.nw A H D)) v x
theorem QpD {A H D:Heap} (hA:A.le D):(Heap.nw A H D).le D:=fun b e h=>by
 unfold Heap.nw at h
 cases hb:H b with
 | none=>rw [hb] at h; exact h
 | some e'=>rw [hb] at h; exact hA b e h
section
variable {α β:Type} {R:Heap→α→β→Prop} {c:β→List Value} {z:Nat} {A H H1 D D2:Heap} {s r:Sl} {l:List α} {v:α} {x:β}
theorem Gr.nil (hd:∀ b,D b=none→H b=none) (hA:A.le D):Gr R c z A H D Sl.nil ([]:List α):=⟨hd,hA,Fresh.nil _,[],Own.nil _ _,rfl,fun i v x h=>by simp at h⟩
theorem Gr.len (h:Gr R c z A H D s l) (hz:∀ x,(c x).length=z) (hz0:0 < z):s.len=l.length:=by
 obtain ⟨xs,h1,h2,h3⟩:=h.ex
 have:=h1.1
 have e:(xs.flatMap c).length=xs.length*z:=by
  clear h1 h2 h3 this
  induction xs with
  | nil=>simp
  | cons a xs ih=>simp only [List.flatMap_cons,List.length_append,ih,hz,List.length_cons,Nat.add_mul]; omega
 rw [e] at this
 have:=Nat.eq_of_mul_eq_mul_right hz0 this
 omega
/-- more memory, but for what is not asked -/
theorem Gr.up (h:Gr R c z A H D s l) (hle:D.le D2) (hR:∀ {X Y:Heap} {v x},X.le Y→R X v x→R Y v x):Gr R c z A H D2 s l:=by
 obtain ⟨xs,h1,h2,h3⟩:=h.ex
 refine ⟨fun b hb=>h.dom b (hle.none hb),h.al.trans hle,h.fresh,xs,h1.le hle,h2,fun i v x hv hx=>hR (fun b e hb=>?_) (h3 i v x hv hx)⟩
 unfold Heap.off at hb ⊢
 split at hb
 ·cases hb
 ·rename_i hn; rw [if_neg hn]; exact QuE hle b e hb
theorem Gr.has (h:Gr R c z A H D s l):∀ p,s.p=some p→∃ e,D p.1=some e:=fun p hp=>by
 obtain ⟨xs,h1,_⟩:=h.ex
 obtain ⟨g,hg⟩:=h1.mine hp
 exact ⟨_,hg⟩
/-- another block of H written -/
theorem Gr.put (h:Gr R c z A H D s l) {b:Nat} {g:GO} {e:Bool×GO} (hb:H b=some e) (hA:A b=none):Gr R c z A H (D.put b g) s l:=by
 have hs:∀ p,s.p=some p→p.1≠b:=fun p hp e'=>by
  have:=h.fresh p hp
  rw [e',hb] at this; cases this
 obtain ⟨xs,h1,h2,h3⟩:=h.ex
 have hbut:=Heap.but.put b D g true
 refine ⟨fun x hx=>?_,fun x e' hx=>?_,h.fresh,xs,h1.but hbut hs,h2,fun i v x hv hx=>?_⟩
 ·by_cases hxb:x=b
  ·subst hxb; rw [Heap.put_same] at hx; cases hx
  ·rw [Heap.put_ne _ _ _ hxb] at hx; exact h.dom x hx
 ·have : x ≠ b := fun e2 => by rw [e2, hA] at hx; cases hx
  rw [Heap.put_ne _ _ _ this]; exact h.al x e' hx
 ·have e2 : Heap.nw A H (D.put b g) = Heap.nw A H D := by
   funext x
   unfold Heap.nw
   cases hh:H x with
   | none=>
    have:x≠b:=fun e2=>by rw [e2,hb] at hh; cases hh
    exact Heap.put_ne _ _ _ this
   | some _=>rfl
  rw [e2]; exact h3 i v x hv hx
/-- an element more -/
theorem Gr.addD (h:Gr R c z A H D s l) (hA:A.le H) (hz:∀ x,(c x).length=z) (hz0:0 < z) (hR:∀ {X Y:Heap} {v x},X.le Y→R X v x→R Y v x) {zc:List Value} (hzc:zc.length=z) {bytes:Nat} {K:Sl→Heap→Prop}
 (hv:R (Heap.off s (Heap.nw A H D)) v x) (hb:(l.length+1)*bytes≤140737488355328) (hl:l.length+1≤140737488355328)
 (k:∀ r D2,Gr R c z A H D2 r (l++[v])→(Heap.off s D).le D2→Fresh (Heap.off s D) r→K r D2):apd zc bytes s (c x) 1 K D:=by
 obtain ⟨xs,g1,g2,g3⟩:=h.ex
 have hlen:=h.len hz hz0
 subst hzc
 refine QoD g1.off (by rw [hz,Nat.one_mul]) (by rw [hlen]; exact hb) (by rw [hlen]; omega) fun r D2 ho hr=>?_
 have hsA:∀ b e,A b=some e→∀ p,s.p=some p→p.1≠b:=fun b e hb p hp e'=>by
  have:=h.fresh p hp
  rw [e',hA b e hb] at this; cases this
 have hf:Fresh H r:=fun p hp=>by
  have h0:=ho.fresh p hp
  unfold Heap.off at h0
  split at h0
  ·rename_i he
   obtain ⟨q,hq,hqp⟩:=Option.map_eq_some_iff.1 he
   rw [← hqp]; exact h.fresh q hq
  ·exact h.dom _ h0
 refine k r D2 ⟨fun b hb=>?_,fun b e hb=>?_,hf,xs++[x],?_,by simp [g2],?_⟩ ho.le ho.fresh
 ·have h0:=ho.le.none hb
  unfold Heap.off at h0
  split at h0
  ·rename_i he
   obtain ⟨q,hq,hqp⟩:=Option.map_eq_some_iff.1 he
   rw [← hqp]; exact h.fresh q hq
  ·exact h.dom _ h0
 ·exact ho.le b e (Heap.off_some (h.al b e hb) (hsA b e hb))
 ·have e : (xs ++ [x]).flatMap c = xs.flatMap c ++ c x := by simp
  rw [e]; exact ho.own
 ·have key : (Heap.off s (Heap.nw A H D)).le (Heap.off r (Heap.nw A H D2)) := fun b e hb => by
   have hs:∀ p,s.p=some p→p.1≠b:=fun p hp e'=>by
    unfold Heap.off at hb
    rw [if_pos (by rw [hp,← e']; rfl)] at hb; cases hb
   have hb2:Heap.nw A H D b=some e:=Heap.off_le _ _ _ _ hb
   have hD:(Heap.off s D) b=some e:=Heap.off_some (QpD h.al b e hb2) hs
   refine Heap.off_some ?_ fun p hp e'=>?_
   ·rcases QjY hb2 with ⟨q1,_⟩ | q
    ·exact Qng q1 (ho.le b e hD)
    ·exact Qsd hA b e q
   ·have:=ho.fresh p hp
    rw [e',hD] at this; cases this
  intro i v' x' hv' hx'
  by_cases hi:i < l.length
  ·rw [List.getElem?_append_left hi] at hv'
   rw [List.getElem?_append_left (by omega)] at hx'
   exact hR key (g3 i v' x' hv' hx')
  ·have hl1:=(List.getElem?_eq_some_iff.1 hv').1
   simp only [List.length_append,List.length_cons,List.length_nil] at hl1
   have:i=l.length:=by omega
   subst this
   rw [List.getElem?_append_right (Nat.le_refl _)] at hv'
   rw [List.getElem?_append_right (by omega)] at hx'
   simp at hv' 
   rw [show l.length - xs.length=0 by omega] at hx'
   simp at hx'
   subst hv'; subst hx'
   exact hR key hv
/-- what is told at the end -/
theorem Gr.is (h:Gr R c z A H D s l) (hz:∀ x,(c x).length=z) (hz0:0 < z) (hR:∀ {X Y:Heap} {v x},X.le Y→R X v x→R Y v x) (hb:l.length≤140737488355328):SlIs (R (Heap.nw A H D)) c (Heap.nw A H D) s l:=by
 obtain ⟨xs,h1,h2,h3⟩:=h.ex
 have hlen:=h.len hz hz0
 refine ⟨xs,?_,by omega,h2,hb,fun i v x hv hx=>hR (Heap.off_le _ _) (h3 i v x hv hx)⟩
 obtain ⟨hl,hx,hc,⟨hp,h0⟩ | ⟨b,sp,hp,hbk,_⟩⟩:=h1
 ·left
  have:s.len=0:=by omega
  rw [this] at hl
  exact List.length_eq_zero_iff.1 (by simpa using hl)
 ·refine .inr ⟨hx, _, hp, Qg6 (Qng (h.fresh _ hp) hbk) fun j v hj => ?_⟩
  have:=(List.getElem?_eq_some_iff.1 hj).1
  rw [Nat.zero_add,List.getElem?_append_left this]; exact hj
/-- what a call over D makes is in the rest -/
theorem QpE (hA:A.le H) (hd:∀ b,D b=none→H b=none) (hf:Fresh H s) (hs:∀ p,s.p=some p→∃ e,D p.1=some e):(Heap.nw A D D2).le (Heap.off s (Heap.nw A H D2)):=fun b e hb=>by
 refine Heap.off_some ?_ fun p hp e'=>?_
 ·rcases QjY hb with ⟨q,q2⟩ | q
  ·exact Qng (hd b q) q2
  ·exact Qsd hA b e q
 ·obtain ⟨e2,h2⟩:=hs p hp
  rcases QjY hb with ⟨q,_⟩ | q
  ·rw [← e',h2] at q; cases q
  ·have:=hf p hp
   rw [e',hA b e q] at this; cases this
/-- a literal of one, behind a list -/
theorem Gr.lit (h:Gr R c z A H D s l) (hA:A.le H) (hz:∀ x,(c x).length=z) (hz0:0 < z) (hR:∀ {X Y:Heap} {v x},X.le Y→R X v x→R Y v x) {zc:List Value} (hzc:zc.length=z) {bytes:Nat} {Hs:Heap} {K:Sl→Heap→Prop}
 (h1:∀ u ∈ c x,u.oneCell' = true) (hv:R (Heap.off s (Heap.nw A H D)) v x) (hb:(l.length+1)*bytes≤140737488355328) (hl:l.length+1≤140737488355328) (hs:Hs.le (Heap.off s D))
 (k:∀ r D2,Gr R c z A H D2 r (l++[v])→(Heap.off s D).le D2→Fresh (Heap.off s D) r→K r D2) :
 nw (c x++[]) (fun b H71=>Heap.le Hs H71∧apS zc bytes s (Sl.of (some (b,0)) 1 1) (fun r H74=>Heap.le Hs H74∧K r H74) H71) D:=by
 intro b n
 rw [List.append_nil]
 have l1:=Heap.le_put n (g:=.row (c x)) (m:=true)
 have hoff:(Heap.off s D).le (Heap.off s (D.put b (.row (c x)))):=fun y e hy=>by
  unfold Heap.off at hy ⊢
  split at hy
  ·cases hy
  ·rename_i hn; rw [if_neg hn]; exact l1 y e hy
 refine ⟨(hs.trans (Heap.off_le _ _)).trans l1,_,.inr ⟨rfl,(b,0),rfl,Qg6 (Heap.put_same ..) fun j u hj=>by rw [Nat.zero_add]; exact hj⟩,h1,?_⟩
 refine (h.up l1 hR).addD hA hz hz0 hR hzc (hR (fun y e hy=>?_) hv) hb hl fun r D2 hg h2 hf=>?_
 ·unfold Heap.off at hy ⊢
  split at hy
  ·cases hy
  ·rename_i hn; rw [if_neg hn]; exact QuE l1 y e hy
 ·refine ⟨(hs.trans hoff).trans h2, k r D2 hg (hoff.trans h2) fun p hp => ?_⟩
  exact hoff.none (hf p hp)
end
end
section
open Go Go.Proofs
theorem box1N {H:Heap} {cx:List Value} {K:Nat→Heap→Prop} (k:∀ b D,H b=none→D=H.put b (.row cx)→H.le D→D b=some (true,.row cx)→K b D):nw cx K H:=
 fun b n=>k b _ n rfl (Heap.le_put n) (Heap.put_same ..)
/-- a box whose cells are written at once -/
theorem boxZ {H:Heap} {cz cx:List Value} {K:Nat→Heap→Prop} (hl:cx.length=cz.length) (k:∀ b D,H b=none→H.le D→D b=some (true,.row cx)→K b D):nw cz (fun b H2=>stT (b,0) cx (fun H3=>K b H3) H2) H:=
 fun b n=>nwT hl (k b _ n (Heap.le_put n) (Heap.put_same ..))
theorem fPs {H:Heap} {b j:Nat} {m:Bool} {cs:List Value} {x:Qo} {K:Qo→Prop} (h:H b=some (m,.row cs)) (h0:cs[j]? = some (.int .i64 x.Line)) (h1:cs[j+1]? = some (.int .i64 x.Col)) (k:K x):ldT H Qo.c ((b,0).1,(b,0).2+j) K:=
 fT (c:=Qo.c) h (fun i v hv=>by match i,hv with | 0,hv=>(rw [← hv]; exact h0) | 1,hv=>(rw [← hv]; exact h1)) k
section
variable {C:Ctx} {H A:Heap}
/-- slices.IndexFunc: what is asked of each element, and what is so between -/
theorem ixI {α β:Type} {R:α→β→Prop} {c:β→List Value} {z:Nat} {s:Sl} {l:List α} {e:Value} {K:Int→Heap→Prop} (hz:∀ x,(c x).length=z) (hz0:0 < z) (hs:SlIs R c A s l) (I:Nat→Heap→Prop)
 (hA:∀ i D,I i D→A.le D) (h0:I 0 H)
 (hstep:∀ (i:Nat) (hi:i < l.length) (D:Heap) (x:β),I i D→R l[i] x→callU Tryz.prog C e [.agg (c x).toArray] D (fun v H13=>∃ r12:Bool,v=.bool r12∧ift r12 (K i H13) (I (i+1) H13)))
 (hend:∀ D,I l.length D→K (-1) D) :
 lp (α:=Int) 0 H (fun x1 J2 H3=>ift (decide ((x1:Int) < (Sl.len s:Int))) (ixa s x1 fun p5=>ldT H3 c (p5.1,p5.2+(x1:Int).toNat*z) fun x10=>callU Tryz.prog C e [.agg (c x10).toArray] H3 (fun v H13=>∃ (r12:Bool),v=.bool r12∧ift r12 (K x1 H13) (J2 (w .i64 (x1+1)) H13))) (K (-1) H3)):=by
 have hlen:=hs.len
 have hbd:=hs.bd
 refine ⟨fun y D=>∃ i:Nat,y=(i:Int)∧i≤l.length∧I i D,fun y _=>l.length - y.toNat,⟨0,rfl,Nat.zero_le _,h0⟩,?_⟩
 rintro _ D ⟨i,rfl,hi,hI⟩
 rw [hlen]
 refine ift.of (fun h=>?_) (fun h=>?_)
 ·have hlt : i < l.length := by have := of_decide_eq_true h; omega
  refine hs.ld (hA i D hI) hz hz0 rfl hlt fun x hx=>(hstep i hlt D x hI hx).mono ?_
  rintro v H' ⟨r,hv,hr⟩
  refine ⟨r,hv,ift.of (fun h=>hr.1 h) (fun h=>?_)⟩
  rw [Q4 (by omega) (by omega)]
  exact ⟨⟨i+1,by omega,by omega,hr.2 h⟩,by first | omega | (dsimp only; omega)⟩
 ·have hie : i = l.length := by have := of_decide_eq_false h; omega
  exact hend D (hie ▸ hI)
theorem anyTake {α:Type} {f:α→Bool} {l:List α} {i:Nat} (h:i < l.length):(l.take (i+1)).any f=((l.take i).any f || f l[i]):=by
 rw [List.take_add_one,List.getElem?_eq_getElem h,Option.toList_some,List.any_append]; simp
theorem anyYes {α:Type} {f:α→Bool} {l:List α} {i:Nat} (h:i < l.length) (hf:f l[i]=true):l.any f=true:=List.any_eq_true.2 ⟨_,List.getElem_mem h,hf⟩
/-- is one of them so? -/
theorem anyI {α β:Type} {R:α→β→Prop} {c:β→List Value} {z:Nat} {s:Sl} {l:List α} {e:Value} {K:Bool→Heap→Prop} {ok:α→Bool} (hz:∀ x,(c x).length=z) (hz0:0 < z) (hs:SlIs R c A s l) (hA:A.le H)
 (he:∀ v ∈ l,∀ (x:β) (D:Heap) (Φ:Bool→Heap→Prop),H.le D→R v x→(∀ D2,D.le D2→Φ (ok v) D2)→callU Tryz.prog C e [.agg (c x).toArray] D (fun v H13=>∃ r12:Bool,v=.bool r12∧Φ r12 H13))
 (k:∀ D,H.le D→K (l.any ok) D) :
 lp (α:=Int) 0 H (fun x1 J2 H3=>ift (decide ((x1:Int) < (Sl.len s:Int))) (ixa s x1 fun p5=>ldT H3 c (p5.1,p5.2+(x1:Int).toNat*z) fun x10=>callU Tryz.prog C e [.agg (c x10).toArray] H3 (fun v H13=>∃ (r12:Bool),v=.bool r12∧ift r12 (K (decide ((x1:Int) ≥ 0)) H13) (J2 (w .i64 (x1+1)) H13))) (K (decide ((-1:Int) ≥ 0)) H3)):=by
 refine ixI (K:=fun r D=>K (decide (r ≥ 0)) D) hz hz0 hs (fun i D=>H.le D∧(l.take i).any ok=false) (fun i D h=>hA.trans h.1) ⟨Heap.le.refl _,rfl⟩ ?_ ?_
 ·rintro i hi D x ⟨hD,hno⟩ hx
  refine he _ (List.getElem_mem hi) x D _ hD hx fun D2 hD2=>ift.of (fun h=>?_) (fun h=>?_)
  ·have:=k D2 (hD.trans hD2)
   rw [anyYes hi h] at this
   rw [show decide ((i:Int) ≥ 0)=true from decide_eq_true (by omega)]; exact this
  ·exact ⟨hD.trans hD2,by rw [anyTake hi,hno,h]; rfl⟩
 ·rintro D ⟨hD,hno⟩
  rw [List.take_length] at hno
  have:=k D hD
  rw [hno] at this; exact this
theorem cfImport {R:ImP→Qp→Prop} {s:Sl} {l:List ImP} {e:Value} {K:Bool→Heap→Prop} {ok:ImP→Bool} (hs:SlIs R Qp.c A s l) (hA:A.le H)
 (he:∀ v ∈ l,∀ (x:Qp) (D:Heap) (Φ:Bool→Heap→Prop),H.le D→R v x→(∀ D2,D.le D2→Φ (ok v) D2)→callU Tryz.prog C e [.agg (Qp.c x).toArray] D (fun v H13=>∃ r12:Bool,v=.bool r12∧Φ r12 H13))
 (k:∀ D,H.le D→K (l.any ok) D):Qu C s e K H:=by
 apply QW
 unfold QF
 apply Q9
 unfold QJ
 exact anyI (fun _=>rfl) (by omega) hs hA he k
theorem cfConsDef {R:CnV→Qg→Prop} {s:Sl} {l:List CnV} {e:Value} {K:Bool→Heap→Prop} {ok:CnV→Bool} (hs:SlIs R Qg.c A s l) (hA:A.le H)
 (he:∀ v ∈ l,∀ (x:Qg) (D:Heap) (Φ:Bool→Heap→Prop),H.le D→R v x→(∀ D2,D.le D2→Φ (ok v) D2)→callU Tryz.prog C e [.agg (Qg.c x).toArray] D (fun v H13=>∃ r12:Bool,v=.bool r12∧Φ r12 H13))
 (k:∀ D,H.le D→K (l.any ok) D):QD C s e K H:=by
 apply Qaq
 unfold QT
 apply QaF
 unfold Q3
 exact anyI (fun _=>rfl) (by omega) hs hA he k
theorem cfFieldDef {R:FdV→Qf→Prop} {s:Sl} {l:List FdV} {e:Value} {K:Bool→Heap→Prop} {ok:FdV→Bool} (hs:SlIs R Qf.c A s l) (hA:A.le H)
 (he:∀ v ∈ l,∀ (x:Qf) (D:Heap) (Φ:Bool→Heap→Prop),H.le D→R v x→(∀ D2,D.le D2→Φ (ok v) D2)→callU Tryz.prog C e [.agg (Qf.c x).toArray] D (fun v H13=>∃ r12:Bool,v=.bool r12∧Φ r12 H13))
 (k:∀ D,H.le D→K (l.any ok) D):QB C s e K H:=by
 apply Qan
 unfold QP
 apply Qau
 unfold QV
 exact anyI (fun _=>rfl) (by omega) hs hA he k
theorem cfType {R:TyV→Qd→Prop} {s:Sl} {l:List TyV} {e:Value} {K:Bool→Heap→Prop} {ok:TyV→Bool} (hs:SlIs R Qd.c A s l) (hA:A.le H)
 (he:∀ v ∈ l,∀ (x:Qd) (D:Heap) (Φ:Bool→Heap→Prop),H.le D→R v x→(∀ D2,D.le D2→Φ (ok v) D2)→callU Tryz.prog C e [.agg (Qd.c x).toArray] D (fun v H13=>∃ r12:Bool,v=.bool r12∧Φ r12 H13))
 (k:∀ D,H.le D→K (l.any ok) D):QO C s e K H:=by
 apply Qa2
 unfold Qaf
 apply Qbh
 unfold Qam
 exact anyI (fun _=>rfl) (by omega) hs hA he k
/-- does a text stand among texts? -/
theorem contS {s:Sl} {l:List Str} {t:Str} {K:Bool→Heap→Prop} (hs:StL A s l) (hA:A.le H) (k:K (l.contains t) H):Qw C s t K H:=by
 apply Qw.gh
 apply QeH
 unfold QbL
 apply Qfn
 unfold Qct
 have hlen:=SlIs.len hs
 have hbd:=SlIs.bd hs
 refine ⟨fun y D=>H.le D∧∃ i:Nat,y=(i:Int)∧i≤l.length∧(l.take i).contains t=false,fun y _=>l.length - y.toNat,⟨Heap.le.refl _,0,rfl,Nat.zero_le _,by simp⟩,?_⟩
 rintro _ D ⟨hD,i,rfl,hi,hno⟩
 rw [hlen]
 refine ift.of (fun h=>?_) (fun h=>?_)
 ·have hlt : i < l.length := by have := of_decide_eq_true h; omega
  refine SlIs.at_ hs (hA.trans hD) (z:=1) (fun _=>rfl) (by omega) rfl hlt fun p y hy hr=>⟨y,hr 0 _ rfl,?_⟩
  rw [hy.1]
  refine ift.of (fun h=>?_) (fun h=>?_)
  ·have e : l.contains t = true := by rw [List.contains_iff_mem, eq_of_beq h]; exact List.getElem_mem hlt
   rw [e] at k
   dsimp only
   rw [show decide ((i:Int) ≥ 0)=true from decide_eq_true (by omega)]
   exact ⟨H,Gh.le hD,k⟩
  ·rw [Q4 (by omega) (by omega)]
   refine ⟨⟨hD,i+1,by omega,by omega,?_⟩,by first | omega | (dsimp only; omega)⟩
   rw [List.take_add_one,List.getElem?_eq_getElem hlt,Option.toList_some]
   cases hc:(l.take i++[l[i]]).contains t with
   | false=>rfl
   | true=>
    rw [List.contains_iff_mem] at hc
    rcases List.mem_append.1 hc with hc | hc
    ·rw [← List.contains_iff_mem,hno] at hc; cases hc
    ·simp at hc; rw [hc] at h; simp at h
 ·have hie : i = l.length := by have := of_decide_eq_false h; omega
  subst hie
  rw [List.take_length] at hno
  rw [hno] at k
  exact ⟨H,Gh.le hD,k⟩
/-- texts copied -/
theorem cloneS {s:Sl} {l:List Str} {K:Sl→Heap→Prop} (hs:StL A s l) (hA:A.le H) (hb:l.length≤1000000000) (k:∀ r D,H.le D→Gr (fun _ (v:Str) (x:Str)=>Nm x v) (fun x=>[sv x]) 1 A H D r l→K r D):QS C s K H:=by
 obtain ⟨xs,h1,h2,h3,h4,h5⟩:=hs
 have e0:xs.flatMap (fun x:Str=>[sv x])=xs.map sv:=by
  clear h1 h2 h3 h4 h5
  induction xs with
  | nil=>rfl
  | cons a xs ih=>rw [List.flatMap_cons,ih]; rfl
 rw [e0] at h1
 apply Qfm
 unfold Qcs
 refine ift.of (fun h=>?_) (fun h=>?_)
 ·have hx : xs = [] := by
   rcases h1 with h1 | ⟨_,p,hp,_⟩
   ·simpa using h1
   ·unfold Sl.isNil at h
    rw [hp] at h; cases h
  have:l=[]:=List.length_eq_zero_iff.1 (by rw [h3,hx]; rfl)
  subst this
  exact k _ _ (Heap.le.refl _) (Gr.nil (fun _ h=>h) hA)
 ·intro b n
  have e:=QlW (z:=1) n
  have hle:=Heap.le_put n (g:=.row []) (m:=true)
  refine Qmw (zc:=[sv []]) e (Qf6 (hA.trans hle) h1) (by simp [h2]) (Qvx xs) ?_ ?_ fun r D ho hr=>?_
  ·simp only [Sl.of]; omega
  ·simp only [Sl.of]; omega
  ·refine k r D ho.le ⟨fun b hb => ho.le.none hb, hA.trans ho.le, ho.fresh, xs, ?_, h3, fun i v x hv hx => h5 i v x hv hx⟩
   rw [e0]; exact ho.own
end
end
section
open Go Go.Proofs
theorem QrK (a b:Str):(a == b)=decide (a=b):=by rw [Bool.eq_iff_iff]; simp
theorem QqE:∀ {l:List MoP} {s:Str} {i:Nat} (hi:i < l.length),(∀ j (hj:j < l.length),j < i→l[j].n≠s)→l[i].n=s→findN l s=i
 | m::l,s,0,_,_,h=>by
  have h':m.n=s:=h
  simp only [findN,if_pos h']
 | m::l,s,i+1,hi,hno,h=>by
  have h0:m.n≠s:=hno 0 (by simp) (by omega)
  simp only [findN,if_neg h0]
  rw [QqE (l:=l) (i:=i) (by simpa using hi) (fun j hj hji=>by
   have:=hno (j+1) (by simp; omega) (by omega)
   simpa using this) (by simpa using h)]
theorem QqH:∀ {l:List MoP} {s:Str},(∀ j (hj:j < l.length),l[j].n≠s)→findN l s=l.length
 | [],s,_=>rfl
 | m::l,s,h=>by
  have h0:m.n≠s:=h 0 (by simp)
  simp only [findN,if_neg h0,List.length_cons]
  rw [QqH (l:=l) fun j hj=>by
   have:=h (j+1) (by simp; omega)
   simpa using this]
/-- what is told of a place -/
def fIx (l:List MoP) (s:Str):Int:=if findN l s < l.length then (findN l s:Int) else -1
/-- a program in memory: its modules -/
structure Pr (H:Heap) (bp bm:Nat) (sl:Sl):Prop where
 at_:∃ m,H bp=some (m,.row (Q5.c ⟨sl,some bm⟩))
theorem Pr.le {A B:Heap} {bp bm:Nat} {sl:Sl} (h:Pr A bp bm sl) (hle:A.le B):Pr B bp bm sl:=by
 obtain ⟨m,h⟩:=h.at_
 exact ⟨m,hle _ _ h⟩
abbrev encB:Bool→Value:=fun x:Bool=>(.bool x:Value)
/-- what is told, in a map -/
def TlIs (H:Heap) (bm:Nat) (T:Tl):Prop:=∃ l,MapS kp3 encB H bm l∧∀ k,lkL k l=lkL k T
theorem TlIs.le {A B:Heap} {bm:Nat} {T:Tl} (h:TlIs A bm T) (hle:A.le B):TlIs B bm T:=by
 obtain ⟨l,h1,h2⟩:=h
 exact ⟨l,h1.le hle,h2⟩
/-- what is thrown -/
def flt (m:Str) (p:Pl) (e:Int):Value:=(.iface 89 (.agg (Qs.c (⟨(⟨m,psP p⟩:Qi),e⟩:Qs)).toArray:Value))
section
variable {C:Ctx} {H A:Heap} {E:Value→Heap→Prop}
theorem QdS {x:Qa} {m:Str} {q:Qo} {p:Pl} {e:Int} {K:Heap→Prop} (hm:x.Name=m) (hq:q=psP p) (k:∀ D,H.le D→E (flt m p e) D):QG C E x q e K H:=by
 subst hm; subst hq
 apply QmD
 unfold QjF
 exact box1N fun b1 H2 _ _ l1 h1=>box1N fun b3 H4 _ _ l3 h3=>fS (l3 _ _ h1) rfl (bxT (c:=Qo.c) h3 (k _ (l1.trans l3)))
theorem QoR {l:List MoP} {bp bm:Nat} {sl:Sl} {s:Str} {K:Int→Heap→Prop} (hp:Pr H bp bm sl) (hs:MpL A sl l) (hA:A.le H) (k:∀ D,H.le D→K (fIx l s) D):Qaw C (some (bp,0)) s K H:=by
 apply QiI
 unfold QeL
 refine box1N fun b1 H2 _ _ l1 h1=>?_
 obtain ⟨m,hb⟩:=(hp.le l1).at_
 refine ⟨_,rfl,fL hb rfl ?_⟩
 apply QcE
 unfold QaX
 refine ixI (A:=A) (fun _=>rfl) (by omega) hs (fun i D=>H2.le D∧∀ j (hj:j < l.length),j < i→l[j].n≠s) (fun i D h=>(hA.trans l1).trans h.1) ⟨Heap.le.refl _,fun j _ h=>by omega⟩ ?_ ?_
 ·rintro i hi D x ⟨hD,hno⟩ hx
  refine ⟨147,[],[pv (some (b1,0))],rfl,Qhw,Qhb C x (b1,0) _ D ?_⟩
  unfold Qd1
  refine box1N fun b2 H3 _ _ l2 h2=>fS h2 rfl ⟨s,by rw [QaC (l2 _ _ (hD _ _ h1))]; rfl,?_⟩
  rw [hx.1.1]
  refine ift.of (fun h=>?_) (fun h=>?_)
  ·have:=k H3 (l1.trans (hD.trans l2))
   unfold fIx at this
   rw [QqE hi hno (eq_of_beq h),if_pos hi] at this
   exact this
  ·refine ⟨hD.trans l2, fun j hj hji => ?_⟩
   by_cases h':j=i
   ·subst h'; intro e; rw [e] at h; simp at h
   ·exact hno j hj (by omega)
 ·rintro D ⟨hD,hno⟩
  have:=k D (l1.trans hD)
  unfold fIx at this
  rw [QqH fun j hj=>hno j hj hj,if_neg (Nat.lt_irrefl _)] at this
  exact this
theorem Qqz {m s:Str} {B:Nat} (hs:s.length≤B) (hm:m.length≤B):(cutN m s).1.length≤B∧(cutN m s).2.length≤B:=by
 unfold cutN
 cases h:cutD s with
 | none=>exact ⟨hm,hs⟩
 | some p=>
  have:=QoI (s:=s) (a:=p.1) (b:=p.2) h
  dsimp only; omega
theorem Qlg {T:Tl} {m:MoP} {s r:Str} {k:Int} {B:Nat} (hs:s.length≤B) (hm:m.n.length≤B) (h:meanF T m s k=some r):r.length≤2*B+1:=by
 have:=Qqz hs hm
 unfold meanF at h
 split at h
 ·cases h
 ·split at h
  ·injection h with h
   subst h
   simp only [dotS,List.length_append,List.length_cons,List.length_nil]; omega
  ·cases h
theorem Qo1 {T:Tl} {m:MoP} {bp bm:Nat} {sl:Sl} {x:Qa} {s s':Str} {kd:Int} {q:Qo} {p:Pl} {K:Str→Heap→Prop} (hP:Pr H bp bm sl) (hT:TlIs H bm T) (hx:x.Name=m.n) (hi:IpL A x.Imports m.im) (hA:A.le H)
 (hs':s' = s) (hq:q=psP p) (hs:s.length≤1000) (hn:m.n.length≤1000) (k:∀ r D,H.le D→meanF T m s kd=some r→K r D) (ke:∀ D,H.le D→meanF T m s kd=none→E (flt m.n p 63) D):Qah C E (some (bp,0)) x s' kd q K H:=by
 subst hs'; subst hq
 have hcl:=Qqz hs hn
 apply QiJ
 unfold QeM
 refine box1N fun b1 H2 _ _ l1 h1=>box1N fun b3 H4 _ _ l3 h3=>?_
 have h1:=l3 _ _ h1
 have hH4:=l1.trans l3
 refine Qm0 (by omega) ?_
 have step:∀ (r5 r6:Str) (r7:Bool),cutN m.n s' = (if r7 then (r5,r6) else (m.n,s'))→(fun r5 r6 r7 H8=>nw ([sv []]) (fun b9 H10=>
 st (b9,0) (sv r5) (fun H11=>
 jn (α:=Str) (fun x13 H14=>
 nck (some (bp,0)) fun p20=>
 ldM H14 (p20.1,p20.2+1) fun x22=>
 ldS H14 (b9,0) fun x24=>
 lkM kp3 (fun x:Bool=>(.bool x:Value)) false x22 ((⟨x24,x13,kd⟩:Qv).mod_,(⟨x24,x13,kd⟩:Qv).own_,(⟨x24,x13,kd⟩:Qv).kind_) (fun x26 is27=>
 ldS H14 (b9,0) fun x29=>
 ldS H14 ((b1,0).1,(b1,0).2+0) fun x31=>
 jn (α:=Bool) (fun b33 H46=>
 jn (α:=Unit) (fun x48 H49=>
 ldS H49 (b9,0) fun x58=>
 catOk x58 ([46]:Str)∧
 catOk (x58++([46]:Str)) x13∧
 K ((x58++([46]:Str))++x13) H49)
 (fun J47=>ift ((!is27) || (!b33))
 (ldT H46 Qa.c (b1,0) fun x53=>
 ldT H46 Qo.c (b3,0) fun x55=>
 QG C E x53 x55 63 (fun H57=>
 J47 () H57) H46)
 (J47 () H46)))
 (fun J34=>ift (x29 == x31)
 (J34 true H14)
 (jn (α:=Bool) (fun b37 H45=>
 J34 b37 H45)
 (fun J38=>ift x26
 (ldL H14 ((b1,0).1,(b1,0).2+1) fun x41=>
 Qu C x41 (.func (.func 157) (List.toArray []) (List.toArray [pv (some (b9,0))]):Value) (fun r43 H44=>
 J38 r43 H44) H14)
 (J38 false H14))))) H14)
 (fun J12=>ift (!r7)
 (ldS H11 ((b1,0).1,(b1,0).2+0) fun x17=>
 st (b9,0) (sv x17) (fun H19=>
 J12 s' H19) H11)
 (J12 r6 H11))) H10) H8) r5 r6 r7 H4:=fun r5 r6 r7 hc=>by
  refine box1N fun b9 H10 n9 e9 l9 h9=>⟨_,h9,by simp,?_⟩
  have e11:H10.put (b9,0).1 (.row ([sv []].set (b9,0).2 (sv r5)))=H4.put b9 (.row [sv r5]):=by rw [e9,Heap.put_put]; rfl
  rw [e11]
  have key:∀ v:Str,H4.le (H4.put b9 (.row [sv v]))∧(H4.put b9 (.row [sv v])) b9=some (true,.row [sv v]):=fun v=>⟨Heap.le_put n9,Heap.put_same ..⟩
  refine ⟨fun own D=>own=(cutN m.n s').2∧H4.le D∧D b9=some (true,.row [sv (cutN m.n s').1]),?_,?_⟩
  ·refine ift.of (fun h => ?_) (fun h => ?_)
   ·have h7 : r7 = false := by simpa using h
    rw [h7] at hc
    refine fS ((key r5).1 _ _ h1) rfl ⟨_,(key r5).2,by simp,?_⟩
    rw [hc,hx]
    refine ⟨rfl,?_,?_⟩
    ·rw [Heap.put_put]; exact (key _).1
    ·rw [Heap.put_put]; exact (key _).2
   ·have h7 : r7 = true := by simpa using h
    rw [h7] at hc
    rw [hc]
    exact ⟨rfl,(key r5).1,(key r5).2⟩
  ·rintro own D ⟨rfl,hD,hb9⟩
   obtain ⟨_,hbp⟩:=(hP.le (hH4.trans hD)).at_
   refine ⟨_,rfl,some bm,by rw [QaC hbp]; rfl,?_⟩
   refine ⟨(cutN m.n s').1,by rw [QaC hb9]; rfl,?_⟩
   obtain ⟨lT,hm,hl⟩:=hT.le (hH4.trans hD)
   show lkM kp3 encB false (some bm) ((cutN m.n s').1,(cutN m.n s').2,kd) _ D
   have rest:∀ (b is:Bool),(is=true→lkL (((cutN m.n s').1,(cutN m.n s').2,kd):Ky) T=some b)→(is=false→lkL (((cutN m.n s').1,(cutN m.n s').2,kd):Ky) T=none)→(fun (x26 is27:Bool)=>ldS D (b9,0) fun x29=>
 ldS D ((b1,0).1,(b1,0).2+0) fun x31=>
 jn (α:=Bool) (fun b33 H46=>
 jn (α:=Unit) (fun x48 H49=>
 ldS H49 (b9,0) fun x58=>
 catOk x58 ([46]:Str)∧
 catOk (x58++([46]:Str)) (cutN m.n s').2∧
 K ((x58++([46]:Str))++(cutN m.n s').2) H49)
 (fun J47=>ift ((!is27) || (!b33))
 (ldT H46 Qa.c (b1,0) fun x53=>
 ldT H46 Qo.c (b3,0) fun x55=>
 QG C E x53 x55 63 (fun H57=>
 J47 () H57) H46)
 (J47 () H46)))
 (fun J34=>ift (x29 == x31)
 (J34 true D)
 (jn (α:=Bool) (fun b37 H45=>
 J34 b37 H45)
 (fun J38=>ift x26
 (ldL D ((b1,0).1,(b1,0).2+1) fun x41=>
 Qu C x41 (.func (.func 157) (List.toArray []) (List.toArray [pv (some (b9,0))]):Value) (fun r43 H44=>
 J38 r43 H44) D)
 (J38 false D))))) b is := fun b is hy hn' => by
    refine ⟨(cutN m.n s').1,by rw [QaC hb9]; rfl,?_⟩
    refine fS (hD _ _ h1) rfl ?_
    rw [hx]
    refine ⟨fun r G=>D.le G∧r=(decide ((cutN m.n s').1=m.n) || (b && impd m (cutN m.n s').1)),?_,?_⟩
    ·refine ift.of (fun h => ?_) (fun h => ?_)
     ·refine ⟨Heap.le.refl _,?_⟩
      rw [decide_eq_true (eq_of_beq h)]; rfl
     ·have hne : decide ((cutN m.n s').1 = m.n) = false := by
       rw [decide_eq_false_iff_not]; intro e; rw [e] at h; simp at h
      refine jn.inl ?_
      rw [hne]
      refine ift.of (fun h=>?_) (fun h=>?_)
      ·subst h
       refine fL (hD _ _ h1) rfl ?_
       refine cfImport (ok:=fun y=>decide (y.n=(cutN m.n s').1)) hi (hA.trans (hH4.trans hD)) ?_ ?_
       ·intro v hv y G Φ hG hy' hΦ
        refine ⟨157,[],[pv (some (b9,0))],rfl,Qhx,Qhc C y (b9,0) Φ G ?_⟩
        unfold Qd2
        refine box1N fun b2 G2 _ _ l2 h2=>fS h2 rfl ⟨(cutN m.n s').1,by rw [QaC (l2 _ _ (hG _ _ hb9))]; rfl,?_⟩
        have:=hΦ G2 l2
        rw [hy'.2.1]
        show Φ (v.n == (cutN m.n s').1) G2
        rw [QrK]; exact this
       ·intro G hG
        exact ⟨hG,rfl⟩
      ·subst h; exact ⟨Heap.le.refl _,rfl⟩
    ·rintro r G ⟨hG,rfl⟩
     have hHG:=hH4.trans (hD.trans hG)
     refine ⟨fun _ F=>∃ r,meanF T m s' kd=some r∧H.le F∧F=G,?_,?_⟩
     ·refine ift.of (fun h => ?_) (fun h => ?_)
      ·refine bxT (c:=Qa.c) (hG _ _ (hD _ _ h1)) (bxT (c:=Qo.c) (hG _ _ (hD _ _ h3)) ?_)
       refine QdS hx rfl fun F hF=>ke F (hHG.trans hF) ?_
       unfold meanF
       cases is with
       | false=>rw [hn' rfl]
       | true=>
        rw [hy rfl]
        dsimp only
        rw [if_neg]
        intro e
        rw [e] at h; cases h
      ·cases is with
       | false=>simp at h
       | true=>
        have e:(decide ((cutN m.n s').1=m.n) || (b && impd m (cutN m.n s').1))=true:=by simpa [Classical.or_iff_not_imp_left] using h
        refine ⟨dotS (cutN m.n s').1 (cutN m.n s').2,?_,hHG,rfl⟩
        unfold meanF
        rw [hy rfl]
        dsimp only
        rw [if_pos e]
     ·rintro _ F ⟨r,hr,hF,rfl⟩
      refine ⟨(cutN m.n s').1,by rw [QaC (hG _ _ hb9)]; rfl,?_,?_,?_⟩
      ·show _ < _
       simp only [List.length_cons,List.length_nil]; omega
      ·show _ < _
       simp only [List.length_append,List.length_cons,List.length_nil]; omega
      ·have e : r = dotS (cutN m.n s').1 (cutN m.n s').2 := by
        unfold meanF at hr
        split at hr
        ·cases hr
        ·split at hr
         ·injection hr with hr; exact hr.symm
         ·cases hr
       exact k _ F hF (by rw [hr,e]; rfl)
   refine hm.is.lk (fun b hb=>?_) (fun hno=>?_)
   ·rw [hl] at hb
    exact rest b true (fun _=>hb) (fun h=>by cases h)
   ·rw [hl] at hno
    exact rest false false (fun h=>by cases h) (fun _=>hno)
 cases hc:cutD s' with
 | none=>exact step s' [] false (by unfold cutN; rw [hc]; rfl)
 | some q=>exact step q.1 q.2 true (by unfold cutN; rw [hc]; rfl)
end
end
section
open Go Go.Proofs
theorem Qe1 {s:Str} (h:namS s=true):s.length≤32∧s≠[]:=by
 unfold namS nameS at h
 simp only [Bool.and_eq_true,Bool.not_eq_true',decide_eq_true_eq] at h
 exact ⟨h.1.1.1.2,fun e=>by rw [e] at h; simp at h⟩
theorem QrR:∀ {s a b:Str},cutD s=some (a,b)→s=a++46::b
 | [],a,b,h=>by simp [cutD] at h
 | c::t,a,b,h=>by
  simp only [cutD] at h
  by_cases hc:c=46
  ·rw [if_pos hc] at h; injection h with h; injection h with h1 h2; subst h1; subst h2; rw [hc]; rfl
  ·rw [if_neg hc] at h
   cases ht:cutD t with
   | none=>rw [ht] at h; simp at h
   | some p=>
    rw [ht] at h; simp at h
    obtain ⟨rfl,rfl⟩:=h
    have:=QrR (s:=t) (a:=p.1) (b:=p.2) ht
    rw [List.cons_append,← this]
theorem Qlf {s:Str} (h:longS s=true):s.length≤65∧s≠[]:=by
 unfold longS at h
 cases hc:cutD s with
 | none=>rw [hc] at h; have:=Qe1 h; exact ⟨by omega,this.2⟩
 | some p=>
  rw [hc] at h
  simp only [Bool.and_eq_true] at h
  have h1:=Qe1 h.1
  have h2:=Qe1 h.2
  have e:=QrR (s:=s) (a:=p.1) (b:=p.2) hc
  rw [e]
  exact ⟨by simp only [List.length_append,List.length_cons]; omega,by simp⟩
theorem Qq5 {n:Str} {k:Nat} (h:tyN n k=true):n.length≤65∧n≠[]∧k≤16:=by
 unfold tyN at h
 split at h
 ·rename_i hp
  have:k=0:=of_decide_eq_true h
  refine ⟨?_,?_,by omega⟩ <;> (rcases hp with e | e | e | e <;> rw [e] <;> decide)
 ·split at h
  ·rename_i e
   simp only [Bool.and_eq_true,decide_eq_true_eq] at h
   refine ⟨by rw [e]; decide,by rw [e]; decide,h.2⟩
  ·simp only [Bool.or_eq_true,Bool.and_eq_true,decide_eq_true_eq] at h
   rcases h with ⟨h1,h2⟩ | ⟨h1,h2⟩
   ·cases n with
    | nil=>simp [parS] at h1
    | cons c t=>
     simp only [parS,Bool.and_eq_true] at h1
     have:=Qe1 h1.2
     exact ⟨by simp only [List.length_cons]; omega,by simp,by omega⟩
   ·have:=Qlf h1
    exact ⟨by omega,this.2,by omega⟩
theorem Qq6 (v:TyV):tyOk v=true↔tyN v.n v.a.length=true∧∀ w ∈ v.a,tyOk w=true:=by
 obtain ⟨n,a⟩:=v
 have:∀ l:List TyV,tysOk l=true ↔ ∀ w ∈ l,tyOk w=true:=by
  intro l
  induction l with
  | nil=>simp [tysOk]
  | cons v l ih=>simp [tysOk,ih]
 rw [tyOk,Bool.and_eq_true,this]; rfl
theorem Qqm {T:Tl} {m:MoP} (v:TyV):tyF T m v=match tnF T m v.n with
 | none=>none
 | some n' => match mpO (tyF T m) v.a with
  | none=>none
  | some a'=>some (.mk n' a'):=by
 obtain ⟨n,a⟩:=v
 rw [tyF,QsT]; rfl
theorem QqS {α β : Type} {f : α → Option β} : ∀ {l : List α} {v : α} {l' : List β}, mpO f l = some l' → mpO f (l ++ [v]) = match f v with | none => none | some w => some (l' ++ [w])
 | [],v,l',h=>by
  simp only [mpO] at h; injection h with h; subst h
  simp only [List.nil_append,mpO] <;> cases f v <;> rfl
 | u::l,v,l',h=>by
  simp only [List.cons_append,mpO] at h ⊢
  cases hu:f u with
  | none=>rw [hu] at h; cases h
  | some w=>
   rw [hu] at h
   cases hl:mpO f l with
   | none=>rw [hl] at h; cases h
   | some r=>
    rw [hl] at h
    injection h with h; subst h
    rw [QqS hl]
    cases f v <;> rfl
theorem Qmz {α β:Type} {f:α→Option β}:∀ {l:List α} {v:α},v ∈ l→f v=none→mpO f l=none
 | u::l,v,hm,h=>by
  simp only [mpO]
  rcases List.mem_cons.1 hm with rfl | hm
  ·rw [h]
  ·rw [Qmz hm h]; cases f u <;> rfl
theorem QkS {α β:Type} {f:α→Option β}:∀ {l:List α} {l':List β},mpO f l=some l'→l'.length=l.length
 | [],l',h=>by simp only [mpO] at h; injection h with h; subst h; rfl
 | u::l,l',h=>by
  simp only [mpO] at h
  cases hu:f u with
  | none=>rw [hu] at h; cases h
  | some w=>
   rw [hu] at h
   cases hl:mpO f l with
   | none=>rw [hl] at h; cases h
   | some r=>rw [hl] at h; injection h with h; subst h; simp [QkS hl]
/-- the step of a list that may fail -/
theorem Qo3 {α β:Type} {f:α→Option β} {l:List α} {i:Nat} {l':List β} {w:β} (hi:i < l.length) (h:mpO f (l.take i)=some l') (hw:f l[i]=some w):mpO f (l.take (i+1))=some (l'++[w]):=by
 rw [List.take_add_one,List.getElem?_eq_getElem hi,Option.toList_some,QqS h,hw]
theorem Heap.dom_put {H D:Heap} {b:Nat} {g:GO} {m:Bool} (h:∀ x,D x=none→H x=none):∀ x,(D.put b g m) x=none→H x=none:=fun x hx=>by
 by_cases hxb:x=b
 ·subst hxb; rw [Heap.put_same] at hx; cases hx
 ·rw [Heap.put_ne _ _ _ hxb] at hx; exact h x hx
/-- all but a block -/
theorem Heap.del_put {D:Heap} {b:Nat} {g:GO} {m:Bool} {X:Heap} (h:(X.del b).le D):(X.del b).le (D.put b g m):=fun x e hx=>by
 have:x≠b:=fun e'=>by rw [e',Heap.del_same] at hx; cases hx
 rw [Heap.put_ne _ _ _ this]; exact h x e hx
theorem Heap.le_del {A H:Heap} {b:Nat} (h:A.le H) (hb:A b=none):A.le (H.del b):=fun x e hx=>by
 have:x≠b:=fun e'=>by rw [e',hb] at hx; cases hx
 rw [Heap.del_ne _ this]; exact h x e hx
theorem Qvy (x:Qd):∀ u ∈ Qd.c x,u.oneCell' = true:=by
 intro u hu
 simp only [Qd.c,List.mem_cons,List.mem_nil_iff,or_false] at hu
 rcases hu with rfl | rfl <;> rfl
section
variable {C:Ctx} {A:Heap} {E:Value→Heap→Prop}
theorem QuW {T:Tl} {m:MoP} {bp bm:Nat} {sl:Sl} {x:Qa} {p:Pl} (hx:x.Name=m.n) (hi:IpL A x.Imports m.im) (hn:m.n.length≤1000) :
 ∀ (v:TyV),tyOk v=true→∀ {t:Qd} {H:Heap} {q:Qo} {K:Qd→Heap→Prop},Pr H bp bm sl→TlIs H bm T→A.le H→TyIs A v t→q=psP p→
  (∀ r D v',H.le D→tyF T m v=some v'→TyIs (Heap.nw A H D) v' r→K r D)→(∀ D,H.le D→tyF T m v=none→E (flt m.n p 63) D)→QbQ C E (some (bp,0)) x t q K H:=by
 refine TyV.rec_ fun v ih hok t H q K hP hT hA ht hq k ke=>?_
 subst hq
 obtain ⟨hN,hok⟩:=(Qq6 v).1 hok
 obtain ⟨hnl,hne,hal⟩:=Qq5 hN
 obtain ⟨ht1,ht2⟩:=Qej.1 ht
 apply Qi9
 unfold Qfb
 refine box1N fun b1 H2 n1 _ l1 h1=>box1N fun b3 H4 n3 _ l3 h3=>box1N fun b5 H6 n5 _ l5 h5=>box1N fun b7 H8 n7 _ l7 h7=>?_
 have h1:=l7 _ _ (l5 _ _ (l3 _ _ h1))
 have h3:=l7 _ _ (l5 _ _ h3)
 have h5:=l7 _ _ h5
 have hH8:H.le H8:=l1.trans (l3.trans (l5.trans l7))
 have hA8:=hA.trans hH8
 have nb3:H b3=none:=l1.none n3
 have nA3:A b3=none:=hA.none nb3
 have hHd:H.le (H8.del b3):=Heap.le_del hH8 nb3
 have ne13:b1≠b3:=fun e=>by rw [← e] at n3; rename_i q1 _ _; rw [show H2=H.put b1 _ from ‹H2=_›,Heap.put_same] at n3; cases n3
 have ne53:b5≠b3:=fun e=>by
  have:=(Heap.le.none l5 ·:H6 b5=none→H4 b5=none)
  rw [e] at n5
  rw [show H4=H2.put b3 _ from ‹H4=_›,Heap.put_same] at n5; cases n5
 have ne73:b7≠b3:=fun e=>by
  rw [e] at n7
  have:H6 b3=some (true,.row (Qd.c t)):=l5 _ _ ‹H4 b3=some (true,.row (Qd.c t))›
  rw [this] at n7; cases n7
 have d1:(H8.del b3) b1=some (true,.row (Qa.c x)):=by rw [Heap.del_ne _ ne13]; exact h1
 have d5:(H8.del b3) b5=some (true,.row (Qo.c (psP p))):=by rw [Heap.del_ne _ ne53]; exact h5
 have d7:(H8.del b3) b7=some (true,.row (Qd.c Qd.zero)):=by rw [Heap.del_ne _ ne73]; exact h7
 refine ⟨fun _ D=>∃ n',tnF T m v.n=some n'∧(H8.del b3).le D∧D b3=some (true,.row [sv n',slv t.Args]),?_,?_⟩
 ·refine fS h3 rfl ?_
  rw [ht1.1]
  refine ⟨fun b D=>H8=D∧b=primS v.n,?_,?_⟩
  ·have e : ∀ w : Str, (v.n == w) = decide (v.n = w) := fun w => by rw [Bool.eq_iff_iff]; simp
   unfold primS
   refine ift.of (fun h=>⟨rfl,?_⟩) fun h=>ift.of (fun h'=>⟨rfl,?_⟩) fun h'=>ift.of (fun h2=>⟨rfl,?_⟩) fun h2=>ift.of (fun h3=>⟨rfl,?_⟩) fun h3=>⟨rfl,?_⟩
   all_goals simp only [e] at *
   ·rw [h,show decide (v.n=boolS)=true from h]; rfl
   ·rw [h',show decide (v.n=intS)=true from h']; simp
   ·rw [h2,show decide (v.n=bigS)=true from h2]; simp
   ·rw [h3,show decide (v.n=textS)=true from h3]; simp
   ·rw [show decide (v.n=boolS)=false from h,show decide (v.n=intS)=false from h',show decide (v.n=bigS)=false from h2,show decide (v.n=textS)=false from h3]; rfl
  ·rintro b _ ⟨rfl,rfl⟩
   have plain:(primS v.n || decide (v.n.headD 0=39))=true→∃ n',tnF T m v.n=some n'∧(H8.del b3).le H8∧H8 b3=some (true,.row [sv n',slv t.Args]):=fun h=>by
    refine ⟨v.n,by unfold tnF; rw [if_pos h],Heap.del_le _ _,?_⟩
    rw [h3,← ht1.1]; rfl
   refine ift.of (fun h=>plain (by rw [h]; rfl)) fun h=>?_
   refine fS h3 rfl ?_
   rw [ht1.1]
   obtain ⟨c,cs,hc⟩:=List.exists_cons_of_ne_nil hne
   refine ⟨c,by omega,by rw [hc]; rfl,?_⟩
   have hh:v.n.headD 0=c:=by rw [hc]; rfl
   refine ift.of (fun h'=>?_) fun h'=>plain ?_
   ·have hno : (primS v.n || decide (v.n.headD 0 = 39)) = false := by
     rw [h,hh,Bool.false_or,decide_eq_false_iff_not]
     intro e; rw [e] at h'; exact absurd h' (by decide)
    refine bxT (c:=Qa.c) h1 (fS h3 rfl (bxT (c:=Qo.c) h5 ?_))
    refine Qo1 (hP.le hH8) (hT.le hH8) hx hi hA8 ht1.1 rfl (by omega) hn (fun r D hD hr=>?_) (fun D hD hr=>ke D (hH8.trans hD) ?_)
    ·refine ⟨_, hD _ _ h3, by simp [Qd.c], r, ?_, Heap.del_put ((Heap.del_le _ _).trans hD), Heap.put_same ..⟩
     unfold tnF; rw [hno]; exact hr
    ·rw [Qqm]
     have:tnF T m v.n=none:=by unfold tnF; rw [hno]; exact hr
     rw [this]
   ·have : c = 39 := by
     have h':(c.toNat:Int)=39:=by simpa using h'
     have:c.toNat=39:=by omega
     exact UInt8.toNat_inj.1 (by rw [this]; rfl)
    rw [hh,this]; simp
 ·rintro _ D0 ⟨n',hn',hD0,hb3⟩
  have hA0:A.le D0:=(hA.trans hHd).trans hD0
  refine fL hb3 (j:=1) rfl ⟨_,hb3,by simp,?_⟩
  have dom0:∀ b,D0 b=none→H8 b=none:=fun b hb=>by
   by_cases e:b=b3
   ·rw [e,hb3] at hb; cases hb
   ·have:=hD0.none hb; rwa [Heap.del_ne _ e] at this
  have hR:∀ {X Y:Heap} {v:TyV} {x:Qd},X.le Y→TyIs X v x→TyIs Y v x:=fun h h'=>TyIs.le h _ _ h'
  have hlen:=SlIs.len ht2
  refine ⟨fun y D=>(H8.del b3).le D∧∃ (i:Nat) (l':List TyV) (s:Sl),y=(i:Int)∧i≤v.a.length∧mpO (tyF T m) (v.a.take i)=some l'∧Gr TyIs Qd.c 2 A H8 D s l'∧D b3=some (true,.row [sv n',slv s]),fun y _=>v.a.length - y.toNat,?_,?_⟩
  ·refine ⟨Heap.del_put hD0,0,[],Sl.nil,rfl,Nat.zero_le _,rfl,Gr.nil (Heap.dom_put dom0) ?_,Heap.put_same ..⟩
   intro b e hb
   have:b≠b3:=fun e'=>by rw [e',nA3] at hb; cases hb
   rw [Heap.put_ne _ _ _ this]; exact hA0 b e hb
  ·rintro _ D ⟨hD,i,l',s,rfl,hi',hl',hG,hb⟩
   rw [hlen]
   have hAD:=hG.al
   have hlen':=QkS hl'
   rw [List.length_take,Nat.min_eq_left hi'] at hlen'
   refine ift.of (fun h=>?_) (fun h=>?_)
   ·have hlt : i < v.a.length := by have := of_decide_eq_true h; omega
    refine ht2.ld hAD (fun _=>rfl) (by omega) rfl hlt fun y hy=>?_
    intro b53 n53
    refine nwT rfl ?_
    have l53:=Heap.le_put n53 (g:=.row (Qd.c y)) (m:=true)
    have h53:(D.put b53 (.row (Qd.c y))) b53=some (true,.row (Qd.c y)):=Heap.put_same ..
    have hG2:=hG.up l53 hR
    have hD2:=hD.trans l53
    have hb2:=l53 _ _ hb
    have hsb3:∀ q,s.p=some q→q.1≠b3:=fun q hq e=>by
     have:=hG.fresh q hq
     rw [e,h3] at this; cases this
    have hs53:∀ q,s.p=some q→q.1≠b53:=fun q hq e=>by
     obtain ⟨e2,h2⟩:=hG.has q hq
     rw [e,n53] at h2; cases h2
    generalize D.put b53 (.row (Qd.c y))=D2 at *
    have hof:∀ {b:Nat} {e:Bool×GO},(H8.del b3) b=some e→(Heap.off s D2) b=some e:=fun {b e} hb=>Heap.off_some (hD2 b e hb) fun q hq e'=>by
     have:=hG.fresh q hq
     rw [e'] at this
     have h':=Heap.del_le _ _ _ _ hb
     rw [this] at h'; cases h'
    refine ⟨Heap.off s D2,Heap.off_le _ _,?_⟩
    refine fL (Heap.off_some hb2 hsb3) (j:=1) rfl (bxT (c:=Qa.c) (hof d1) (bxT (c:=Qd.c) (Heap.off_some h53 hs53) (bxT (c:=Qo.c) (hof d5) ?_)))
    have hHD2:H.le D2:=hHd.trans hD2
    refine ih _ (List.getElem_mem hlt) (hok _ (List.getElem_mem hlt)) (hP.le hHD2) (hT.le hHD2) hG2.al hy rfl (fun r D3 w hD3 hw hr=>?_) (fun D3 hD3 hw=>ke D3 (hHD2.trans hD3) ?_)
    ·have hG3:=hG2.up hD3 hR
     have hr2:TyIs (Heap.off s (Heap.nw A H8 D3)) w r:=hR (QpE hA8 hG2.dom hG2.fresh hG2.has) hr
     have hoff3:(Heap.off s D2).le (Heap.off s D3):=fun y e hy=>by
      unfold Heap.off at hy ⊢
      split at hy
      ·cases hy
      ·rename_i hn; rw [if_neg hn]; exact hD3 y e hy
     refine ⟨(Heap.off_le _ _).trans hD3,?_⟩
     refine hG3.lit hA8 (fun _=>rfl) (by omega) hR rfl (Qvy r) hr2 (by omega) (by omega) hoff3 fun r2 D4 hG4 h4 hf4=>?_
     have hb4:D4 b3=some (true,.row [sv n',slv s]):=h4 _ _ (Heap.off_some (hD3 _ _ hb2) hsb3)
     refine ⟨_,hb4,by simp,?_⟩
     rw [Q4 (by omega) (by omega)]
     have hD4:(H8.del b3).le D4:=fun b e hb=>h4 b e (hoff3 b e (hof hb))
     refine ⟨⟨Heap.del_put hD4,i+1,l'++[w],r2,by omega,by omega,Qo3 hlt hl' hw,hG4.put h3 nA3,Heap.put_same ..⟩,by first | omega | (dsimp only; omega)⟩
    ·rw [Qqm,hn']
     dsimp only
     rw [Qmz (List.getElem_mem hlt) hw]
   ·have hie : i = v.a.length := by have := of_decide_eq_false h; omega
    subst hie
    rw [List.take_length] at hl'
    refine bxT (c:=Qd.c) (x:=(⟨n',s⟩:Qd)) hb ⟨_,hD _ _ d7,by simp [Qd.c,Qd.zero],?_⟩
    have e1:splice (Qd.c Qd.zero) (b7,0).2 (Qd.c (⟨n',s⟩:Qd))=Qd.c (⟨n',s⟩:Qd):=rfl
    rw [e1]
    refine bxT (c:=Qd.c) (x:=(⟨n',s⟩:Qd)) (Heap.put_same ..) ?_
    have nb7:H b7=none:=l1.none (l3.none (l5.none n7))
    have hG5:=hG.put (g:=.row (Qd.c (⟨n',s⟩:Qd))) h7 (hA.none nb7)
    refine k _ _ (.mk n' l') ?_ ?_ (Qej.2 ⟨⟨rfl,?_⟩,?_⟩)
    ·intro b e hb'
     have:b≠(b7,0).1:=fun e'=>by rw [e'] at hb'; rw [nb7] at hb'; cases hb'
     rw [Heap.put_ne _ _ _ this]; exact (hHd.trans hD) b e hb'
    ·rw [Qqm,hn',hl']
    ·have hm : n' = v.n ∨ meanF T m v.n 0 = some n' := by
      unfold tnF at hn'
      split at hn'
      ·injection hn' with hn'; exact .inl hn'.symm
      ·exact .inr hn'
     rcases hm with e | e
     ·show n'.length≤_; rw [e]; omega
     ·have := Qlg (B := 1000) (by omega) hn e
      show n'.length≤_; omega
    ·have := hG5.is (fun _ => rfl) (by omega) hR (by omega)
     exact this.le (QuD hA hH8) fun _ _ _ h=>hR (QuD hA hH8) h
end
end
section
open Go Go.Proofs
theorem Qo2 {ε α β : Type} {f : α → Except ε β} : ∀ {l : List α} {v : α} {l' : List β}, mpE f l = .ok l' → mpE f (l ++ [v]) = match f v with | .error e => .error e | .ok w => .ok (l' ++ [w])
 | [],v,l',h=>by
  simp only [mpE] at h; injection h with h; subst h
  simp only [List.nil_append,mpE] <;> cases f v <;> rfl
 | u::l,v,l',h=>by
  simp only [List.cons_append,mpE] at h ⊢
  cases hu:f u with
  | error e=>rw [hu] at h; cases h
  | ok w=>
   rw [hu] at h
   cases hl:mpE f l with
   | error e=>rw [hl] at h; cases h
   | ok r=>
    rw [hl] at h
    injection h with h; subst h
    rw [Qo2 hl]
    cases f v <;> rfl
theorem Qsl {ε α β:Type} {f:α→Except ε β} {e:ε}:∀ {a:List α} {b:List α},mpE f a=.error e→mpE f (a++b)=.error e
 | [],b,h=>by simp [mpE] at h
 | u::a,b,h=>by
  simp only [List.cons_append,mpE] at h ⊢
  cases hu:f u with
  | error e'=>rw [hu] at h; exact h
  | ok w=>
   rw [hu] at h
   cases hl:mpE f a with
   | error e'=>
    rw [hl] at h
    rw [Qsl (b:=b) hl]
    exact h
   | ok r=>rw [hl] at h; cases h
/-- the first that fails -/
theorem QlR {ε α β:Type} {f:α→Except ε β} {l:List α} {i:Nat} {l':List β} {e:ε} (hi:i < l.length) (h:mpE f (l.take i)=.ok l') (hw:f l[i]=.error e):mpE f l=.error e:=by
 have:=List.take_append_drop (i+1) l
 rw [← this]
 refine Qsl ?_
 rw [List.take_add_one,List.getElem?_eq_getElem hi,Option.toList_some,Qo2 h,hw]
theorem QjW {ε α β:Type} {f:α→Except ε β} {l:List α} {i:Nat} {l':List β} {w:β} (hi:i < l.length) (h:mpE f (l.take i)=.ok l') (hw:f l[i]=.ok w):mpE f (l.take (i+1))=.ok (l'++[w]):=by
 rw [List.take_add_one,List.getElem?_eq_getElem hi,Option.toList_some,Qo2 h,hw]
theorem Qc7 {ε α β:Type} {f:α→Except ε β}:∀ {l:List α} {l':List β},mpE f l=.ok l'→l'.length=l.length
 | [],l',h=>by simp only [mpE] at h; injection h with h; subst h; rfl
 | u::l,l',h=>by
  simp only [mpE] at h
  cases hu:f u with
  | error e=>rw [hu] at h; cases h
  | ok w=>
   rw [hu] at h
   cases hl:mpE f l with
   | error e=>rw [hl] at h; cases h
   | ok r=>rw [hl] at h; injection h with h; subst h; simp [Qc7 hl]
theorem Qp8 {T:Tl} {m:MoP} (v:ExP):exF T m v=match enF T m v.k v.n with
 | none=>.error v.p
 | some n' => match mpE (exF T m) v.a with
  | .error q=>.error q
  | .ok a'=>.ok (.mk v.p v.k n' v.v a'):=by
 obtain ⟨p,k,n,u,a⟩:=v
 rw [exF,Qr1]; rfl
theorem Qm3 {p:Bool}:∀ {l:List ExV},exsOk p l=true ↔ ∀ w ∈ l,exOk p w=true
 | []=>by simp [exsOk]
 | v::l=>by simp [exsOk,Qm3 (l:=l)]
theorem Qu7 (s:Str):arS s≤2:=by
 unfold arS
 split
 ·omega
 ·split <;> omega
theorem QtN {p:Bool} {v:ExP} (h:exOk p v.e=true):(v.k=5→v.n.length≤65)∧v.a.length≤16∧∀ w ∈ v.a,exOk p w.e=true:=by
 rw [ExP.e_eq,exOk] at h
 split at h
 ·rename_i hk
  simp only [Bool.and_eq_true,decide_eq_true_eq,List.length_map] at h
  have:v.a=[]:=List.length_eq_zero_iff.1 h.1.2
  rw [this]
  exact ⟨fun e=>by rw [hk] at e; omega,by simp,fun w hw=>by cases hw⟩
 ·simp only [Bool.and_eq_true,Qm3,List.length_map,List.mem_map] at h
  obtain ⟨⟨h1,_⟩,h3⟩:=h
  refine ⟨fun e=>?_,?_,fun w hw=>h3 _ ⟨w,hw,rfl⟩⟩
  ·unfold exN at h1
   rw [e] at h1
   simp only [show ¬(5:Int)=2 by omega,show ¬(5:Int)=3 by omega,show ¬(5:Int)=4 by omega,if_false,if_true,Bool.and_eq_true] at h1
   exact (Qlf h1.1).1
  ·have ha:=Qu7 v.n
   unfold exN at h1
   split at h1
   ·simp at h1; rw [h1.2]; simp
   ·split at h1
    ·simp at h1; rw [h1.2]; simp
    ·split at h1
     ·simp at h1; omega
     ·split at h1
      ·simp at h1; omega
      ·split at h1
       ·simp at h1; omega
       ·split at h1
        ·simp at h1; omega
        ·split at h1
         ·simp at h1; omega
         ·cases h1
/-- a slice whose row is its own -/
def OwS (B X:Heap) (z:Nat) (s:Sl):Prop:=s.len=0∨∃ b c,s.p=some (b,0)∧s.x=none∧X b=some (true,.row c)∧s.len*z≤c.length∧B b=none
theorem OwS.le {B X Y:Heap} {z:Nat} {s:Sl} (h:OwS B X z s) (hle:X.le Y):OwS B Y z s:=by
 rcases h with h | ⟨b,c,h1,h2,h3,h4⟩
 ·exact .inl h
 ·exact .inr ⟨b,c,h1,h2,hle _ _ h3,h4⟩
theorem OwS.base {B F X:Heap} {z:Nat} {s:Sl} (h:OwS F X z s) (hd:∀ b,F b=none→B b=none):OwS B X z s:=by
 rcases h with h | ⟨b,c,h1,h2,h3,h4,h5⟩
 ·exact .inl h
 ·exact .inr ⟨b,c,h1,h2,h3,h4,hd b h5⟩
section
variable {α β:Type} {R:Heap→α→β→Prop} {c:β→List Value} {z:Nat} {A H H1 D:Heap} {s:Sl} {l:List α}
theorem Gr.ow (h:Gr R c z A H D s l):OwS H (Heap.nw A H D) z s:=by
 obtain ⟨xs,h1,h2,h3⟩:=h.ex
 obtain ⟨hl,hx,hc,⟨hp,h0⟩ | ⟨b,sp,hp,hbk,_⟩⟩:=h1
 ·exact .inl (by omega)
 ·exact .inr ⟨b,_,hp,hx,Qng (h.fresh _ hp) hbk,by rw [List.length_append,hl]; omega,h.fresh _ hp⟩
/-- over less -/
theorem Gr.base (h:Gr R c z A H1 D s l) (hA:A.le H) (hle:H.le H1) (hR:∀ {X Y:Heap} {v x},X.le Y→R X v x→R Y v x):Gr R c z A H D s l:=by
 obtain ⟨xs,h1,h2,h3⟩:=h.ex
 refine ⟨fun b hb=>hle.none (h.dom b hb),h.al,fun p hp=>hle.none (h.fresh p hp),xs,h1,h2,fun i v x hv hx=>hR (fun b e hb=>?_) (h3 i v x hv hx)⟩
 unfold Heap.off at hb ⊢
 split at hb
 ·cases hb
 ·rename_i hn; rw [if_neg hn]; exact QuD hA hle b e hb
end
theorem Qvg (x:Qf):∀ u ∈ Qf.c x,u.oneCell' = true:=by
 intro u hu
 simp only [Qf.c,List.mem_cons,List.mem_nil_iff,or_false] at hu
 rcases hu with rfl | rfl | rfl <;> rfl
theorem Qli {s:Sl} {A B:Heap} (h:A.le B):(Heap.off s A).le (Heap.off s B):=fun y e hy=>by
 unfold Heap.off at hy ⊢
 split at hy
 ·cases hy
 ·rename_i hn; rw [if_neg hn]; exact h y e hy
section
variable {A H2 F D D2:Heap} {o:Sl} {b:Nat} {g:GO} {e0:Bool×GO}
/-- as QpE, where a block of F is written behind it -/
theorem Qss (hA:A.le H2) (hd:∀ b,F b=none→H2 b=none) (hf:Fresh H2 o) (hs:∀ q,o.p=some q→∃ e,F q.1=some e) (hb:F b=some e0) (hAb:A b=none):(Heap.nw A F D2).le (Heap.off o (Heap.nw A H2 (D2.put b g))):=fun x e hx=>by
 have hne:x≠b:=fun e'=>by
  unfold Heap.nw at hx
  rw [e',hb] at hx
  rw [hAb] at hx; cases hx
 have h1:=QpE hA hd hf hs x e hx
 unfold Heap.off at h1 ⊢
 split at h1
 ·cases h1
 ·rename_i hn
  rw [if_neg hn]
  unfold Heap.nw at h1 ⊢
  rw [Heap.put_ne _ _ _ hne]; exact h1
theorem Qbg (h:D.le D2) (hb:D b=none) {m:Bool}:D.le (D2.put b g m):=fun x e hx=>by
 have:x≠b:=fun e'=>by rw [e',hb] at hx; cases hx
 rw [Heap.put_ne _ _ _ this]; exact h x e hx
theorem Qur (hA:A.le H2) (hf:Fresh H2 o):A.le (Heap.off o (Heap.nw A H2 D)):=fun x e hx=>Heap.off_some (Qsd hA x e hx) fun q hq e'=>by
 have:=hf q hq
 rw [e',hA x e hx] at this; cases this
end
section
variable {C:Ctx} {A:Heap} {E:Value→Heap→Prop}
theorem Qoa {T:Tl} {m:MoP} {bp bm:Nat} {sl:Sl} {x:Qa} {p:Pl} (hx:x.Name=m.n) (hi:IpL A x.Imports m.im) (hn:m.n.length≤1000)
 {l:List FdV} {s:Sl} {H:Heap} {q:Qo} {K:Sl→Heap→Prop} (hok:∀ f ∈ l,tyOk f.t=true) (hll:l.length≤1000) (hP:Pr H bp bm sl) (hT:TlIs H bm T) (hA:A.le H) (hs:FdL A s l) (hq:q=psP p)
 (k:∀ r D l',H.le D→mpO (fdF T m) l=some l'→Gr FdIs Qf.c 3 A H D r l'→K r D) (ke:∀ D,H.le D→mpO (fdF T m) l=none→E (flt m.n p 63) D):QX C E (some (bp,0)) x s q K H:=by
 subst hq
 apply Qha
 unfold Qd0
 refine box1N fun b1 H2 n1 _ l1 h1=>box1N fun b3 H4 n3 _ l3 h3=>?_
 have h1:=l3 _ _ h1
 have hH4:H.le H4:=l1.trans l3
 have hA4:=hA.trans hH4
 have hlen:=SlIs.len hs
 have hR:∀ {X Y:Heap} {v:FdV} {x:Qf},X.le Y→FdIs X v x→FdIs Y v x:=fun h h'=>FdIs.le h h'
 refine ⟨fun y D=>H4.le D∧∃ (i:Nat) (l':List FdV),y.2=(i:Int)∧i≤l.length∧mpO (fdF T m) (l.take i)=some l'∧Gr FdIs Qf.c 3 A H4 D y.1 l',fun y _=>l.length - y.2.toNat,⟨Heap.le.refl _,0,[],rfl,Nat.zero_le _,rfl,Gr.nil (fun _ h=>h) hA4⟩,?_⟩
 rintro ⟨o,_⟩ D ⟨hD,i,l',rfl,hi',hl',hG⟩
 rw [hlen]
 have hlen':=QkS hl'
 rw [List.length_take,Nat.min_eq_left hi'] at hlen'
 refine ift.of (fun h=>?_) (fun h=>?_)
 ·have hlt : i < l.length := by have := of_decide_eq_true h; first | omega | (dsimp only at this; omega)
  refine hs.ld (hA4.trans hD) (fun _=>rfl) (by omega) rfl hlt fun y hy=>?_
  intro b16 n16
  refine nwT rfl ?_
  have l16:=Heap.le_put n16 (g:=.row (Qf.c y)) (m:=true)
  have h16:(D.put b16 (.row (Qf.c y))) b16=some (true,.row (Qf.c y)):=Heap.put_same ..
  have hG2:=hG.up l16 hR
  have hD2:=hD.trans l16
  have hs16:∀ q,o.p=some q→q.1≠b16:=fun q hq e=>by
   obtain ⟨e2,h2⟩:=hG.has q hq
   rw [e,n16] at h2; cases h2
  generalize D.put b16 (.row (Qf.c y))=D2 at *
  have hof:∀ {b:Nat} {e:Bool×GO},H4 b=some e→(Heap.off o D2) b=some e:=fun {b e} hb=>Heap.off_some (hD2 b e hb) fun q hq e'=>by
   have:=hG.fresh q hq
   rw [e',hb] at this; cases this
  refine ⟨Heap.off o D2,Heap.off_le _ _,?_⟩
  refine fS (Heap.off_some h16 hs16) rfl (bxT (c:=Qa.c) (hof h1) (fT (c:=Qd.c) (x:=y.Type_) (Heap.off_some h16 hs16) (fun i v hv=>by match i,hv with | 0,hv=>exact hv | 1,hv=>exact hv) (bxT (c:=Qo.c) (hof h3) ?_)))
  have hHD2:=hH4.trans hD2
  refine QuW hx hi hn _ (hok _ (List.getElem_mem hlt)) (hP.le hHD2) (hT.le hHD2) hG2.al hy.2 rfl (fun r D3 w hD3 hw hr=>?_) (fun D3 hD3 hw=>ke D3 (hHD2.trans hD3) ?_)
  ·have hG3:=hG2.up hD3 hR
   have hw2:fdF T m l[i]=some ⟨l[i].n,w⟩:=by unfold fdF; rw [hw]
   refine ⟨(Heap.off_le _ _).trans hD3,?_⟩
   refine hG3.lit hA4 (x:=(⟨y.Name,r⟩:Qf)) (v:=⟨l[i].n,w⟩) (fun _=>rfl) (by omega) hR rfl (Qvg _) ⟨hy.1,TyIs.le (QpE hA4 hG2.dom hG2.fresh hG2.has) _ _ hr⟩ (by omega) (by omega) (Qli hD3) fun r2 D4 hG4 h4 hf4=>?_
   rw [Q4 (by omega) (by omega)]
   exact ⟨⟨fun b e hb=>h4 b e (Qli hD3 b e (hof hb)),i+1,l'++[⟨l[i].n,w⟩],by first | omega | (dsimp only; omega),by omega,Qo3 hlt hl' hw2,hG4⟩,by first | omega | (dsimp only; omega)⟩
  ·refine Qmz (List.getElem_mem hlt) ?_
   unfold fdF; rw [hw]
 ·have hie : i = l.length := by have := of_decide_eq_false h; first | omega | (dsimp only at this; omega)
  subst hie
  rw [List.take_length] at hl'
  exact k _ _ _ (hH4.trans hD) hl' (hG.base hA hH4 hR)
/-- what expressions come to -/
def EC (C:Ctx) (A:Heap) (E:Value→Heap→Prop) (T:Tl) (m:MoP) (bp bm:Nat) (sl:Sl) (x:Qa) (l:List ExP):Prop:=
 ∀ {s:Sl} {H:Heap} {K:Sl→Heap→Prop},Pr H bp bm sl→TlIs H bm T→A.le H→EpL A s l→
  (∀ r D l',H.le D→mpE (exF T m) l=.ok l'→Gr EpIs Qb.c 9 A H D r l'→K r D)→(∀ D p,H.le D→mpE (exF T m) l=.error p→E (flt m.n p 63) D)→Qap C E (some (bp,0)) x s K H
theorem Qn8 {T:Tl} {m:MoP} {bp bm:Nat} {sl:Sl} {x:Qa} (hx:x.Name=m.n) (hi:IpL A x.Imports m.im) (hn:m.n.length≤1000)
 {l:List ExP} (hok:∀ v ∈ l,∃ p,exOk p v.e=true) (hll:l.length≤1000) (ih:∀ v ∈ l,EC C A E T m bp bm sl x v.a):EC C A E T m bp bm sl x l:=by
 intro s H K hP hT hA hs k ke
 apply Qh0
 unfold Qex
 refine box1N fun b1 H2 n1 _ l1 h1=>?_
 have hA2:=hA.trans l1
 have hlen:=SlIs.len hs
 have hR:∀ {X Y:Heap} {v:ExP} {x:Qb},X.le Y→EpIs X v x→EpIs Y v x:=fun h h'=>EpIs.le h _ _ h'
 refine ⟨fun y D=>H2.le D∧∃ (i:Nat) (l':List ExP),y.2=(i:Int)∧i≤l.length∧mpE (exF T m) (l.take i)=.ok l'∧Gr EpIs Qb.c 9 A H2 D y.1 l',fun y _=>l.length - y.2.toNat,⟨Heap.le.refl _,0,[],rfl,Nat.zero_le _,rfl,Gr.nil (fun _ h=>h) hA2⟩,?_⟩
 rintro ⟨o,_⟩ D ⟨hD,i,l',rfl,hi',hl',hG⟩
 rw [hlen]
 have hlen':=Qc7 hl'
 rw [List.length_take,Nat.min_eq_left hi'] at hlen'
 refine ift.of (fun h=>?_) (fun h=>?_)
 ·have hlt : i < l.length := by have := of_decide_eq_true h; first | omega | (dsimp only at this; omega)
  refine hs.ld (hA2.trans hD) (fun _=>rfl) (by omega) rfl hlt fun y hy=>?_
  obtain ⟨e1,e2,e3,e4,e5,e6⟩:=QjV.1 hy
  obtain ⟨p0,hok0⟩:=hok _ (List.getElem_mem hlt)
  obtain ⟨o1,o2,o3⟩:=QtN hok0
  have iha:=@ih _ (List.getElem_mem hlt)
  have herr:=fun q=>QlR (e:=q) hlt hl'
  have htk:=fun w=>QjW (w:=w) hlt hl'
  generalize l[i]=v at *
  intro b14 n14
  refine nwT rfl ?_
  have l14:=Heap.le_put n14 (g:=.row (Qb.c y)) (m:=true)
  have h14:(D.put b14 (.row (Qb.c y))) b14=some (true,.row (Qb.c y)):=Heap.put_same ..
  have hs14:∀ q,o.p=some q→q.1≠b14:=fun q hq e=>by
   obtain ⟨e2,h2⟩:=hG.has q hq
   rw [e,n14] at h2; cases h2
  have hH2D:=l1.trans hD
  have hput:∀ g,D.le (D.put b14 g):=fun g=>Heap.le_put n14
  generalize hD2:D.put b14 (.row (Qb.c y))=D2 at *
  have hHD2:H.le D2:=hH2D.trans l14
  refine ⟨fun _ F=>∃ n',enF T m v.k v.n=some n'∧D.le F∧F b14=some (true,.row (Qb.c { y with Name:=n' }))∧Nm n' n',?_,?_⟩
  ·refine fI h14 rfl ?_
   refine ift.of (fun h=>?_) (fun h=>?_)
   ·have hk5 : v.k = 5 := by rw [← e2]; simpa using h
    refine bxT (c:=Qa.c) (l14 _ _ (hD _ _ h1)) (fS h14 rfl (fPs (x:=y.Pos) h14 rfl rfl ?_))
    have hl5:=o1 hk5
    refine Qo1 (hP.le hHD2) (hT.le hHD2) hx hi (hA.trans hHD2) e3.1 e1 (by omega) hn (fun r F hF hr=>?_) (fun F hF hr=>ke F _ (hHD2.trans hF) (herr _ ?_))
    ·have hF14:=hF _ _ h14
     refine ⟨_,hF14,by simp [Qb.c],r,by unfold enF; rw [if_pos hk5]; exact hr,?_,Heap.put_same ..,rfl,?_⟩
     ·intro b e hb
      have:b≠b14:=fun e'=>by rw [e',n14] at hb; cases hb
      rw [Heap.put_ne _ _ _ this]; exact hF _ _ (l14 _ _ hb)
     ·have:=Qlg (B:=1000) (by omega) hn hr; omega
    ·rw [Qp8]
     have:enF T m v.k v.n=none:=by unfold enF; rw [if_pos hk5]; exact hr
     rw [this]
   ·have hk5 : ¬ v.k = 5 := fun e => by rw [← e2] at e; rw [e] at h; simp at h
    refine ⟨v.n,by unfold enF; rw [if_neg hk5],l14,?_,rfl,e3.2⟩
    rw [h14,← e3.1]
  ·rintro _ F ⟨n',hn',hF,hb,hnm⟩
   have hHF:=hH2D.trans hF
   refine bxT (c:=Qa.c) (hF _ _ (hD _ _ h1)) (fL hb (j:=8) rfl ?_)
   refine iha (hP.le hHF) (hT.le hHF) (hA.trans hHF) e6 (fun r G la hFG hla hGr=>?_) (fun G q hFG hq=>ke G q (hHF.trans hFG) (herr _ ?_))
   ·have hb':=hFG _ _ hb
    refine ⟨_,hb',by simp [Qb.c],?_⟩
    have hla':=Qc7 hla
    refine bxT (c:=Qb.c) (x:={ y with Name:=n',Args:=r }) (Heap.put_same ..) ?_
    rw [List.append_nil]
    have hA14:A b14=none:=(hA2.trans hD).none n14
    have hoF:∀ q,o.p=some q→∃ e,F q.1=some e:=fun q hq=>by
     obtain ⟨e,he⟩:=hG.has q hq
     exact ⟨e,hF _ _ he⟩
    have hdom:∀ b,F b=none→H2 b=none:=fun b hb=>hG.dom b (hF.none hb)
    have key:=Qss (D2:=G) (g:=.row (Qb.c { y with Name:=n',Args:=r })) hA2 hdom hG.fresh hoF hb hA14
    have hDG:D.le (G.put b14 (.row (Qb.c { y with Name:=n',Args:=r }))):=Qbg (hF.trans hFG) n14
    have hG3:=hG.up hDG hR
    have hAo:A.le (Heap.off o (Heap.nw A H2 (G.put b14 (.row (Qb.c { y with Name:=n',Args:=r }))))):=Qur hA2 hG.fresh
    show apd _ 120 o _ 1 _ (G.put b14 (.row (Qb.c { y with Name:=n',Args:=r })))
    refine hG3.addD hA2 (zc:=Qb.c Qb.zero) (bytes:=120) (x:={ y with Name:=n',Args:=r }) (v:=.mk v.p v.k n' v.v la) (fun _=>rfl) (by omega) hR rfl (QjV.2 ⟨e1,e2,hnm,e4.le hAo,e5,(hGr.is (fun _=>rfl) (by omega) hR (by omega)).le key fun _ _ _ h=>hR key h⟩) (by omega) (by omega) fun r2 D4 hG4 h4 hf4=>?_
    rw [Q4 (by omega) (by omega)]
    have hw:exF T m v=.ok (.mk v.p v.k n' v.v la):=by rw [Qp8,hn',hla]
    exact ⟨⟨fun b e hb=>h4 b e (Heap.off_some (hDG b e (hD b e hb)) fun q hq e'=>by have:=hG.fresh q hq; rw [e',hb] at this; cases this),i+1,_,by first | omega | (dsimp only; omega),by omega,htk _ hw,hG4⟩,by first | omega | (dsimp only; omega)⟩
   ·rw [Qp8,hn']
    dsimp only
    rw [hq]
 ·have hie : i = l.length := by have := of_decide_eq_false h; first | omega | (dsimp only at this; omega)
  subst hie
  rw [List.take_length] at hl'
  exact k _ _ _ (l1.trans hD) hl' (hG.base hA l1 hR)
end
end
section
open Go Go.Proofs
theorem QoM {p:Bool} {a:List ExP} (h:exsOk p (a.map ExP.e)=true):∀ v ∈ a,∃ p,exOk p v.e=true:=fun v hv=>⟨p,Qm3.1 h _ (List.mem_map_of_mem hv)⟩
theorem Qvk {v:LiP} (h:liOk v.e=true):(v.k=1∨v.k=2→v.r.length≤65)∧v.a.length≤16∧∀ w ∈ v.a,∃ p,exOk p w.e=true:=by
 unfold liOk LiP.e at h
 dsimp only at h
 rw [List.length_map] at h
 split at h
 ·simp only [Bool.and_eq_true,decide_eq_true_eq] at h
  exact ⟨fun _=>(Qlf h.1.1).1,by omega,QoM h.2⟩
 ·rename_i hn
  split at h
  ·simp only [Bool.and_eq_true,decide_eq_true_eq] at h
   exact ⟨fun e=>absurd e hn,by omega,QoM h.2⟩
  ·split at h
   ·simp only [Bool.and_eq_true,decide_eq_true_eq] at h
    exact ⟨fun e=>absurd e hn,by omega,QoM h.2⟩
   ·cases h
section
variable {C:Ctx} {A:Heap} {E:Value→Heap→Prop}
theorem Qr0 {T:Tl} {m:MoP} {bp bm:Nat} {sl:Sl} {x:Qa} (hx:x.Name=m.n) (hi:IpL A x.Imports m.im) (hn:m.n.length≤1000) :
 ∀ v:ExP,(∃ p,exOk p v.e=true)→EC C A E T m bp bm sl x v.a:=by
 refine ExP.rec_ fun v ih hok=>?_
 obtain ⟨p,hok⟩:=hok
 obtain ⟨_,o2,o3⟩:=QtN hok
 exact Qn8 hx hi hn (fun w hw=>⟨p,o3 w hw⟩) (by omega) fun w hw=>ih w hw ⟨p,o3 w hw⟩
theorem Qpt {T:Tl} {m:MoP} {bp bm:Nat} {sl:Sl} {x:Qa} (hx:x.Name=m.n) (hi:IpL A x.Imports m.im) (hn:m.n.length≤1000)
 {l:List ExP} (hok:∀ v ∈ l,∃ p,exOk p v.e=true) (hll:l.length≤1000):EC C A E T m bp bm sl x l:=
 Qn8 hx hi hn hok hll fun v hv=>Qr0 hx hi hn v (hok v hv)
theorem QrO {T:Tl} {m:MoP} {bp bm:Nat} {sl:Sl} {x:Qa} (hx:x.Name=m.n) (hi:IpL A x.Imports m.im) (hn:m.n.length≤1000)
 {l:List LiP} (hok:∀ v ∈ l,liOk v.e=true) (hll:l.length≤1000) {s:Sl} {H:Heap} {K:Sl→Heap→Prop} (hP:Pr H bp bm sl) (hT:TlIs H bm T) (hA:A.le H) (hs:LpL A s l)
 (k:∀ r D l',H.le D→mpE (liF T m) l=.ok l'→Gr LpIs Qk.c 5 A H D r l'→K r D) (ke:∀ D p,H.le D→mpE (liF T m) l=.error p→E (flt m.n p 63) D):Qav C E (some (bp,0)) x s K H:=by
 apply QiH
 unfold QeK
 refine box1N fun b1 H2 n1 _ l1 h1=>?_
 have hA2:=hA.trans l1
 have hlen:=SlIs.len hs
 have hR:∀ {X Y:Heap} {v:LiP} {x:Qk},X.le Y→LpIs X v x→LpIs Y v x:=fun h h'=>LpIs.le h h'
 have hRe:∀ {X Y:Heap} {v:ExP} {x:Qb},X.le Y→EpIs X v x→EpIs Y v x:=fun h h'=>EpIs.le h _ _ h'
 refine ⟨fun y D=>H2.le D∧∃ (i:Nat) (l':List LiP),y.2=(i:Int)∧i≤l.length∧mpE (liF T m) (l.take i)=.ok l'∧Gr LpIs Qk.c 5 A H2 D y.1 l',fun y _=>l.length - y.2.toNat,⟨Heap.le.refl _,0,[],rfl,Nat.zero_le _,rfl,Gr.nil (fun _ h=>h) hA2⟩,?_⟩
 rintro ⟨o,_⟩ D ⟨hD,i,l',rfl,hi',hl',hG⟩
 rw [hlen]
 have hlen':=Qc7 hl'
 rw [List.length_take,Nat.min_eq_left hi'] at hlen'
 refine ift.of (fun h=>?_) (fun h=>?_)
 ·have hlt : i < l.length := by have := of_decide_eq_true h; first | omega | (dsimp only at this; omega)
  refine hs.ld (hA2.trans hD) (fun _=>rfl) (by omega) rfl hlt fun y hy=>?_
  obtain ⟨e1,e2,e3,e6⟩:=hy
  obtain ⟨o1,o2,o3⟩:=Qvk (hok _ (List.getElem_mem hlt))
  have herr:=fun q=>QlR (e:=q) hlt hl'
  have htk:=fun w=>QjW (w:=w) hlt hl'
  generalize l[i]=v at *
  intro b14 n14
  refine nwT rfl ?_
  have l14:=Heap.le_put n14 (g:=.row (Qk.c y)) (m:=true)
  have h14:(D.put b14 (.row (Qk.c y))) b14=some (true,.row (Qk.c y)):=Heap.put_same ..
  have hH2D:=l1.trans hD
  generalize hD2:D.put b14 (.row (Qk.c y))=D2 at *
  have hHD2:H.le D2:=hH2D.trans l14
  refine ⟨fun _ F=>∃ n',lnF T m v.k v.r=some n'∧D.le F∧F b14=some (true,.row (Qk.c { y with Rel:=n' }))∧Nm n' n',?_,?_⟩
  ·refine fI h14 rfl ?_
   refine ⟨fun b F=>F=D2∧(b=true↔v.k=1∨v.k=2),?_,?_⟩
   ·rw [e2]
    refine ift.of (fun h=>⟨rfl,?_⟩) (fun h=>fI h14 rfl ⟨rfl,?_⟩)
    ·have : v.k = 1 := by simpa using h
     simp [this]
    ·have : ¬ v.k = 1 := by simpa using h
     rw [e2]; simp [this]
   ·rintro b F ⟨hF0,hb⟩
    subst hF0
    refine ift.of (fun h=>?_) (fun h=>?_)
    ·have hk:=hb.1 h
     refine bxT (c:=Qa.c) (l14 _ _ (hD _ _ h1)) (fS h14 rfl (fPs (x:=y.Pos) h14 rfl rfl ?_))
     have hl5:=o1 hk
     refine Qo1 (hP.le hHD2) (hT.le hHD2) hx hi (hA.trans hHD2) e3.1 e1 (by omega) hn (fun r F hF hr=>?_) (fun F hF hr=>ke F _ (hHD2.trans hF) (herr _ ?_))
     ·have hF14:=hF _ _ h14
      refine ⟨_,hF14,by simp [Qk.c],r,by unfold lnF; rw [if_pos hk]; exact hr,Qbg (l14.trans hF) n14,Heap.put_same ..,rfl,?_⟩
      have:=Qlg (B:=1000) (by omega) hn hr; omega
     ·unfold liF
      have:lnF T m v.k v.r=none:=by unfold lnF; rw [if_pos hk]; exact hr
      rw [this]
    ·have hk : ¬ (v.k = 1 ∨ v.k = 2) := fun e => by rw [hb.2 e] at h; cases h
     refine ⟨v.r,by unfold lnF; rw [if_neg hk],l14,?_,rfl,e3.2⟩
     rw [h14,← e3.1]
  ·rintro _ F ⟨n',hn',hF,hb,hnm⟩
   have hHF:=hH2D.trans hF
   refine bxT (c:=Qa.c) (hF _ _ (hD _ _ h1)) (fL hb (j:=4) rfl ?_)
   refine Qpt hx hi hn o3 (by omega) (hP.le hHF) (hT.le hHF) (hA.trans hHF) e6 (fun r G la hFG hla hGr=>?_) (fun G q hFG hq=>ke G q (hHF.trans hFG) (herr _ ?_))
   ·have hb':=hFG _ _ hb
    refine ⟨_,hb',by simp [Qk.c],?_⟩
    have hla':=Qc7 hla
    refine bxT (c:=Qk.c) (x:={ y with Rel:=n',Args:=r }) (Heap.put_same ..) ?_
    rw [List.append_nil]
    have hA14:A b14=none:=(hA2.trans hD).none n14
    have hoF:∀ q,o.p=some q→∃ e,F q.1=some e:=fun q hq=>by
     obtain ⟨e,he⟩:=hG.has q hq
     exact ⟨e,hF _ _ he⟩
    have hdom:∀ b,F b=none→H2 b=none:=fun b hb=>hG.dom b (hF.none hb)
    have key:=Qss (D2:=G) (g:=.row (Qk.c { y with Rel:=n',Args:=r })) hA2 hdom hG.fresh hoF hb hA14
    have hDG:D.le (G.put b14 (.row (Qk.c { y with Rel:=n',Args:=r }))):=Qbg (hF.trans hFG) n14
    have hG3:=hG.up hDG hR
    show apd _ 64 o _ 1 _ (G.put b14 (.row (Qk.c { y with Rel:=n',Args:=r })))
    refine hG3.addD hA2 (zc:=Qk.c Qk.zero) (bytes:=64) (x:={ y with Rel:=n',Args:=r }) (v:=⟨v.p,v.k,n',la⟩) (fun _=>rfl) (by omega) hR rfl ⟨e1,e2,hnm,(hGr.is (fun _=>rfl) (by omega) hRe (by omega)).le key fun _ _ _ h=>hRe key h⟩ (by omega) (by omega) fun r2 D4 hG4 h4 hf4=>?_
    rw [Q4 (by omega) (by omega)]
    have hw:liF T m v=.ok ⟨v.p,v.k,n',la⟩:=by unfold liF; rw [hn']; dsimp only; rw [hla]
    exact ⟨⟨fun b e hb=>h4 b e (Heap.off_some (hDG b e (hD b e hb)) fun q hq e'=>by have:=hG.fresh q hq; rw [e',hb] at this; cases this),i+1,_,by first | omega | (dsimp only; omega),by omega,htk _ hw,hG4⟩,by first | omega | (dsimp only; omega)⟩
   ·unfold liF
    rw [hn']
    dsimp only
    rw [hq]
 ·have hie : i = l.length := by have := of_decide_eq_false h; first | omega | (dsimp only at this; omega)
  subst hie
  rw [List.take_length] at hl'
  exact k _ _ _ (l1.trans hD) hl' (hG.base hA l1 hR)
end
end
section
open Go Go.Proofs
def bk (s:Sl):List Nat:=match s.p with
 | none=>[]
 | some p=>[p.1]
theorem Qgo {s:Sl} {b:Nat}:b ∈ bk s ↔ ∃ p,s.p=some p∧p.1=b:=by
 unfold bk
 cases s.p with
 | none=>simp
 | some p=>simp [eq_comm]
def offB (X:List Nat) (H:Heap):Heap:=fun b=>if X.contains b=true then none else H b
theorem Qo5 (X:List Nat) (H:Heap):(offB X H).le H:=fun b e h=>by
 unfold offB at h
 split at h
 ·cases h
 ·exact h
theorem Qo6 {X:List Nat} {H:Heap} {b:Nat} {e:Bool×GO} (h:offB X H b=some e):b ∉ X:=fun hm=>by
 unfold offB at h
 rw [if_pos (List.contains_iff_mem.2 hm)] at h; cases h
theorem Qlh {X:List Nat} {H:Heap} {b:Nat} {e:Bool×GO} (h:H b=some e) (hb:b ∉ X):offB X H b=some e:=by
 unfold offB
 rw [if_neg (fun hm=>hb (List.contains_iff_mem.1 hm))]; exact h
section
variable {A B F G D D2:Heap} {X X2:List Nat}
theorem QfY (h:D.le D2):(offB X (Heap.nw A B D)).le (offB X (Heap.nw A B D2)):=fun b e hb=>Qlh (QuE h b e (Qo5 _ _ b e hb)) (Qo6 hb)
/-- what a call over F makes is apart from what grows -/
theorem Qsr (hA:A.le B) (hd:∀ b,F b=none→B b=none) (hX:∀ b ∈ X,(∃ e,F b=some e)∧A b=none):(Heap.nw A F G).le (offB X (Heap.nw A B G)):=fun b e hb=>by
 refine Qlh ?_ fun hm=>?_
 ·rcases QjY hb with ⟨q,q2⟩ | q
  ·exact Qng (hd b q) q2
  ·exact Qsd hA b e q
 ·obtain ⟨⟨e2,h2⟩,h3⟩:=hX b hm
  rcases QjY hb with ⟨q,_⟩ | q
  ·rw [h2] at q; cases q
  ·rw [h3] at q; cases q
/-- the same, where a block of F is written behind it -/
theorem QjZ {b:Nat} {g:GO} {e0:Bool×GO} (hA:A.le B) (hd:∀ b,F b=none→B b=none) (hX:∀ b ∈ X,(∃ e,F b=some e)∧A b=none) (hb:F b=some e0) (hAb:A b=none):(Heap.nw A F G).le (offB X (Heap.nw A B (G.put b g))):=fun x e hx=>by
 have hne:x≠b:=fun e'=>by
  unfold Heap.nw at hx
  rw [e',hb] at hx
  rw [hAb] at hx; cases hx
 have h1:=Qsr hA hd hX x e hx
 have h2:=Qo6 h1
 have h3:=Qo5 _ _ _ _ h1
 refine Qlh ?_ h2
 unfold Heap.nw at h3 ⊢
 rw [Heap.put_ne _ _ _ hne]; exact h3
end
/-- a list: its row its own; its elements in Z -/
def Gq {α β:Type} (R:Heap→α→β→Prop) (c:β→List Value) (z:Nat) (Z D:Heap) (s:Sl) (l:List α):Prop:=
 ∃ xs:List β,Own D z s (xs.flatMap c)∧l.length=xs.length∧∀ (i:Nat) (v:α) (x:β),l[i]? = some v→xs[i]? = some x→R Z v x
section
variable {α β:Type} {R:Heap→α→β→Prop} {c:β→List Value} {z:Nat} {Z Z2 A B D D2:Heap} {s r t:Sl} {l:List α} {v:α} {x:β}
theorem QeY {xs:List β} (hz:∀ x,(c x).length=z):(xs.flatMap c).length=xs.length*z:=by
 induction xs with
 | nil=>simp
 | cons a xs ih=>simp only [List.flatMap_cons,List.length_append,ih,hz,List.length_cons,Nat.add_mul]; omega
theorem Gq.len (h:Gq R c z Z D s l) (hz:∀ x,(c x).length=z) (hz0:0 < z):s.len=l.length:=by
 obtain ⟨xs,h1,h2,h3⟩:=h
 have:=h1.1
 rw [QeY hz] at this
 have:=Nat.eq_of_mul_eq_mul_right hz0 this
 omega
theorem Gq.has (h:Gq R c z Z D s l):∀ b ∈ bk s,∃ e,D b=some e:=fun b hb=>by
 obtain ⟨p,hp,rfl⟩:=Qgo.1 hb
 obtain ⟨xs,h1,_⟩:=h
 obtain ⟨g,hg⟩:=h1.mine hp
 exact ⟨_,hg⟩
theorem Gq.mono (h:Gq R c z Z D s l) (hD:∀ b ∈ bk s,∀ e,D b=some e→D2 b=some e) (hZ:Z.le Z2) (hR:∀ {X Y:Heap} {v x},X.le Y→R X v x→R Y v x):Gq R c z Z2 D2 s l:=by
 obtain ⟨xs,⟨hl,hx,hc,h0⟩,h2,h3⟩:=h
 refine ⟨xs,⟨hl,hx,hc,?_⟩,h2,fun i v x hv hx=>hR hZ (h3 i v x hv hx)⟩
 rcases h0 with h0 | ⟨b,sp,hp,hb,h1⟩
 ·exact .inl h0
 ·exact .inr ⟨b,sp,hp,hD b (Qgo.2 ⟨_,hp,rfl⟩) _ hb,h1⟩
theorem Gq.nil {Z D:Heap}:Gq R c z Z D Sl.nil ([]:List α):=⟨[],Own.nil _ _,rfl,fun i v x h=>by simp at h⟩
/-- an element more: whatever holds the new one and what it was before -/
theorem Gq.add (h:Gq R c z Z D s l) (hz:∀ x,(c x).length=z) (hz0:0 < z) {zc:List Value} (hzc:zc.length=z) {bytes:Nat} {K:Sl→Heap→Prop} (hb:(l.length+1)*bytes≤140737488355328) (hl:l.length+1≤140737488355328)
 (k:∀ r D2,(∀ Z2,(∀ (i:Nat) (v:α) (x:β),R Z v x→R Z2 v x)→R Z2 v x→Gq R c z Z2 D2 r (l++[v]))→(Heap.off s D).le D2→Fresh (Heap.off s D) r→K r D2):apd zc bytes s (c x) 1 K D:=by
 have hlen:=h.len hz hz0
 obtain ⟨xs,g1,g2,g3⟩:=h
 subst hzc
 refine QoD g1.off (by rw [hz,Nat.one_mul]) (by rw [hlen]; exact hb) (by rw [hlen]; omega) fun r D2 ho hr=>?_
 refine k r D2 (fun Z2 hZ hv=>⟨xs++[x],?_,by simp [g2],fun i v' x' hv' hx'=>?_⟩) ho.le ho.fresh
 ·have e : (xs ++ [x]).flatMap c = xs.flatMap c ++ c x := by simp
  rw [e]; exact ho.own
 ·by_cases hi:i < l.length
  ·rw [List.getElem?_append_left hi] at hv'
   rw [List.getElem?_append_left (by omega)] at hx'
   exact hZ i _ _ (g3 i v' x' hv' hx')
  ·have hl1:=(List.getElem?_eq_some_iff.1 hv').1
   simp only [List.length_append,List.length_cons,List.length_nil] at hl1
   have:i=l.length:=by omega
   subst this
   rw [List.getElem?_append_right (Nat.le_refl _)] at hv'
   rw [List.getElem?_append_right (by omega)] at hx'
   simp at hv'
   rw [show l.length - xs.length=0 by omega] at hx'
   simp at hx'
   subst hv'; subst hx'
   exact hv
end
def TpO (B Z:Heap) (v:TdP) (x:Qc):Prop:=TpIs Z v x∧OwS B Z 1 x.Params∧OwS B Z 2 x.Cons
def RpO (B Z:Heap) (v:RdP) (x:Qh):Prop:=RpIs Z v x∧OwS B Z 3 x.Fields
def UpO (B Z:Heap) (v:RuP) (x:Qj):Prop:=UpIs Z v x∧OwS B Z 9 x.Args∧OwS B Z 1 x.Aggs∧OwS B Z 5 x.Body
theorem TpO.le {B X Y:Heap} {v x} (h:X.le Y) (h':TpO B X v x):TpO B Y v x:=⟨TpIs.le h h'.1,h'.2.1.le h,h'.2.2.le h⟩
theorem RpO.le {B X Y:Heap} {v x} (h:X.le Y) (h':RpO B X v x):RpO B Y v x:=⟨RpIs.le h h'.1,h'.2.le h⟩
theorem UpO.le {B X Y:Heap} {v x} (h:X.le Y) (h':UpO B X v x):UpO B Y v x:=⟨UpIs.le h h'.1,h'.2.1.le h,h'.2.2.1.le h,h'.2.2.2.le h⟩
abbrev blks (q:Qa):List Nat:=bk q.Types++(bk q.Rels++(bk q.Rules++bk q.Nevers))
/-- a program that grows, at bo; W stays -/
structure Out (A B W D:Heap) (bo:Nat) (q:Qa) (o:MoP):Prop where
 dom:∀ b,D b=none→B b=none
 ab:A.le B
 aw:A.le W
 wle:W.le D
 at_:D bo=some (true,.row (Qa.c q))
 bB:∃ e,B bo=some e
 wo:W bo=none
 nd:(blks q).Nodup
 fr:∀ b ∈ blks q,B b=none∧W b=none
 nm:q.Name=o.n∧q.Imports=Sl.nil∧o.im=[]
 gt:Gq (TpO B) Qc.c 6 (offB (blks q) (Heap.nw A B D)) D q.Types o.ty
 gr:Gq (RpO B) Qh.c 6 (offB (blks q) (Heap.nw A B D)) D q.Rels o.re
 gu:Gq (UpO B) Qj.c 6 (offB (blks q) (Heap.nw A B D)) D q.Rules o.ru
 gn:Gq NpIs Qm.c 4 (offB (blks q) (Heap.nw A B D)) D q.Nevers o.ne
section
variable {A B W W2 D D2:Heap} {bo:Nat} {q:Qa} {o:MoP}
theorem Out.has (h:Out A B W D bo q o):∀ b ∈ blks q,∃ e,D b=some e:=fun b hb=>by
 rcases List.mem_append.1 hb with hb | hb
 ·exact h.gt.has b hb
 rcases List.mem_append.1 hb with hb | hb
 ·exact h.gr.has b hb
 rcases List.mem_append.1 hb with hb | hb
 ·exact h.gu.has b hb
 ·exact h.gn.has b hb
theorem Out.al (h:Out A B W D bo q o):A.le D:=h.aw.trans h.wle
theorem Out.bx (h:Out A B W D bo q o):bo ∉ blks q:=fun hm=>by
 obtain ⟨e,he⟩:=h.bB
 rw [(h.fr _ hm).1] at he; cases he
theorem Out.xA (h:Out A B W D bo q o):∀ b ∈ blks q,A b=none:=fun b hb=>h.ab.none (h.fr b hb).1
/-- more memory -/
theorem Out.up (h:Out A B W D bo q o) (hle:D.le D2):Out A B W D2 bo q o:=
 ⟨fun b hb => h.dom b (hle.none hb), h.ab, h.aw, h.wle.trans hle, hle _ _ h.at_, h.bB, h.wo, h.nd, h.fr, h.nm,
  h.gt.mono (fun b _ e hb=>hle b e hb) (QfY hle) TpO.le,h.gr.mono (fun b _ e hb=>hle b e hb) (QfY hle) RpO.le,h.gu.mono (fun b _ e hb=>hle b e hb) (QfY hle) UpO.le,h.gn.mono (fun b _ e hb=>hle b e hb) (QfY hle) (fun h h'=>NpIs.le h h')⟩
/-- more that stays -/
theorem Out.keep (h:Out A B W D bo q o) {W2:Heap} (h1:A.le W2) (h2:W2.le D) (h3:W2 bo=none) (h4:∀ b ∈ blks q,W2 b=none):Out A B W2 D bo q o:=
 ⟨h.dom,h.ab,h1,h2,h.at_,h.bB,h3,h.nd,fun b hb=>⟨(h.fr b hb).1,h4 b hb⟩,h.nm,h.gt,h.gr,h.gu,h.gn⟩
/-- one of the lists turned: s has become r -/
structure Turn (q q2:Qa) (s r:Sl) (D D2:Heap):Prop where
 le:(Heap.off s D).le D2
 fr:Fresh (Heap.off s D) r
 sub:∀ b ∈ bk s,b ∈ blks q
 old:∀ b ∈ blks q2,b ∈ bk r∨b ∈ blks q∧b ∉ bk s
 new:∀ b ∈ bk r,b ∈ blks q2
theorem Turn.reg {s r:Sl} {q2:Qa} (h:Out A B W D bo q o) (ht:Turn q q2 s r D D2):(offB (blks q) (Heap.nw A B D)).le (offB (blks q2) (Heap.nw A B D2)):=fun b e hb=>by
 have hx:=Qo6 hb
 have hb2:=Qo5 _ _ _ _ hb
 have hD:D b=some e:=QpD h.al b e hb2
 have hs:b ∉ bk s:=fun hm=>hx (ht.sub b hm)
 have hoff:(Heap.off s D) b=some e:=Heap.off_some hD fun p hp e'=>hs (Qgo.2 ⟨p,hp,e'⟩)
 refine Qlh ?_ fun hm=>?_
 ·rcases QjY hb2 with ⟨q1,_⟩ | q1
  ·exact Qng q1 (ht.le b e hoff)
  ·exact Qsd h.ab b e q1
 ·rcases ht.old b hm with hr | ⟨hq,_⟩
  ·obtain ⟨p,hp,rfl⟩:=Qgo.1 hr
   have:=ht.fr p hp
   rw [hoff] at this; cases this
  ·exact hx hq
theorem Turn.keeps {s r:Sl} {q2:Qa} (ht:Turn q q2 s r D D2) {b:Nat} {e:Bool×GO} (hb:b ∉ bk s) (h:D b=some e):D2 b=some e:=
 ht.le b e (Heap.off_some h fun p hp e'=>hb (Qgo.2 ⟨p,hp,e'⟩))
theorem Turn.fresh {s r:Sl} {q2:Qa} (h:Out A B W D bo q o) (ht:Turn q q2 s r D D2):∀ b ∈ blks q2,B b=none∧W b=none:=fun b hb=>by
 rcases ht.old b hb with hr | ⟨hq,_⟩
 ·obtain ⟨p,hp,rfl⟩:=Qgo.1 hr
  have h0:=ht.fr p hp
  by_cases hs:p.1 ∈ bk s
  ·exact h.fr _ (ht.sub _ hs)
  ·cases hd:D p.1 with
   | none=>exact ⟨h.dom _ hd,h.wle.none hd⟩
   | some e=>
    rw [Heap.off_some hd fun p' hp' e'=>hs (Qgo.2 ⟨p',hp',e'⟩)] at h0; cases h0
 ·exact h.fr b hq
theorem Turn.dom {s r:Sl} {q2:Qa} (h:Out A B W D bo q o) (ht:Turn q q2 s r D D2):∀ b,D2 b=none→B b=none:=fun b hb=>by
 by_cases hs:b ∈ bk s
 ·exact (h.fr b (ht.sub b hs)).1
 ·cases hd:D b with
  | none=>exact h.dom b hd
  | some e=>rw [ht.keeps hs hd] at hb; cases hb
theorem Turn.w {s r:Sl} {q2:Qa} (h:Out A B W D bo q o) (ht:Turn q q2 s r D D2):W.le D2:=fun b e hb=>ht.keeps (fun hs=>by rw [(h.fr b (ht.sub b hs)).2] at hb; cases hb) (h.wle b e hb)
/-- the blocks are apart still -/
theorem Qo4 {a b c d r s:List Nat} {D:Heap} (hr:r.length≤1) (h:(a++(b++(c++d))).Nodup) (hf:∀ x ∈ r,x ∈ s∨(x ∉ a∧x ∉ b∧x ∉ c∧x ∉ d)):(s=a→(r++(b++(c++d))).Nodup)∧(s=b→(a++(r++(c++d))).Nodup)∧(s=c→(a++(b++(r++d))).Nodup)∧(s=d→(a++(b++(c++r))).Nodup):=by
 have hrn:r.Nodup:=by
  match r,hr with
  | [],_=>exact List.nodup_nil
  | [x],_=>simp
 simp only [List.nodup_append,List.mem_append] at h ⊢
 obtain ⟨ha,⟨hb,⟨hc,hd,h1⟩,h2⟩,h3⟩:=h
 refine ⟨fun e=>?_,fun e=>?_,fun e=>?_,fun e=>?_⟩ <;> subst e
 ·refine ⟨hrn, ⟨hb, ⟨hc, hd, h1⟩, h2⟩, fun x hx y hy => ?_⟩
  rcases hf x hx with hs | hs
  ·exact h3 x hs y hy
  ·intro e; subst e; rcases hy with hy | hy | hy
   ·exact hs.2.1 hy
   ·exact hs.2.2.1 hy
   ·exact hs.2.2.2 hy
 ·refine ⟨ha, ⟨hrn, ⟨hc, hd, h1⟩, fun x hx y hy => ?_⟩, fun x hx y hy => ?_⟩
  ·rcases hf x hx with hs | hs
   ·exact h2 x hs y hy
   ·intro e; subst e; rcases hy with hy | hy
    ·exact hs.2.2.1 hy
    ·exact hs.2.2.2 hy
  ·rcases hy with hy | hy
   ·rcases hf y hy with hs | hs
    ·exact h3 x hx y (.inl hs)
    ·intro e; subst e; exact hs.1 hx
   ·exact h3 x hx y (.inr hy)
 ·refine ⟨ha, ⟨hb, ⟨hrn, hd, fun x hx y hy => ?_⟩, fun x hx y hy => ?_⟩, fun x hx y hy => ?_⟩
  ·rcases hf x hx with hs | hs
   ·exact h1 x hs y hy
   ·intro e; subst e; exact hs.2.2.2 hy
  ·rcases hy with hy | hy
   ·rcases hf y hy with hs | hs
    ·exact h2 x hx y (.inl hs)
    ·intro e; subst e; exact hs.2.1 hx
   ·exact h2 x hx y (.inr hy)
  ·rcases hy with hy | hy | hy
   ·exact h3 x hx y (.inl hy)
   ·rcases hf y hy with hs | hs
    ·exact h3 x hx y (.inr (.inl hs))
    ·intro e; subst e; exact hs.1 hx
   ·exact h3 x hx y (.inr (.inr hy))
 ·refine ⟨ha, ⟨hb, ⟨hc, hrn, fun x hx y hy => ?_⟩, fun x hx y hy => ?_⟩, fun x hx y hy => ?_⟩
  ·rcases hf y hy with hs | hs
   ·exact h1 x hx y hs
   ·intro e; subst e; exact hs.2.2.1 hx
  ·rcases hy with hy | hy
   ·exact h2 x hx y (.inl hy)
   ·rcases hf y hy with hs | hs
    ·exact h2 x hx y (.inr hs)
    ·intro e; subst e; exact hs.2.1 hx
  ·rcases hy with hy | hy | hy
   ·exact h3 x hx y (.inl hy)
   ·exact h3 x hx y (.inr (.inl hy))
   ·rcases hf y hy with hs | hs
    ·exact h3 x hx y (.inr (.inr hs))
    ·intro e; subst e; exact hs.1 hx
end
end
section
open Go Go.Proofs
theorem Qjs {A B D:Heap} {bo:Nat} {g:GO} (h:∃ e,B bo=some e):Heap.nw A B (D.put bo g)=Heap.nw A B D:=by
 funext x
 unfold Heap.nw
 cases hh:B x with
 | none=>
  obtain ⟨e,he⟩:=h
  have:x≠bo:=fun e2=>by rw [e2,he] at hh; cases hh
  exact Heap.put_ne _ _ _ this
 | some _=>rfl
theorem Qqw (s:Sl):(bk s).length≤1:=by unfold bk; cases s.p <;> simp
section
variable {A B W D D2:Heap} {bo:Nat} {q:Qa} {o:MoP}
theorem Out.ndf {s r:Sl} (h:Out A B W D bo q o) (hf:Fresh (Heap.off s D) r) (hs:bk s=bk q.Types∨bk s=bk q.Rels∨bk s=bk q.Rules∨bk s=bk q.Nevers) :
 ∀ x ∈ bk r,x ∈ bk s∨(x ∉ bk q.Types∧x ∉ bk q.Rels∧x ∉ bk q.Rules∧x ∉ bk q.Nevers):=fun x hx=>by
 by_cases hxs:x ∈ bk s
 ·exact .inl hxs
 ·refine .inr ?_
  obtain ⟨p,hp,rfl⟩:=Qgo.1 hx
  have h0:=hf p hp
  have hn:D p.1=none:=by
   cases hd:D p.1 with
   | none=>rfl
   | some e=>rw [Heap.off_some hd fun p' hp' e'=>hxs (Qgo.2 ⟨p',hp',e'⟩)] at h0; cases h0
  refine ⟨fun hm=>?_,fun hm=>?_,fun hm=>?_,fun hm=>?_⟩
  ·obtain ⟨e,he⟩:=h.gt.has _ hm; rw [hn] at he; cases he
  ·obtain ⟨e,he⟩:=h.gr.has _ hm; rw [hn] at he; cases he
  ·obtain ⟨e,he⟩:=h.gu.has _ hm; rw [hn] at he; cases he
  ·obtain ⟨e,he⟩:=h.gn.has _ hm; rw [hn] at he; cases he
theorem Out.turnT (h:Out A B W D bo q o) {r:Sl} (hle:(Heap.off q.Types D).le D2) (hf:Fresh (Heap.off q.Types D) r):Turn q { q with Types:=r } q.Types r D D2:=by
 have hnd:=h.nd
 refine ⟨hle,hf,fun b hb=>List.mem_append_left _ hb,fun b hb=>?_,fun b hb=>List.mem_append_left _ hb⟩
 simp only [List.nodup_append,List.mem_append] at hnd
 obtain ⟨_,⟨_,⟨_,_,n1⟩,n2⟩,n3⟩:=hnd
 simp only [blks,List.mem_append] at hb ⊢
 rcases hb with hb | hb | hb | hb
 ·exact .inl hb
 ·exact .inr ⟨.inr (.inl hb),fun hm=>n3 b hm b (.inl hb) rfl⟩
 ·exact .inr ⟨.inr (.inr (.inl hb)),fun hm=>n3 b hm b (.inr (.inl hb)) rfl⟩
 ·exact .inr ⟨.inr (.inr (.inr hb)),fun hm=>n3 b hm b (.inr (.inr hb)) rfl⟩
theorem QqW {D Hs : Heap} {s : Sl} {zc cs : List Value} {bytes : Nat} {K : Sl → Heap → Prop} (hs : Hs.le (Heap.off s D)) (h1 : ∀ u ∈ cs, u.oneCell' = true) (k : ∀ D1, D.le D1 → (Heap.off s D).le (Heap.off s D1) → apd zc bytes s cs 1 (fun r H97 => Heap.le Hs H97 ∧ K r H97) D1) :
 nw (cs++[]) (fun b H94=>Heap.le Hs H94∧apS zc bytes s (Sl.of (some (b,0)) 1 1) (fun r H97=>Heap.le Hs H97∧K r H97) H94) D:=by
 intro b n
 rw [List.append_nil]
 have l1:=Heap.le_put n (g:=.row cs) (m:=true)
 exact ⟨(hs.trans (Heap.off_le _ _)).trans l1,_,.inr ⟨rfl,(b,0),rfl,Qg6 (Heap.put_same ..) fun j u hj=>by rw [Nat.zero_add]; exact hj⟩,h1,k _ l1 (Qli l1)⟩
/-- one more of Types -/
theorem Out.addTd (h:Out A B W D bo q o) {v:TdP} {x:Qc} {K:Sl→Heap→Prop} (hv:TpO B (offB (blks q) (Heap.nw A B D)) v x) (hb:o.ty.length≤1000000)
 (k:∀ r D2,(Heap.off q.Types D).le D2→(∀ {K:Heap→Prop},(∀ D3,Out A B W D3 bo { q with Types:=r } { o with ty:=o.ty++[v] }→K D3)→st (bo,2) (slv r) K D2)→K r D2):apd (Qc.c Qc.zero) 88 q.Types (Qc.c x) 1 K D:=by
 refine h.gt.add (v:=v) (fun _=>rfl) (by omega) rfl (by omega) (by omega) fun r D2 hadd hle hf=>?_
 have ht:=h.turnT hle hf
 refine k r D2 hle fun {K} k=>⟨_,ht.keeps (fun hm=>h.bx (ht.sub _ hm)) h.at_,by simp [Qa.c],k _ ?_⟩
 have hreg:=Turn.reg h ht
 have hfr:=Turn.fresh h ht
 have hbo:bo ∉ blks { q with Types:=r }:=fun hm=>by
  obtain ⟨e,he⟩:=h.bB
  rw [(hfr _ hm).1] at he; cases he
 have hput:∀ {b:Nat} {e:Bool×GO} {g:GO},b ∈ blks { q with Types:=r }→D2 b=some e→(D2.put bo g) b=some e:=fun {b e g} hm hb=>by
  have hne:b≠bo:=fun e'=>hbo (by rw [← e']; exact hm)
  rw [Heap.put_ne _ _ _ hne]; exact hb
 refine ⟨Heap.dom_put (Turn.dom h ht),h.ab,h.aw,Qbg (Turn.w h ht) h.wo,Heap.put_same ..,h.bB,h.wo,(Qo4 (D:=D) (Qqw r) h.nd (h.ndf hf (.inl rfl))).1 rfl,hfr,h.nm,?_,?_,?_,?_⟩
 ·show Gq _ _ _ (offB _ (Heap.nw A B (D2.put bo _))) _ _ _
  rw [Qjs h.bB]
  exact (hadd _ (fun i v x=>TpO.le hreg) (TpO.le hreg hv)).mono (fun b hb e he=>hput (List.mem_append_left _ hb) he) (Heap.le.refl _) TpO.le
 ·show Gq _ _ _ (offB _ (Heap.nw A B (D2.put bo _))) _ _ _
  rw [Qjs h.bB]
  refine h.gr.mono (fun b hb e he=>hput (List.mem_append_right _ (List.mem_append_left _ hb)) (ht.keeps (fun hm=>?_) he)) hreg RpO.le
  have hnd:=h.nd
  simp only [List.nodup_append,List.mem_append] at hnd
  obtain ⟨_,⟨_,⟨_,_,n1⟩,n2⟩,n3⟩:=hnd
  exact n3 b hm b (.inl hb) rfl
 ·show Gq _ _ _ (offB _ (Heap.nw A B (D2.put bo _))) _ _ _
  rw [Qjs h.bB]
  refine h.gu.mono (fun b hb e he=>hput (List.mem_append_right _ (List.mem_append_right _ (List.mem_append_left _ hb))) (ht.keeps (fun hm=>?_) he)) hreg UpO.le
  have hnd:=h.nd
  simp only [List.nodup_append,List.mem_append] at hnd
  obtain ⟨_,⟨_,⟨_,_,n1⟩,n2⟩,n3⟩:=hnd
  exact n3 b hm b (.inr (.inl hb)) rfl
 ·show Gq _ _ _ (offB _ (Heap.nw A B (D2.put bo _))) _ _ _
  rw [Qjs h.bB]
  refine h.gn.mono (fun b hb e he=>hput (List.mem_append_right _ (List.mem_append_right _ (List.mem_append_right _ hb))) (ht.keeps (fun hm=>?_) he)) hreg (fun h h'=>NpIs.le h h')
  have hnd:=h.nd
  simp only [List.nodup_append,List.mem_append] at hnd
  obtain ⟨_,⟨_,⟨_,_,n1⟩,n2⟩,n3⟩:=hnd
  exact n3 b hm b (.inr (.inr hb)) rfl
theorem Out.addT (h:Out A B W D bo q o) {v:TdP} {x:Qc} {Hs:Heap} {K:Heap→Prop} (hs:Hs.le (Heap.off q.Types D)) (h1:∀ u ∈ Qc.c x,u.oneCell' = true) (hv:TpO B (offB (blks q) (Heap.nw A B D)) v x) (hb:o.ty.length≤1000000)
 (k:∀ r D3,Out A B W D3 bo { q with Types:=r } { o with ty:=o.ty++[v] }→K D3) :
 nw (Qc.c x++[]) (fun b H94=>Heap.le Hs H94∧apS (Qc.c Qc.zero) 88 q.Types (Sl.of (some (b,0)) 1 1) (fun r H97=>Heap.le Hs H97∧nck (some (bo,0)) fun p98=>st (p98.1,p98.2+2) (slv r) (fun H100=>K H100) H97) H94) D:=
 QqW hs h1 fun D1 l1 hoff=>(h.up l1).addTd (TpO.le (QfY l1) hv) hb fun r D2 hle hst=>⟨(hs.trans hoff).trans hle,_,rfl,hst fun D3 hO=>k r D3 hO⟩
theorem Out.turnR (h:Out A B W D bo q o) {r:Sl} (hle:(Heap.off q.Rels D).le D2) (hf:Fresh (Heap.off q.Rels D) r):Turn q { q with Rels:=r } q.Rels r D D2:=by
 have hnd:=h.nd
 refine ⟨hle,hf,fun b hb=>List.mem_append_right _ (List.mem_append_left _ hb),fun b hb=>?_,fun b hb=>List.mem_append_right _ (List.mem_append_left _ hb)⟩
 simp only [List.nodup_append,List.mem_append] at hnd
 obtain ⟨_,⟨_,⟨_,_,n1⟩,n2⟩,n3⟩:=hnd
 simp only [blks,List.mem_append] at hb ⊢
 rcases hb with hb | hb | hb | hb
 ·exact .inr ⟨.inl hb,fun hm=>n3 b hb b (.inl hm) rfl⟩
 ·exact .inl hb
 ·exact .inr ⟨.inr (.inr (.inl hb)),fun hm=>n2 b hm b (.inl hb) rfl⟩
 ·exact .inr ⟨.inr (.inr (.inr hb)),fun hm=>n2 b hm b (.inr hb) rfl⟩
/-- one more of Rels -/
theorem Out.addRd (h:Out A B W D bo q o) {v:RdP} {x:Qh} {K:Sl→Heap→Prop} (hv:RpO B (offB (blks q) (Heap.nw A B D)) v x) (hb:o.re.length≤1000000)
 (k:∀ r D2,(Heap.off q.Rels D).le D2→(∀ {K:Heap→Prop},(∀ D3,Out A B W D3 bo { q with Rels:=r } { o with re:=o.re++[v] }→K D3)→st (bo,3) (slv r) K D2)→K r D2):apd (Qh.c Qh.zero) 64 q.Rels (Qh.c x) 1 K D:=by
 refine h.gr.add (v:=v) (fun _=>rfl) (by omega) rfl (by omega) (by omega) fun r D2 hadd hle hf=>?_
 have ht:=h.turnR hle hf
 refine k r D2 hle fun {K} k=>⟨_,ht.keeps (fun hm=>h.bx (ht.sub _ hm)) h.at_,by simp [Qa.c],k _ ?_⟩
 have hreg:=Turn.reg h ht
 have hfr:=Turn.fresh h ht
 have hbo:bo ∉ blks { q with Rels:=r }:=fun hm=>by
  obtain ⟨e,he⟩:=h.bB
  rw [(hfr _ hm).1] at he; cases he
 have hput:∀ {b:Nat} {e:Bool×GO} {g:GO},b ∈ blks { q with Rels:=r }→D2 b=some e→(D2.put bo g) b=some e:=fun {b e g} hm hb=>by
  have hne:b≠bo:=fun e'=>hbo (by rw [← e']; exact hm)
  rw [Heap.put_ne _ _ _ hne]; exact hb
 refine ⟨Heap.dom_put (Turn.dom h ht),h.ab,h.aw,Qbg (Turn.w h ht) h.wo,Heap.put_same ..,h.bB,h.wo,(Qo4 (D:=D) (Qqw r) h.nd (h.ndf hf (.inr (.inl rfl)))).2.1 rfl,hfr,h.nm,?_,?_,?_,?_⟩
 ·show Gq _ _ _ (offB _ (Heap.nw A B (D2.put bo _))) _ _ _
  rw [Qjs h.bB]
  refine h.gt.mono (fun b hb e he=>hput (List.mem_append_left _ hb) (ht.keeps (fun hm=>?_) he)) hreg TpO.le
  have hnd:=h.nd
  simp only [List.nodup_append,List.mem_append] at hnd
  obtain ⟨_,⟨_,⟨_,_,n1⟩,n2⟩,n3⟩:=hnd
  exact n3 b hb b (.inl hm) rfl
 ·show Gq _ _ _ (offB _ (Heap.nw A B (D2.put bo _))) _ _ _
  rw [Qjs h.bB]
  exact (hadd _ (fun i v x=>RpO.le hreg) (RpO.le hreg hv)).mono (fun b hb e he=>hput (List.mem_append_right _ (List.mem_append_left _ hb)) he) (Heap.le.refl _) RpO.le
 ·show Gq _ _ _ (offB _ (Heap.nw A B (D2.put bo _))) _ _ _
  rw [Qjs h.bB]
  refine h.gu.mono (fun b hb e he=>hput (List.mem_append_right _ (List.mem_append_right _ (List.mem_append_left _ hb))) (ht.keeps (fun hm=>?_) he)) hreg UpO.le
  have hnd:=h.nd
  simp only [List.nodup_append,List.mem_append] at hnd
  obtain ⟨_,⟨_,⟨_,_,n1⟩,n2⟩,n3⟩:=hnd
  exact n2 b hm b (.inl hb) rfl
 ·show Gq _ _ _ (offB _ (Heap.nw A B (D2.put bo _))) _ _ _
  rw [Qjs h.bB]
  refine h.gn.mono (fun b hb e he=>hput (List.mem_append_right _ (List.mem_append_right _ (List.mem_append_right _ hb))) (ht.keeps (fun hm=>?_) he)) hreg (fun h h'=>NpIs.le h h')
  have hnd:=h.nd
  simp only [List.nodup_append,List.mem_append] at hnd
  obtain ⟨_,⟨_,⟨_,_,n1⟩,n2⟩,n3⟩:=hnd
  exact n2 b hm b (.inr hb) rfl
theorem Out.addR (h:Out A B W D bo q o) {v:RdP} {x:Qh} {Hs:Heap} {K:Heap→Prop} (hs:Hs.le (Heap.off q.Rels D)) (h1:∀ u ∈ Qh.c x,u.oneCell' = true) (hv:RpO B (offB (blks q) (Heap.nw A B D)) v x) (hb:o.re.length≤1000000)
 (k:∀ r D3,Out A B W D3 bo { q with Rels:=r } { o with re:=o.re++[v] }→K D3) :
 nw (Qh.c x++[]) (fun b H94=>Heap.le Hs H94∧apS (Qh.c Qh.zero) 64 q.Rels (Sl.of (some (b,0)) 1 1) (fun r H97=>Heap.le Hs H97∧nck (some (bo,0)) fun p98=>st (p98.1,p98.2+3) (slv r) (fun H100=>K H100) H97) H94) D:=
 QqW hs h1 fun D1 l1 hoff=>(h.up l1).addRd (RpO.le (QfY l1) hv) hb fun r D2 hle hst=>⟨(hs.trans hoff).trans hle,_,rfl,hst fun D3 hO=>k r D3 hO⟩
theorem Out.turnU (h:Out A B W D bo q o) {r:Sl} (hle:(Heap.off q.Rules D).le D2) (hf:Fresh (Heap.off q.Rules D) r):Turn q { q with Rules:=r } q.Rules r D D2:=by
 have hnd:=h.nd
 refine ⟨hle,hf,fun b hb=>List.mem_append_right _ (List.mem_append_right _ (List.mem_append_left _ hb)),fun b hb=>?_,fun b hb=>List.mem_append_right _ (List.mem_append_right _ (List.mem_append_left _ hb))⟩
 simp only [List.nodup_append,List.mem_append] at hnd
 obtain ⟨_,⟨_,⟨_,_,n1⟩,n2⟩,n3⟩:=hnd
 simp only [blks,List.mem_append] at hb ⊢
 rcases hb with hb | hb | hb | hb
 ·exact .inr ⟨.inl hb,fun hm=>n3 b hb b (.inr (.inl hm)) rfl⟩
 ·exact .inr ⟨.inr (.inl hb),fun hm=>n2 b hb b (.inl hm) rfl⟩
 ·exact .inl hb
 ·exact .inr ⟨.inr (.inr (.inr hb)),fun hm=>n1 b hm b hb rfl⟩
/-- one more of Rules -/
theorem Out.addUd (h:Out A B W D bo q o) {v:RuP} {x:Qj} {K:Sl→Heap→Prop} (hv:UpO B (offB (blks q) (Heap.nw A B D)) v x) (hb:o.ru.length≤1000000)
 (k:∀ r D2,(Heap.off q.Rules D).le D2→(∀ {K:Heap→Prop},(∀ D3,Out A B W D3 bo { q with Rules:=r } { o with ru:=o.ru++[v] }→K D3)→st (bo,4) (slv r) K D2)→K r D2):apd (Qj.c Qj.zero) 104 q.Rules (Qj.c x) 1 K D:=by
 refine h.gu.add (v:=v) (fun _=>rfl) (by omega) rfl (by omega) (by omega) fun r D2 hadd hle hf=>?_
 have ht:=h.turnU hle hf
 refine k r D2 hle fun {K} k=>⟨_,ht.keeps (fun hm=>h.bx (ht.sub _ hm)) h.at_,by simp [Qa.c],k _ ?_⟩
 have hreg:=Turn.reg h ht
 have hfr:=Turn.fresh h ht
 have hbo:bo ∉ blks { q with Rules:=r }:=fun hm=>by
  obtain ⟨e,he⟩:=h.bB
  rw [(hfr _ hm).1] at he; cases he
 have hput:∀ {b:Nat} {e:Bool×GO} {g:GO},b ∈ blks { q with Rules:=r }→D2 b=some e→(D2.put bo g) b=some e:=fun {b e g} hm hb=>by
  have hne:b≠bo:=fun e'=>hbo (by rw [← e']; exact hm)
  rw [Heap.put_ne _ _ _ hne]; exact hb
 refine ⟨Heap.dom_put (Turn.dom h ht),h.ab,h.aw,Qbg (Turn.w h ht) h.wo,Heap.put_same ..,h.bB,h.wo,(Qo4 (D:=D) (Qqw r) h.nd (h.ndf hf (.inr (.inr (.inl rfl))))).2.2.1 rfl,hfr,h.nm,?_,?_,?_,?_⟩
 ·show Gq _ _ _ (offB _ (Heap.nw A B (D2.put bo _))) _ _ _
  rw [Qjs h.bB]
  refine h.gt.mono (fun b hb e he=>hput (List.mem_append_left _ hb) (ht.keeps (fun hm=>?_) he)) hreg TpO.le
  have hnd:=h.nd
  simp only [List.nodup_append,List.mem_append] at hnd
  obtain ⟨_,⟨_,⟨_,_,n1⟩,n2⟩,n3⟩:=hnd
  exact n3 b hb b (.inr (.inl hm)) rfl
 ·show Gq _ _ _ (offB _ (Heap.nw A B (D2.put bo _))) _ _ _
  rw [Qjs h.bB]
  refine h.gr.mono (fun b hb e he=>hput (List.mem_append_right _ (List.mem_append_left _ hb)) (ht.keeps (fun hm=>?_) he)) hreg RpO.le
  have hnd:=h.nd
  simp only [List.nodup_append,List.mem_append] at hnd
  obtain ⟨_,⟨_,⟨_,_,n1⟩,n2⟩,n3⟩:=hnd
  exact n2 b hb b (.inl hm) rfl
 ·show Gq _ _ _ (offB _ (Heap.nw A B (D2.put bo _))) _ _ _
  rw [Qjs h.bB]
  exact (hadd _ (fun i v x=>UpO.le hreg) (UpO.le hreg hv)).mono (fun b hb e he=>hput (List.mem_append_right _ (List.mem_append_right _ (List.mem_append_left _ hb))) he) (Heap.le.refl _) UpO.le
 ·show Gq _ _ _ (offB _ (Heap.nw A B (D2.put bo _))) _ _ _
  rw [Qjs h.bB]
  refine h.gn.mono (fun b hb e he=>hput (List.mem_append_right _ (List.mem_append_right _ (List.mem_append_right _ hb))) (ht.keeps (fun hm=>?_) he)) hreg (fun h h'=>NpIs.le h h')
  have hnd:=h.nd
  simp only [List.nodup_append,List.mem_append] at hnd
  obtain ⟨_,⟨_,⟨_,_,n1⟩,n2⟩,n3⟩:=hnd
  exact n1 b hm b hb rfl
theorem Out.addU (h:Out A B W D bo q o) {v:RuP} {x:Qj} {Hs:Heap} {K:Heap→Prop} (hs:Hs.le (Heap.off q.Rules D)) (h1:∀ u ∈ Qj.c x,u.oneCell' = true) (hv:UpO B (offB (blks q) (Heap.nw A B D)) v x) (hb:o.ru.length≤1000000)
 (k:∀ r D3,Out A B W D3 bo { q with Rules:=r } { o with ru:=o.ru++[v] }→K D3) :
 nw (Qj.c x++[]) (fun b H94=>Heap.le Hs H94∧apS (Qj.c Qj.zero) 104 q.Rules (Sl.of (some (b,0)) 1 1) (fun r H97=>Heap.le Hs H97∧nck (some (bo,0)) fun p98=>st (p98.1,p98.2+4) (slv r) (fun H100=>K H100) H97) H94) D:=
 QqW hs h1 fun D1 l1 hoff=>(h.up l1).addUd (UpO.le (QfY l1) hv) hb fun r D2 hle hst=>⟨(hs.trans hoff).trans hle,_,rfl,hst fun D3 hO=>k r D3 hO⟩
theorem Out.turnN (h:Out A B W D bo q o) {r:Sl} (hle:(Heap.off q.Nevers D).le D2) (hf:Fresh (Heap.off q.Nevers D) r):Turn q { q with Nevers:=r } q.Nevers r D D2:=by
 have hnd:=h.nd
 refine ⟨hle,hf,fun b hb=>List.mem_append_right _ (List.mem_append_right _ (List.mem_append_right _ hb)),fun b hb=>?_,fun b hb=>List.mem_append_right _ (List.mem_append_right _ (List.mem_append_right _ hb))⟩
 simp only [List.nodup_append,List.mem_append] at hnd
 obtain ⟨_,⟨_,⟨_,_,n1⟩,n2⟩,n3⟩:=hnd
 simp only [blks,List.mem_append] at hb ⊢
 rcases hb with hb | hb | hb | hb
 ·exact .inr ⟨.inl hb,fun hm=>n3 b hb b (.inr (.inr hm)) rfl⟩
 ·exact .inr ⟨.inr (.inl hb),fun hm=>n2 b hb b (.inr hm) rfl⟩
 ·exact .inr ⟨.inr (.inr (.inl hb)),fun hm=>n1 b hb b hm rfl⟩
 ·exact .inl hb
/-- one more of Nevers -/
theorem Out.addNd (h:Out A B W D bo q o) {v:NeP} {x:Qm} {K:Sl→Heap→Prop} (hv:NpIs (offB (blks q) (Heap.nw A B D)) v x) (hb:o.ne.length≤1000000)
 (k:∀ r D2,(Heap.off q.Nevers D).le D2→(∀ {K:Heap→Prop},(∀ D3,Out A B W D3 bo { q with Nevers:=r } { o with ne:=o.ne++[v] }→K D3)→st (bo,5) (slv r) K D2)→K r D2):apd (Qm.c Qm.zero) 56 q.Nevers (Qm.c x) 1 K D:=by
 refine h.gn.add (v:=v) (fun _=>rfl) (by omega) rfl (by omega) (by omega) fun r D2 hadd hle hf=>?_
 have ht:=h.turnN hle hf
 refine k r D2 hle fun {K} k=>⟨_,ht.keeps (fun hm=>h.bx (ht.sub _ hm)) h.at_,by simp [Qa.c],k _ ?_⟩
 have hreg:=Turn.reg h ht
 have hfr:=Turn.fresh h ht
 have hbo:bo ∉ blks { q with Nevers:=r }:=fun hm=>by
  obtain ⟨e,he⟩:=h.bB
  rw [(hfr _ hm).1] at he; cases he
 have hput:∀ {b:Nat} {e:Bool×GO} {g:GO},b ∈ blks { q with Nevers:=r }→D2 b=some e→(D2.put bo g) b=some e:=fun {b e g} hm hb=>by
  have hne:b≠bo:=fun e'=>hbo (by rw [← e']; exact hm)
  rw [Heap.put_ne _ _ _ hne]; exact hb
 refine ⟨Heap.dom_put (Turn.dom h ht),h.ab,h.aw,Qbg (Turn.w h ht) h.wo,Heap.put_same ..,h.bB,h.wo,(Qo4 (D:=D) (Qqw r) h.nd (h.ndf hf (.inr (.inr (.inr rfl))))).2.2.2 rfl,hfr,h.nm,?_,?_,?_,?_⟩
 ·show Gq _ _ _ (offB _ (Heap.nw A B (D2.put bo _))) _ _ _
  rw [Qjs h.bB]
  refine h.gt.mono (fun b hb e he=>hput (List.mem_append_left _ hb) (ht.keeps (fun hm=>?_) he)) hreg TpO.le
  have hnd:=h.nd
  simp only [List.nodup_append,List.mem_append] at hnd
  obtain ⟨_,⟨_,⟨_,_,n1⟩,n2⟩,n3⟩:=hnd
  exact n3 b hb b (.inr (.inr hm)) rfl
 ·show Gq _ _ _ (offB _ (Heap.nw A B (D2.put bo _))) _ _ _
  rw [Qjs h.bB]
  refine h.gr.mono (fun b hb e he=>hput (List.mem_append_right _ (List.mem_append_left _ hb)) (ht.keeps (fun hm=>?_) he)) hreg RpO.le
  have hnd:=h.nd
  simp only [List.nodup_append,List.mem_append] at hnd
  obtain ⟨_,⟨_,⟨_,_,n1⟩,n2⟩,n3⟩:=hnd
  exact n2 b hb b (.inr hm) rfl
 ·show Gq _ _ _ (offB _ (Heap.nw A B (D2.put bo _))) _ _ _
  rw [Qjs h.bB]
  refine h.gu.mono (fun b hb e he=>hput (List.mem_append_right _ (List.mem_append_right _ (List.mem_append_left _ hb))) (ht.keeps (fun hm=>?_) he)) hreg UpO.le
  have hnd:=h.nd
  simp only [List.nodup_append,List.mem_append] at hnd
  obtain ⟨_,⟨_,⟨_,_,n1⟩,n2⟩,n3⟩:=hnd
  exact n1 b hb b hm rfl
 ·show Gq _ _ _ (offB _ (Heap.nw A B (D2.put bo _))) _ _ _
  rw [Qjs h.bB]
  exact (hadd _ (fun i v x=>(fun h h'=>NpIs.le h h') hreg) ((fun h h'=>NpIs.le h h') hreg hv)).mono (fun b hb e he=>hput (List.mem_append_right _ (List.mem_append_right _ (List.mem_append_right _ hb))) he) (Heap.le.refl _) (fun h h'=>NpIs.le h h')
theorem Out.addN (h:Out A B W D bo q o) {v:NeP} {x:Qm} {Hs:Heap} {K:Heap→Prop} (hs:Hs.le (Heap.off q.Nevers D)) (h1:∀ u ∈ Qm.c x,u.oneCell' = true) (hv:NpIs (offB (blks q) (Heap.nw A B D)) v x) (hb:o.ne.length≤1000000)
 (k:∀ r D3,Out A B W D3 bo { q with Nevers:=r } { o with ne:=o.ne++[v] }→K D3) :
 nw (Qm.c x++[]) (fun b H94=>Heap.le Hs H94∧apS (Qm.c Qm.zero) 56 q.Nevers (Sl.of (some (b,0)) 1 1) (fun r H97=>Heap.le Hs H97∧nck (some (bo,0)) fun p98=>st (p98.1,p98.2+5) (slv r) (fun H100=>K H100) H97) H94) D:=
 QqW hs h1 fun D1 l1 hoff=>(h.up l1).addNd (NpIs.le (QfY l1) hv) hb fun r D2 hle hst=>⟨(hs.trans hoff).trans hle,_,rfl,hst fun D3 hO=>k r D3 hO⟩
end
end
end Sx
end
