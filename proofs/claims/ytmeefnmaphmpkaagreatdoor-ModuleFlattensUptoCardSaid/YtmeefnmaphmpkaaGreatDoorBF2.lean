/-
  Texts of this family, one behind the other: SxDr, SxDq, SxAe, Sh1.
-/
import Derived.Test.YtmeefnmaphmpkaaGreatDoorBF1
import Derived.Test.YtmeefnmaphmpkaaGreatDoorProg
noncomputable section
set_option linter.unusedVariables false
set_option linter.unusedSimpArgs false
set_option maxRecDepth 10000
namespace Sx
section
open Go
inductive Ot where
 | nil
 | tk (i:Nat) (t:Ot)
 | br (a b:Ot)
 | fk (i:Nat) (a b:Ot)
def ot:List Nat→Ot→Ot
 | [],t=>t
 | i::l,t=>.tk i (ot l t)
def drE (m:Option Nat) (t:Ot) (H:Heap) (K:HP):Prop:=dr H K
def okD (m:Option Nat) (ops:Array Oper):Bool:=match m with
 | none=>Region.noSelect ops
 | some t=>tailOk ops t
def itD (m:Option Nat) (i:Nat):Bool:=match m with
 | none=>true
 | some t=>Nat.blt i t
def fuD (m:Option Nat) (ops:Array Oper):Nat:=match m with
 | none=>ops.size
 | some t=>t
def GD (m:Option Nat) (P:Program) (C:Ctx) (ops:Array Oper) (Q:Exit→Act→World→Prop) (n:FN) (fuel:Nat) (listed:Array Bool) (l:List (Nat×Value)) (H Hs:Heap):Prop:=match m with
 | none=>GA P C ops Q n fuel listed l H Hs
 | some t=>GT P C ops Q n t fuel listed l H Hs
def bkD (m:Option Nat) (t:Ot) (P:Program) (C:Ctx) (ops:Array Oper) (Q:Exit→Act→World→Prop) (fuel:Nat) (listed:Array Bool) (Hs:Heap):Act→World→Prop:=match m with
 | none=>fun a w=>St C w Hs∧wpAnyH P .any ops Q (fun w=>St C w Hs) fuel listed a w
 | some t=>fun a w=>St C w Hs∧(HeadInv .any ops t listed→wpHd P ops Q (fun w=>St C w Hs) t fuel listed a w)
structure XD (m:Option Nat) (t:Ot) (P:Program) (C:Ctx) (ops:Array Oper) (Q:Exit→Act→World→Prop) (n:FN) (fuel:Nat) (listed:Array Bool) (l:List (Nat×Value)) (H Hs:Heap):Prop where
 go:GD m P C ops Q n fuel listed l H Hs
structure XS (m:Option Nat) (i:Nat) (o:Oper) (t:Ot) (P:Program) (C:Ctx) (ops:Array Oper) (Q:Exit→Act→World→Prop) (n:FN) (fuel:Nat) (listed:Array Bool) (l:List (Nat×Value)) (H Hs:Heap):Prop where
 go:ops[i]? = some o→GD m P C ops Q n (fuel+1) listed l H Hs
section
variable {m:Option Nat} {t:Ot} {P:Program} {C:Ctx} {Q:Exit→Act→World→Prop} {n:FN} {l:List (Nat×Value)} {H Hs:Heap} {ops:Array Oper} {fuel:Nat} {listed:Array Bool} {i d:Nat} {op:Op} {ty:TypeId} {pos:String} {after:Array Edge} {g:Option (Nat×Bool)}
theorem Dany {f:Nat} {ops:List Oper} {K:HP} (h:drE m t H K) (hm:P.follows .mixedOrders=true) (d:okD m ops.toArray=true) (k:∀ Hs,K Hs→XD m t P C ops.toArray Q n (fuD m ops.toArray) (Array.replicate ops.toArray.size false) l H Hs):XC P C Q n (.region f ops.toArray true) l H:=by
 obtain ⟨Hs,hle,b⟩:=h
 cases m with
 | none=>exact ⟨GC.any hm hle (k Hs b).go⟩
 | some t=>exact ⟨GC.tail t hm hle d (k Hs b).go⟩
theorem Dop {o:Oper} (hi:ops[i]? = some o) (k:XS m i o t P C ops Q n fuel listed l H Hs):XD m (.tk i t) P C ops Q n (fuel+1) listed l H Hs:=⟨k.go hi⟩
theorem Sv {v:Value} (x:Wt ops l g) (u:XV P C n l Hs ⟨some d,op,ty,pos,after,g⟩ v) (k:XD m t P C ops Q n fuel (listed.setIfInBounds i true) ((d,v)::l) H Hs)
 (f:∀ c a v w,Q (.panic c) (a.put (some d) v) w→Q (.panic c) a w:=by exact fun _ _ _ _ h=>h) (r:okD m ops=true:=by kernel_rfl) (o:Region.free .any ops listed i=true:=by kernel_rfl) (q:(Region.ready .any ops listed).contains i=true:=by kernel_rfl) (b:itD m i=true:=by kernel_rfl) (j:Nat.blt d n.n=true:=by exact rfl) :
 XS m i ⟨some d,op,ty,pos,after,g⟩ t P C ops Q n fuel listed l H Hs:=⟨fun hi=>by
 cases m with
 | none=>exact GA.takeP i hi x u.ov k.go f r o q j
 | some t=>exact GT.takeP i hi x u.ov k.go f r o q b j⟩
theorem GT.skipP {t:Nat} (i:Nat) (hi:ops[i]? = some ⟨some d,op,ty,pos,after,g⟩) (F:Wn ops l g) (k:GT P C ops Q n t fuel (listed.setIfInBounds i true) ((d,undef)::l) H Hs) (A:∀ c a v w,Q (.panic c) (a.put (some d) v) w→Q (.panic c) a w)
 (r:tailOk ops t=true) (D:Region.free .any ops listed i=true) (E:(Region.ready .any ops listed).contains i=true) (m:Nat.blt i t=true) (B:Nat.blt d n.n=true):GT P C ops Q n t (fuel+1) listed l H Hs:=by
 intro a w b q f j
 simp only [tailOk,Ve,Vj] at r
 obtain ⟨⟨⟨u,x⟩,y⟩,z⟩:=r
 have hr':i ∈ Region.ready .any ops listed:=by simpa using E
 have hit':i < t:=by simpa using m
 exact Qr8 hi (Region.noSelect_spec u) y z x hit' (fun c a w h => A c a _ w h) fuel listed a w j (Region.free_spec hi D) hr'
  (.inr ⟨F.wanted (o:=⟨some d,op,ty,pos,after,g⟩) rfl b,rfl⟩) f (k _ w (b.put B) q f (j.set hr' hit'))
theorem Ssk (u:Wn ops l g) (k:XD m t P C ops Q n fuel (listed.setIfInBounds i true) ((d,undef)::l) H Hs)
 (f:∀ c a v w,Q (.panic c) (a.put (some d) v) w→Q (.panic c) a w:=by exact fun _ _ _ _ h=>h) (r:okD m ops=true:=by kernel_rfl) (o:Region.free .any ops listed i=true:=by kernel_rfl) (q:(Region.ready .any ops listed).contains i=true:=by kernel_rfl) (b:itD m i=true:=by kernel_rfl) (j:Nat.blt d n.n=true:=by exact rfl) :
 XS m i ⟨some d,op,ty,pos,after,g⟩ t P C ops Q n fuel listed l H Hs:=⟨fun hi=>by
 cases m with
 | none=>exact GA.skipP i hi u k.go f r o q j
 | some t=>exact Sx.GT.skipP i hi u k.go f r o q b j⟩
theorem Shv {v:Value} {X:Prop} (h:hvl v X) (x:Wt ops l g) (u:XV P C n l Hs ⟨some d,op,ty,pos,after,g⟩ v) (k:X→XD m t P C ops Q n fuel (listed.setIfInBounds i true) ((d,v)::l) H Hs)
 (f:∀ c a v w,Q (.panic c) (a.put (some d) v) w→Q (.panic c) a w:=by exact fun _ _ _ _ h=>h) (r:okD m ops=true:=by kernel_rfl) (o:Region.free .any ops listed i=true:=by kernel_rfl) (q:(Region.ready .any ops listed).contains i=true:=by kernel_rfl) (b:itD m i=true:=by kernel_rfl) (j:Nat.blt d n.n=true:=by exact rfl) :
 XS m i ⟨some d,op,ty,pos,after,g⟩ t P C ops Q n fuel listed l H Hs:=Sv x u (k h) f r o q b j
theorem SA {o:TypeId} {x:Operand} {p:Nat×Nat} {α:Type} {f:α→Value} {K:α→Prop} [ht:TyB P o] (h:∃ y,rd Hs p=some (f y)∧K y) (D:Wt ops l g) (hx:opv l x=some (pv (some p))) (k:∀ y,K y→XD m t P C ops Q n fuel (listed.setIfInBounds i true) ((d,f y)::l) H Hs)
 (q:∀ c a v w,Q (.panic c) (a.put (some d) v) w→Q (.panic c) a w:=by exact fun _ _ _ _ h=>h) (B:okD m ops=true:=by kernel_rfl) (u:Region.free .any ops listed i=true:=by kernel_rfl) (A:(Region.ready .any ops listed).contains i=true:=by kernel_rfl) (b:itD m i=true:=by kernel_rfl) (r:Nat.blt d n.n=true:=by exact rfl) :
 XS m i ⟨some d,.load o x,ty,pos,after,g⟩ t P C ops Q n fuel listed l H Hs:=by
 obtain ⟨y,j,z⟩:=h
 exact Sv D ⟨OV.load hx ht.e j⟩ (k y z) q B u A b r
theorem ST {o:TypeId} {x:Operand} {p:Nat×Nat} {α:Type} {f:α→List Value} {K:α→Prop} {q:Nat} [ht:TyA P o] [hi:TyZ P o q] (h:∃ y,rds Hs p (f y)∧K y) (E:Wt ops l g) (hx:opv l x=some (pv (some p))) (F:∀ y,q=(f y).length) (k:∀ y,K y→XD m t P C ops Q n fuel (listed.setIfInBounds i true) ((d,.agg (f y).toArray)::l) H Hs)
 (r:∀ c a v w,Q (.panic c) (a.put (some d) v) w→Q (.panic c) a w:=by exact fun _ _ _ _ h=>h) (D:okD m ops=true:=by kernel_rfl) (z:Region.free .any ops listed i=true:=by kernel_rfl) (B:(Region.ready .any ops listed).contains i=true:=by kernel_rfl) (b:itD m i=true:=by kernel_rfl) (u:Nat.blt d n.n=true:=by exact rfl) :
 XS m i ⟨some d,.load o x,ty,pos,after,g⟩ t P C ops Q n fuel listed l H Hs:=by
 obtain ⟨y,j,A⟩:=h
 exact Sv E ⟨Xm hx ht.e (F y ▸ hi.e) j⟩ (k y A) r D z B b u
theorem SX {x y:Operand} {q e:TypeId} {s:Sl} {j:Int} {k0:IntKind} {o:Nat} {K:Nat×Nat→Prop} [ht:TyU P q (.slice e)] [he:TyZ P e o] (h:ixa s j K) (F:Wt ops l g) (hx:opv l x=some (slv s)) (hy:opv l y=some (.int k0 j)) (k:∀ p,K p→XD m t P C ops Q n fuel (listed.setIfInBounds i true) ((d,pv (some (p.1,p.2+j.toNat*o)))::l) H Hs)
 (u:∀ c a v w,Q (.panic c) (a.put (some d) v) w→Q (.panic c) a w:=by exact fun _ _ _ _ h=>h) (E:okD m ops=true:=by kernel_rfl) (A:Region.free .any ops listed i=true:=by kernel_rfl) (D:(Region.ready .any ops listed).contains i=true:=by kernel_rfl) (b:itD m i=true:=by kernel_rfl) (z:Nat.blt d n.n=true:=by exact rfl) :
 XS m i ⟨some d,.indexAddr q x y,ty,pos,after,g⟩ t P C ops Q n fuel listed l H Hs:=by
 obtain ⟨p,hp,f,h0,r,B⟩:=h
 exact Sv F ⟨OV.indexAddr hx hy ht.e he.e hp f h0 r⟩ (k p B) u E A D b z
theorem SN {x:Operand} {q:Option (Nat×Nat)} {K:Nat×Nat→Prop} (h:nck q K) (z:Wt ops l g) (hx:opv l x=some (pv q)) (k:∀ p,K p→XD m t P C ops Q n fuel (listed.setIfInBounds i true) ((d,pv (some p))::l) H Hs)
 (f:∀ c a v w,Q (.panic c) (a.put (some d) v) w→Q (.panic c) a w:=by exact fun _ _ _ _ h=>h) (y:okD m ops=true:=by kernel_rfl) (o:Region.free .any ops listed i=true:=by kernel_rfl) (u:(Region.ready .any ops listed).contains i=true:=by kernel_rfl) (b:itD m i=true:=by kernel_rfl) (j:Nat.blt d n.n=true:=by exact rfl) :
 XS m i ⟨some d,.nilCheck x,ty,pos,after,g⟩ t P C ops Q n fuel listed l H Hs:=by
 obtain ⟨p,hp,r⟩:=h
 exact Sv z ⟨OV.nilCheck hx hp⟩ (k p r) f y o u b j
theorem SS {x y:Operand} {f:TypeId} {s:Str} {j:Int} {k0:IntKind} {K:UInt8→Prop} [ht:TyU P f .string] (h:ixs s j K) (D:Wt ops l g) (hx:opv l x=some (sv s)) (hy:opv l y=some (.int k0 j)) (k:∀ c:UInt8,K c→XD m t P C ops Q n fuel (listed.setIfInBounds i true) ((d,.int .u8 (c.toNat:Int))::l) H Hs)
 (q:∀ c a v w,Q (.panic c) (a.put (some d) v) w→Q (.panic c) a w:=by exact fun _ _ _ _ h=>h) (B:okD m ops=true:=by kernel_rfl) (u:Region.free .any ops listed i=true:=by kernel_rfl) (A:(Region.ready .any ops listed).contains i=true:=by kernel_rfl) (b:itD m i=true:=by kernel_rfl) (r:Nat.blt d n.n=true:=by exact rfl) :
 XS m i ⟨some d,.index f x y,ty,pos,after,g⟩ t P C ops Q n fuel listed l H Hs:=by
 obtain ⟨c,h0,o,z⟩:=h
 exact Sv D ⟨Xq hx hy ht.e h0 o⟩ (k c z) q B u A b r
theorem SC {A yt:TypeId} {x y:Operand} {a b:Str} {K:Prop} (h:catOk a b∧K) (z:Wt ops l g) (hx:opv l x=some (sv a)) (hy:opv l y=some (sv b)) (k:K→XD m t P C ops Q n fuel (listed.setIfInBounds i true) ((d,sv (a++b))::l) H Hs)
 (j:∀ c a v w,Q (.panic c) (a.put (some d) v) w→Q (.panic c) a w:=by exact fun _ _ _ _ h=>h) (u:okD m ops=true:=by kernel_rfl) (q:Region.free .any ops listed i=true:=by kernel_rfl) (r:(Region.ready .any ops listed).contains i=true:=by kernel_rfl) (f:itD m i=true:=by kernel_rfl) (o:Nat.blt d n.n=true:=by exact rfl) :
 XS m i ⟨some d,.binOp .add A x y yt,ty,pos,after,g⟩ t P C ops Q n fuel listed l H Hs:=Sv z ⟨Xaw hx hy h.1⟩ (k h.2) j u q r f o
theorem SU {x : Operand} {lo hi : Option Operand} {y : TypeId} {s : Str} {j f : Option (IntKind × Int)} {a b : Int} {K : Str → Prop} [ht : TyU P y .string] (h : slS s a b K) (M : Wt ops l g) (hx : opv l x = some (sv s)) (r : Sx.optInt l lo = some j) (o : Sx.optInt l hi = some f) (D : a = (j.map fun p => p.2).getD 0) (E : b = (f.map fun p => p.2).getD (s.length : Int)) (k : ∀ t', K t' → XD m t P C ops Q n fuel (listed.setIfInBounds i true) ((d, sv t') :: l) H Hs)
 (B:∀ c a v w,Q (.panic c) (a.put (some d) v) w→Q (.panic c) a w:=by exact fun _ _ _ _ h=>h) (L:okD m ops=true:=by kernel_rfl) (G:Region.free .any ops listed i=true:=by kernel_rfl) (J:(Region.ready .any ops listed).contains i=true:=by kernel_rfl) (q:itD m i=true:=by kernel_rfl) (F:Nat.blt d n.n=true:=by exact rfl) :
 XS m i ⟨some d,.slice y x lo hi none,ty,pos,after,g⟩ t P C ops Q n fuel listed l H Hs:=by
 obtain ⟨h0,z,A,t',u,I⟩:=h
 exact Sv M ⟨Xt h0 z A u hx r o D E ht.e⟩ (k t' I) B L G J q F
theorem SL {x : Operand} {lo hi mx : Option Operand} {D e : TypeId} {s : Sl} {B : Nat} {o f j : Option (IntKind × Int)} {a b c : Int} {K : Sl → Prop} [ht : TyU P D (.slice e)] [he : TyZ P e B] (h : slL s a b c B K) (U : Wt ops l g) (hx : opv l x = some (slv s)) (u : Sx.optInt l lo = some o) (q : Sx.optInt l hi = some f) (y : Sx.optInt l mx = some j) (J : a = (o.map fun p => p.2).getD 0) (L : b = (f.map fun p => p.2).getD (s.len : Int)) (M : c = (j.map fun p => p.2).getD (s.cap : Int))
 (z:j.isSome=true→f.isSome=true) (k:∀ t',K t'→XD m t P C ops Q n fuel (listed.setIfInBounds i true) ((d,slv t')::l) H Hs)
 (I:∀ c a v w,Q (.panic c) (a.put (some d) v) w→Q (.panic c) a w:=by exact fun _ _ _ _ h=>h) (T:okD m ops=true:=by kernel_rfl) (O:Region.free .any ops listed i=true:=by kernel_rfl) (S:(Region.ready .any ops listed).contains i=true:=by kernel_rfl) (r:itD m i=true:=by kernel_rfl) (N:Nat.blt d n.n=true:=by exact rfl) :
 XS m i ⟨some d,.slice D x lo hi mx,ty,pos,after,g⟩ t P C ops Q n fuel listed l H Hs:=by
 obtain ⟨h0,E,F,G,t',A,R⟩:=h
 exact Sv U ⟨XU h0 E F G A hx u q y J L M z ht.e he.e⟩ (k t' R) I T O S r N
theorem Sac {o:Oper} (k:XL P C ops (Exit.then (bkD m t P C ops Q fuel (listed.setIfInBounds i true) Hs) Q) n [o] l H) (d:Region.ready .any ops listed=[i]:=by kernel_rfl) (b:itD m i=true:=by kernel_rfl):XS m i o t P C ops Q n fuel listed l H Hs:=⟨fun hi=>by
 cases m with
 | none=>exact GA.eff i hi d k.go
 | some t=>exact GT.eff i hi d b k.go⟩
theorem Lbk {K:Prop} (h:Heap.le Hs H∧K) (k:K→XD m t P C ops Q n fuel listed l H Hs):XL P C ops (Exit.then (bkD m t P C ops Q fuel listed Hs) Q) n [] l H:=by
 cases m with
 | none=>exact ⟨GA.back h.1 (k h.2).go⟩
 | some t=>exact ⟨GT.back h.1 (k h.2).go⟩
theorem Dfk {s t:Ot} {j:Nat} {o b:Oper} {A B:Prop} (h:A∧B) (hi:ops[i]? = some o) (g:ops[j]? = some b) (u:A→XL P C ops (Exit.then (bkD m s P C ops Q fuel (listed.setIfInBounds i true) Hs) Q) n [o] l H) (k2:B→XL P C ops (Exit.then (bkD m t P C ops Q fuel (listed.setIfInBounds j true) Hs) Q) n [b] l H)
 (r:Region.ready .any ops listed=[i,j]:=by kernel_rfl) (d:itD m i=true:=by kernel_rfl) (f:itD m j=true:=by kernel_rfl):XD m (.fk i s (.fk j t .nil)) P C ops Q n (fuel+1) listed l H Hs:=by
 cases m with
 | none=>exact ⟨GA.effs [i,j] r (by simp) fun x hx=>by
  rcases List.mem_cons.1 hx with rfl | hx
  ·exact ⟨o,hi,(u h.1).go⟩
  ·have : x = j := by simpa using hx
   subst this
   exact ⟨b,g,(k2 h.2).go⟩⟩
 | some q=>exact ⟨GT.effs [i,j] r (by simp) fun x hx=>by
  rcases List.mem_cons.1 hx with rfl | hx
  ·exact ⟨o,hi,d,(u h.1).go⟩
  ·have : x = j := by simpa using hx
   subst this
   exact ⟨b,g,f,(k2 h.2).go⟩⟩
theorem Dfk3 {s t u:Ot} {j k:Nat} {o d f:Oper} {A B D:Prop} (h:A∧B∧D) (hi:ops[i]? = some o) (z:ops[j]? = some d) (E:ops[k]? = some f) (G:A→XL P C ops (Exit.then (bkD m s P C ops Q fuel (listed.setIfInBounds i true) Hs) Q) n [o] l H) (k2:B→XL P C ops (Exit.then (bkD m t P C ops Q fuel (listed.setIfInBounds j true) Hs) Q) n [d] l H)
 (I:D→XL P C ops (Exit.then (bkD m u P C ops Q fuel (listed.setIfInBounds k true) Hs) Q) n [f] l H) (F:Region.ready .any ops listed=[i,j,k]:=by kernel_rfl) (g:itD m i=true:=by kernel_rfl) (r:itD m j=true:=by kernel_rfl) (y:itD m k=true:=by kernel_rfl):XD m (.fk i s (.fk j t (.fk k u .nil))) P C ops Q n (fuel+1) listed l H Hs:=by
 have b:∀ x ∈ [i,j,k],(x=i∨x=j∨x=k):=fun x hx=>by simpa using hx
 cases m with
 | none=>exact ⟨GA.effs [i,j,k] F (by simp) fun x hx=>by
  rcases b x hx with rfl | rfl | rfl
  ·exact ⟨o,hi,(G h.1).go⟩
  ·exact ⟨d,z,(k2 h.2.1).go⟩
  ·exact ⟨f,E,(I h.2.2).go⟩⟩
 | some q=>exact ⟨GT.effs [i,j,k] F (by simp) fun x hx=>by
  rcases b x hx with rfl | rfl | rfl
  ·exact ⟨o,hi,g,(G h.1).go⟩
  ·exact ⟨d,z,r,(k2 h.2.1).go⟩
  ·exact ⟨f,E,y,(I h.2.2).go⟩⟩
theorem Dbr {a b:Ot} {c:Bool} {A B:Prop} (h:ift c A B) (d:c=true→A→XD m a P C ops Q n fuel listed l H Hs) (k2:c=false→B→XD m b P C ops Q n fuel listed l H Hs):XD m (.br a b) P C ops Q n fuel listed l H Hs:=by
 rcases h.em with ⟨u,h⟩ | ⟨u,h⟩
 ·exact ⟨(d u h).go⟩
 ·exact ⟨(k2 u h).go⟩
theorem DdA (k:XL P C ops Q n [] l H) (b:Region.ready .any ops listed=[]:=by kernel_rfl):XD none .nil P C ops Q n fuel listed l H Hs:=⟨GA.done b k.go⟩
theorem DdT {q:Nat} (k:XL P C ops Q n (ops.toList.drop q) l H) (b:Region.seqB .any ops (ops.size - q) q listed=true:=by kernel_rfl):XD (some q) .nil P C ops Q n 0 listed l H Hs:=⟨GT.done b k.go⟩
end
section
variable {P:Program} {C:Ctx} {Q:Exit→Act→World→Prop} {l:List (Nat×Value)} {H:Heap}
theorem Rs1 {b:Func} {Φ:Value→HP} {r:ResultVar} {v:Value} {m:Nat} (g:∀ a w,SpecPost P C b Φ .ret a w→Q .ret a w) (i:b.results = #[r]) (h:Φ v H) (d:RV P C l H r v):XC P C Q ⟨m,[]⟩ .ret l H:=⟨GC.ret fun a w f j=>g a w (QrU i d f j h)⟩
theorem Rs2 {b:Func} {Φ:Value→HP} {r s:ResultVar} {x y:Value} {m:Nat} (i:∀ a w,SpecPost P C b Φ .ret a w→Q .ret a w) (j:b.results = #[r,s]) (h:Φ (.tuple #[x,y]) H) (d:RV P C l H r x) (f:RV P C l H s y):XC P C Q ⟨m,[]⟩ .ret l H:=⟨GC.ret fun a w g o=>i a w (QoZ j d f g o h)⟩
theorem Rs3 {b:Func} {Φ:Value→HP} {r s t:ResultVar} {x y z:Value} {m:Nat} (j:∀ a w,SpecPost P C b Φ .ret a w→Q .ret a w) (o:b.results = #[r,s,t]) (h:Φ (.tuple #[x,y,z]) H) (d:RV P C l H r x) (f:RV P C l H s y) (g:RV P C l H t z):XC P C Q ⟨m,[]⟩ .ret l H:=⟨GC.ret fun a w i q=>j a w (Qo0 o d f g i q h)⟩
end
end
section
open Go
class KOc (P:Program) (kt:TypeId) {κ:Type} (ke:κ→Value):Prop where
 ok:KOk P kt ke
class CkT {α:Type} (c:α→List Value) (ks:outParam (List CK)):Prop where
 ok:∀ x,typedK ks (c x)
structure XQ (P:Program) (C:Ctx) (ops:Array Oper) (Q:Exit→Act→World→Prop) (n:FN) (rest:List Oper) (l:List (Nat×Value)) (H:Heap):Prop where
 go:GQ P C ops Q n rest l H
section
variable {P:Program} {C:Ctx} {Q:Exit→Act→World→Prop} {n:FN} {l:List (Nat×Value)} {H Hs:Heap} {ops:Array Oper} {rest:List Oper} {d:Nat} {op:Op} {ty:TypeId} {pos:String} {after:Array Edge} {g:Option (Nat×Bool)} {E:Value→HP}
theorem LcP {f : FuncId} {xs : Array Operand} {b : Array TypeId} {vs : List Value} {Φ : Value → Heap → Prop} [hok : OkC P f] (i : SpecP P C f vs H Φ E) (m : ∀ ch a w, Fr n l a → PanOut C E n.ds ch a.defers w → Q (.panic ch) a w) (o : Wt ops l g) (hx : opvs l xs.toList = some vs) (k : ∀ v H', Φ v H' → XL P C ops Q n rest ((d, v) :: l) H') (j : Nat.blt d n.n = true := by exact rfl) :
 XL P C ops Q n (⟨some d,.call { callee:=.value (.func f),args:=xs,argTypes:=b },ty,pos,after,g⟩::rest) l H:=⟨Xz i m o j hok.ok hx fun v H' h=>(k v H' h).go⟩
theorem Lpa {x:Operand} {t:TypeId} {u:Value} {b:Option Nat} (h:E (.iface t u) H) (d:∀ ch a w,Fr n l a→PanOut C E n.ds ch a.defers w→Q (.panic ch) a w) (f:Wt ops l g) (hx:opv l x=some (.iface t u)):XL P C ops Q n (⟨b,.panic x,ty,pos,after,g⟩::rest) l H:=⟨GL.panic h d f hx⟩
theorem Pr0 {b:Func} {Φ:Value→HP} {m:Nat} (f:∀ a w,a.defers=[]∧SpecPost P C b Φ .ret a w→Q .ret a w) (g:b.results = #[]) (h:Φ (.tuple #[]) H):XC P C Q ⟨m,[]⟩ .ret l H:=⟨GC.ret fun a w d i=>f a w (And.intro d.defers (Qd5 g d i h))⟩
theorem Pr1 {b:Func} {Φ:Value→HP} {t m:Nat} {v:Value} (g:∀ a w,a.defers=[]∧SpecPost P C b Φ .ret a w→Q .ret a w) (i:b.results = #[.tmp t]) (f:lk l t=some v) (h:Φ v H):XC P C Q ⟨m,[]⟩ .ret l H:=⟨GC.ret fun a w d j=>g a w (And.intro d.defers (QrV i f d j h))⟩
theorem Pr2 {b:Func} {Φ:Value→HP} {r:ResultVar} {v:Value} {m:Nat} (g:∀ a w,a.defers=[]∧SpecPost P C b Φ .ret a w→Q .ret a w) (i:b.results = #[r]) (h:Φ v H) (f:RV P C l H r v):XC P C Q ⟨m,[]⟩ .ret l H:=⟨GC.ret fun a w d j=>g a w (And.intro d.defers (QrU i f d j h))⟩
theorem Pse {b:Func} {Φ:Value→HP} {m:Nat} (f:∀ a w,a.defers=[]∧SpecPost P C b Φ .ret a w→Q .normal a w) (g:b.results = #[]) (h:Φ (.tuple #[]) H):XC P C Q ⟨m,[]⟩ .skip l H:=⟨GC.ends fun a w d i=>f a w (And.intro d.defers (Qd5 g d i h))⟩
theorem Pee {b:Func} {Φ:Value→HP} {m f:Nat} (g:∀ a w,a.defers=[]∧SpecPost P C b Φ .ret a w→Q (.exit f) a w) (i:b.results = #[]) (h:Φ (.tuple #[]) H):XC P C Q ⟨m,[]⟩ (.exit f) l H:=⟨XH fun a w d j=>g a w (And.intro d.defers (Qd5 i d j h))⟩
theorem Ple {b:Func} {Φ:Value→HP} {m:Nat} (f:∀ a w,a.defers=[]∧SpecPost P C b Φ .ret a w→Q .normal a w) (g:b.results = #[]) (h:Φ (.tuple #[]) H):XL P C ops Q ⟨m,[]⟩ [] l H:=⟨GL.ends fun a w d i=>f a w (And.intro d.defers (Qd5 g d i h))⟩
theorem LhQ {t yt : TypeId} {x y : Operand} {k0 : IntKind} {a b : Int} {K : Prop} (h : b ≠ 0 ∧ K) (i : Wt ops l g) (hx : opv l x = some (.int k0 a)) (hy : opv l y = some (.int k0 b)) (k : K → XL P C ops Q n rest ((d, .int k0 (w k0 (a.tdiv b))) :: l) H) (f : Nat.blt d n.n = true := by exact rfl) :
 XL P C ops Q n (⟨some d,.binOp .quo t x y yt,ty,pos,after,g⟩::rest) l H:=⟨GL.val i f (OV.quo hx hy h.1) (k h.2).go⟩
theorem LhM {t yt : TypeId} {x y : Operand} {k0 : IntKind} {a b : Int} {K : Prop} (h : b ≠ 0 ∧ K) (i : Wt ops l g) (hx : opv l x = some (.int k0 a)) (hy : opv l y = some (.int k0 b)) (k : K → XL P C ops Q n rest ((d, .int k0 (a.tmod b)) :: l) H) (f : Nat.blt d n.n = true := by exact rfl) :
 XL P C ops Q n (⟨some d,.binOp .rem t x y yt,ty,pos,after,g⟩::rest) l H:=⟨GL.val i f (OV.rem hx hy h.1) (k h.2).go⟩
theorem Lhl {t yt : TypeId} {x y : Operand} {k0 j : IntKind} {a b : Int} {K : Prop} (h : 0 ≤ b ∧ K) (i : Wt ops l g) (hx : opv l x = some (.int k0 a)) (hy : opv l y = some (.int j b)) (k : K → XL P C ops Q n rest ((d, .int k0 (sShl k0 a b)) :: l) H) (f : Nat.blt d n.n = true := by exact rfl) :
 XL P C ops Q n (⟨some d,.binOp .shl t x y yt,ty,pos,after,g⟩::rest) l H:=⟨GL.val i f (OV.shl hx hy h.1) (k h.2).go⟩
theorem Lhr {t yt : TypeId} {x y : Operand} {k0 j : IntKind} {a b : Int} {K : Prop} (h : 0 ≤ b ∧ K) (i : Wt ops l g) (hx : opv l x = some (.int k0 a)) (hy : opv l y = some (.int j b)) (k : K → XL P C ops Q n rest ((d, .int k0 (sShr k0 a b)) :: l) H) (f : Nat.blt d n.n = true := by exact rfl) :
 XL P C ops Q n (⟨some d,.binOp .shr t x y yt,ty,pos,after,g⟩::rest) l H:=⟨GL.val i f (OV.shr hx hy h.1) (k h.2).go⟩
theorem Cdw {d:Nat} {ops:List Oper} (hm:P.follows .mixedOrders=true) (b:Region.lexB .any ops.toArray=true) (k:XQ P C ops.toArray Q n ops l H):XC P C Q n (.region d ops.toArray true) l H:=⟨XaC hm b k.go⟩
theorem Qv {v:Value} (h:Wt ops l g) (f:XV P C n l H ⟨some d,op,ty,pos,after,g⟩ v) (k:XQ P C ops Q n rest ((d,v)::l) H) (b:Nat.blt d n.n=true:=by exact rfl):XQ P C ops Q n (⟨some d,op,ty,pos,after,g⟩::rest) l H:=⟨GQ.val h b f.ov k.go⟩
theorem Qsk (f:Wn ops l g) (k:XQ P C ops Q n rest ((d,undef)::l) H) (b:Nat.blt d n.n=true:=by exact rfl):XQ P C ops Q n (⟨some d,op,ty,pos,after,g⟩::rest) l H:=⟨GQ.skip f b k.go⟩
theorem Qni (k:XL P C ops Q n [] l H):XQ P C ops Q n [] l H:=⟨GQ.nil k.go⟩
theorem Qhv {v:Value} {X:Prop} (h:hvl v X) (i:Wt ops l g) (f:XV P C n l H ⟨some d,op,ty,pos,after,g⟩ v) (k:X→XQ P C ops Q n rest ((d,v)::l) H) (b:Nat.blt d n.n=true:=by exact rfl):XQ P C ops Q n (⟨some d,op,ty,pos,after,g⟩::rest) l H:=Qv i f (k h) b
theorem Qhn {k:Nat} {e:List (Nat×Value)} {Y X:Prop} {j g:Nat} {f b:Bool} (h:hnt k e Y X) (q:(ops[j]?).bind (·.dst)=some g) (r:lk l g=some (.bool b))
 (m:b=f→Y→XQ P C ops (Exit.then (Meet C n (fun (_:Unit) H2=>H2=H) (fun _=>e)) Q) n ((⟨some d,op,ty,pos,after,some (j,f)⟩::rest).take k) l H)
 (k2:b=!f→XQ P C ops (Exit.then (Meet C n (fun (_:Unit) H2=>H2=H) (fun _=>e)) Q) n ((⟨some d,op,ty,pos,after,some (j,f)⟩::rest).take k) l H)
 (o:X→XQ P C ops Q n ((⟨some d,op,ty,pos,after,some (j,f)⟩::rest).drop k) e H) (i:Y:=by exact trivial):XQ P C ops Q n (⟨some d,op,ty,pos,after,some (j,f)⟩::rest) l H:=
 ⟨GQ.cut0 k e (by
  by_cases hb:b=f
  ·exact (m hb i).go
  ·exact (k2 (by cases b <;> cases f <;> simp_all)).go) (o h).go⟩
theorem QA {t : TypeId} {x : Operand} {p : Nat × Nat} {α : Type} {f : α → Value} {K : α → Prop} [ht : TyB P t] (h : ∃ y, rd H p = some (f y) ∧ K y) (m : Wt ops l g) (hx : opv l x = some (pv (some p))) (k : ∀ y, K y → XQ P C ops Q n rest ((d, f y) :: l) H) (b : Nat.blt d n.n = true := by exact rfl) :
 XQ P C ops Q n (⟨some d,.load t x,ty,pos,after,g⟩::rest) l H:=by
 obtain ⟨y,j,i⟩:=h
 exact Qv m ⟨OV.load hx ht.e j⟩ (k y i) b
theorem QT {t : TypeId} {x : Operand} {p : Nat × Nat} {α : Type} {f : α → List Value} {K : α → Prop} {b : Nat} [ht : TyA P t] [hi : TyZ P t b] (h : ∃ y, rds H p (f y) ∧ K y) (o : Wt ops l g) (hx : opv l x = some (pv (some p))) (q : ∀ y, b = (f y).length) (k : ∀ y, K y → XQ P C ops Q n rest ((d, .agg (f y).toArray) :: l) H) (i : Nat.blt d n.n = true := by exact rfl) :
 XQ P C ops Q n (⟨some d,.load t x,ty,pos,after,g⟩::rest) l H:=by
 obtain ⟨y,m,j⟩:=h
 exact Qv o ⟨Xm hx ht.e (q y ▸ hi.e) m⟩ (k y j) i
theorem QX {x y : Operand} {t e : TypeId} {s : Sl} {i : Int} {k0 : IntKind} {f : Nat} {K : Nat × Nat → Prop} [ht : TyU P t (.slice e)] [he : TyZ P e f] (h : ixa s i K) (q : Wt ops l g) (hx : opv l x = some (slv s)) (hy : opv l y = some (.int k0 i)) (k : ∀ p, K p → XQ P C ops Q n rest ((d, pv (some (p.1, p.2 + i.toNat * f))) :: l) H) (m : Nat.blt d n.n = true := by exact rfl) :
 XQ P C ops Q n (⟨some d,.indexAddr t x y,ty,pos,after,g⟩::rest) l H:=by
 obtain ⟨p,hp,b,h0,j,o⟩:=h
 exact Qv q ⟨OV.indexAddr hx hy ht.e he.e hp b h0 j⟩ (k p o) m
theorem QN {x : Operand} {q : Option (Nat × Nat)} {K : Nat × Nat → Prop} (h : nck q K) (i : Wt ops l g) (hx : opv l x = some (pv q)) (k : ∀ p, K p → XQ P C ops Q n rest ((d, pv (some p)) :: l) H) (b : Nat.blt d n.n = true := by exact rfl) :
 XQ P C ops Q n (⟨some d,.nilCheck x,ty,pos,after,g⟩::rest) l H:=by
 obtain ⟨p,hp,f⟩:=h
 exact Qv i ⟨OV.nilCheck hx hp⟩ (k p f) b
theorem QS {x y : Operand} {t : TypeId} {s : Str} {i : Int} {k0 : IntKind} {K : UInt8 → Prop} [ht : TyU P t .string] (h : ixs s i K) (m : Wt ops l g) (hx : opv l x = some (sv s)) (hy : opv l y = some (.int k0 i)) (k : ∀ c : UInt8, K c → XQ P C ops Q n rest ((d, .int .u8 (c.toNat : Int)) :: l) H) (f : Nat.blt d n.n = true := by exact rfl) :
 XQ P C ops Q n (⟨some d,.index t x y,ty,pos,after,g⟩::rest) l H:=by
 obtain ⟨c,h0,b,j⟩:=h
 exact Qv m ⟨Xq hx hy ht.e h0 b⟩ (k c j) f
theorem QU {x : Operand} {lo hi : Option Operand} {t : TypeId} {s : Str} {i f : Option (IntKind × Int)} {a b : Int} {K : Str → Prop} [ht : TyU P t .string] (h : slS s a b K) (B : Wt ops l g) (hx : opv l x = some (sv s)) (m : Sx.optInt l lo = some i) (j : Sx.optInt l hi = some f) (u : a = (i.map fun p => p.2).getD 0) (y : b = (f.map fun p => p.2).getD (s.length : Int))
 (k:∀ t',K t'→XQ P C ops Q n rest ((d,sv t')::l) H) (z:Nat.blt d n.n=true:=by exact rfl):XQ P C ops Q n (⟨some d,.slice t x lo hi none,ty,pos,after,g⟩::rest) l H:=by
 obtain ⟨h0,q,r,t',o,A⟩:=h
 exact Qv B ⟨Xt h0 q r o hx m j u y ht.e⟩ (k t' A) z
theorem QC {t yt : TypeId} {x y : Operand} {a b : Str} {K : Prop} (h : catOk a b ∧ K) (i : Wt ops l g) (hx : opv l x = some (sv a)) (hy : opv l y = some (sv b)) (k : K → XQ P C ops Q n rest ((d, sv (a ++ b)) :: l) H) (f : Nat.blt d n.n = true := by exact rfl) :
 XQ P C ops Q n (⟨some d,.binOp .add t x y yt,ty,pos,after,g⟩::rest) l H:=Qv i ⟨Xaw hx hy h.1⟩ (k h.2) f
theorem XeqT {t yt:TypeId} {x y:Operand} {α:Type} {c:α→List Value} {u v:α} {b:List CK} [hu:TyA P t] [hk:CkT c b] (hx:opv l x=some (.agg (c u).toArray)) (hy:opv l y=some (.agg (c v).toArray)) (h:ckT P 100 t=some b) (hg:P.eqGuardType P.depth t=false) (f:∀ c:List Value,wrapT P t c=.agg c.toArray) :
 XV P C n l H ⟨some d,.binOp .eql t x y yt,ty,pos,after,g⟩ (.bool (csEq (c u) (c v))):=⟨XaB b hx hy hu.e h hg (hk.ok u) (hk.ok v) f⟩
theorem XneT {t yt:TypeId} {x y:Operand} {α:Type} {c:α→List Value} {u v:α} {b:List CK} [hu:TyA P t] [hk:CkT c b] (hx:opv l x=some (.agg (c u).toArray)) (hy:opv l y=some (.agg (c v).toArray)) (h:ckT P 100 t=some b) (hg:P.eqGuardType P.depth t=false) (f:∀ c:List Value,wrapT P t c=.agg c.toArray) :
 XV P C n l H ⟨some d,.binOp .neq t x y yt,ty,pos,after,g⟩ (.bool (!(csEq (c u) (c v)))):=⟨XaE b hx hy hu.e h hg (hk.ok u) (hk.ok v) f⟩
variable {α:Type} {κ:Type} [DecidableEq κ] {ke:κ→Value} {enc:α→Value}
theorem LK1 {t i f : TypeId} {X Y : Operand} {z : α} {q : Option Nat} {y : κ} {K : α → Bool → Prop} [ht : TyU P t (.map i f)] [hk : KOc P i ke] (h : lkM ke enc z q y K H) (r : Wt ops l g) (hx : opv l X = some (mv q)) (hy : opv l Y = some (ke y)) (u : (P.info? f).bind (·.zero) = some (enc z)) (k : ∀ x b, K x b → XL P C ops Q n rest ((d, enc x) :: l) H) (o : Nat.blt d n.n = true := by exact rfl) :
 XL P C ops Q n (⟨some d,.lookup t X Y false,ty,pos,after,g⟩::rest) l H:=by
 obtain ⟨x,b,m,j⟩:=h
 exact ⟨GL.val r o (XA rfl m hx hy ht.e hk.ok u) (k x b j).go⟩
theorem LK2 {t i f : TypeId} {X Y : Operand} {z : α} {q : Option Nat} {y : κ} {K : α → Bool → Prop} [ht : TyU P t (.map i f)] [hk : KOc P i ke] (h : lkM ke enc z q y K H) (r : Wt ops l g) (hx : opv l X = some (mv q)) (hy : opv l Y = some (ke y)) (u : (P.info? f).bind (·.zero) = some (enc z)) (k : ∀ x b, K x b → XL P C ops Q n rest ((d, .tuple #[enc x, .bool b]) :: l) H) (o : Nat.blt d n.n = true := by exact rfl) :
 XL P C ops Q n (⟨some d,.lookup t X Y true,ty,pos,after,g⟩::rest) l H:=by
 obtain ⟨x,b,m,j⟩:=h
 exact ⟨GL.val r o (XE rfl m hx hy ht.e hk.ok u) (k x b j).go⟩
theorem QK1 {t i f : TypeId} {X Y : Operand} {z : α} {q : Option Nat} {y : κ} {K : α → Bool → Prop} [ht : TyU P t (.map i f)] [hk : KOc P i ke] (h : lkM ke enc z q y K H) (r : Wt ops l g) (hx : opv l X = some (mv q)) (hy : opv l Y = some (ke y)) (u : (P.info? f).bind (·.zero) = some (enc z)) (k : ∀ x b, K x b → XQ P C ops Q n rest ((d, enc x) :: l) H) (o : Nat.blt d n.n = true := by exact rfl) :
 XQ P C ops Q n (⟨some d,.lookup t X Y false,ty,pos,after,g⟩::rest) l H:=by
 obtain ⟨x,b,m,j⟩:=h
 exact Qv r ⟨XA rfl m hx hy ht.e hk.ok u⟩ (k x b j) o
theorem QK2 {t i f : TypeId} {X Y : Operand} {z : α} {q : Option Nat} {y : κ} {K : α → Bool → Prop} [ht : TyU P t (.map i f)] [hk : KOc P i ke] (h : lkM ke enc z q y K H) (r : Wt ops l g) (hx : opv l X = some (mv q)) (hy : opv l Y = some (ke y)) (u : (P.info? f).bind (·.zero) = some (enc z)) (k : ∀ x b, K x b → XQ P C ops Q n rest ((d, .tuple #[enc x, .bool b]) :: l) H) (o : Nat.blt d n.n = true := by exact rfl) :
 XQ P C ops Q n (⟨some d,.lookup t X Y true,ty,pos,after,g⟩::rest) l H:=by
 obtain ⟨x,b,m,j⟩:=h
 exact Qv r ⟨XE rfl m hx hy ht.e hk.ok u⟩ (k x b j) o
theorem Lmm {t:TypeId} {K:Nat→HP} (h:mkM K H) (i:Wt ops l g) (k:∀ b H',K b H'→XL P C ops Q n rest ((d,mv (some b))::l) H') (f:Nat.blt d n.n=true:=by exact rfl):XL P C ops Q n (⟨some d,.makeMap t none,ty,pos,after,g⟩::rest) l H:=⟨GL.makeMap h i f fun b H' h=>(k b H' h).go⟩
theorem Lmu {t b d:TypeId} {X Y Z:Operand} {q:Option Nat} {y:κ} {x:α} {K:HP} [ht:TyU P t (.map b d)] [hk:KOc P b ke] (h:upS ke enc q y x K H) (f:Wt ops l g) (hx:opv l X=some (mv q)) (hy:opv l Y=some (ke y)) (i:opv l Z=some (enc x)) (k:∀ H',K H'→XL P C ops Q n rest l H'):XL P C ops Q n (⟨none,.mapUpdate t X Y Z,ty,pos,after,g⟩::rest) l H:=⟨XB h f hx hy i ht.e hk.ok fun H' h=>(k H' h).go⟩
theorem Lmi {t b d:TypeId} {X Y Z:Operand} {q:Option Nat} {y:κ} {x:α} {K:HP} [ht:TyU P t (.map b d)] [hk:KOc P b ke] (h:upS ke enc q y x K H) (f:Wt ops l g) (hx:opv l X=some (mv q)) (hy:opv l Y=some (ke y)) (i:opv l Z=some (enc x)) (k:∀ H',K H'→XL P C ops Q n rest l H'):XL P C ops Q n (⟨none,.insert t X Y Z,ty,pos,after,g⟩::rest) l H:=⟨Xar h f hx hy i ht.e hk.ok fun H' h=>(k H' h).go⟩
end
section
variable {m:Option Nat} {t:Ot} {P:Program} {C:Ctx} {Q:Exit→Act→World→Prop} {n:FN} {l:List (Nat×Value)} {H Hs:Heap} {ops:Array Oper} {fuel:Nat} {listed:Array Bool} {i d:Nat} {op:Op} {ty:TypeId} {pos:String} {after:Array Edge} {g:Option (Nat×Bool)} {α:Type} {κ:Type} [DecidableEq κ] {ke:κ→Value} {enc:α→Value}
theorem SK1 {r o j:TypeId} {X Y:Operand} {z:α} {q:Option Nat} {y:κ} {K:α→Bool→Prop} [ht:TyU P r (.map o j)] [hk:KOc P o ke] (h:lkM ke enc z q y K Hs) (I:Wt ops l g) (hx:opv l X=some (mv q)) (hy:opv l Y=some (ke y)) (J:(P.info? j).bind (·.zero)=some (enc z)) (k:∀ x b,K x b→XD m t P C ops Q n fuel (listed.setIfInBounds i true) ((d,enc x)::l) H Hs)
 (B:∀ c a v w,Q (.panic c) (a.put (some d) v) w→Q (.panic c) a w:=by exact fun _ _ _ _ h=>h) (G:okD m ops=true:=by kernel_rfl) (E:Region.free .any ops listed i=true:=by kernel_rfl) (F:(Region.ready .any ops listed).contains i=true:=by kernel_rfl) (f:itD m i=true:=by kernel_rfl) (D:Nat.blt d n.n=true:=by exact rfl) :
 XS m i ⟨some d,.lookup r X Y false,ty,pos,after,g⟩ t P C ops Q n fuel listed l H Hs:=by
 obtain ⟨x,b,A,u⟩:=h
 exact Sv I ⟨XA rfl A hx hy ht.e hk.ok J⟩ (k x b u) B G E F f D
theorem SK2 {r o j:TypeId} {X Y:Operand} {z:α} {q:Option Nat} {y:κ} {K:α→Bool→Prop} [ht:TyU P r (.map o j)] [hk:KOc P o ke] (h:lkM ke enc z q y K Hs) (I:Wt ops l g) (hx:opv l X=some (mv q)) (hy:opv l Y=some (ke y)) (J:(P.info? j).bind (·.zero)=some (enc z)) (k:∀ x b,K x b→XD m t P C ops Q n fuel (listed.setIfInBounds i true) ((d,.tuple #[enc x,.bool b])::l) H Hs)
 (B:∀ c a v w,Q (.panic c) (a.put (some d) v) w→Q (.panic c) a w:=by exact fun _ _ _ _ h=>h) (G:okD m ops=true:=by kernel_rfl) (E:Region.free .any ops listed i=true:=by kernel_rfl) (F:(Region.ready .any ops listed).contains i=true:=by kernel_rfl) (f:itD m i=true:=by kernel_rfl) (D:Nat.blt d n.n=true:=by exact rfl) :
 XS m i ⟨some d,.lookup r X Y true,ty,pos,after,g⟩ t P C ops Q n fuel listed l H Hs:=by
 obtain ⟨x,b,A,u⟩:=h
 exact Sv I ⟨XE rfl A hx hy ht.e hk.ok J⟩ (k x b u) B G E F f D
end
end
section
set_option maxRecDepth 100000
open Go
section
variable {P:Program} {C:Ctx} {H:Heap}
theorem AX {m:Nat} {c:Code} {l:List (Nat×Value)} {Q:Exit→Act→World→Prop} {S:Prop} (h:S)
 (k:S→XC P C Q ⟨m,[]⟩ c l H:=by
  intro h
  repeat (first
   | refine Lnil ?_
   | refine Lbk h (fun h=>?_)
   | exact Lj (fun _ _ h=>h) h
   | refine Lvmv (by first | exact trivial | exact Wy) (Xmove rfl) ?_
   | refine Lvas (by first | exact trivial | exact Wy) (Xassign rfl) ?_
   | refine Lvfa (by first | exact trivial | exact Wy) (XfieldAddr rfl) ?_
   | (show XL _ _ _ _ _ (⟨_,.load _ _,_,_,_,_⟩::_) _ _; first | refine LhA h (by first | exact trivial | exact Wy) rfl (fun _ h=>?_) | refine LhT h (by first | exact trivial | exact Wy) rfl (fun _=>rfl) (fun _ h=>?_))
   | (show XL _ _ _ _ _ (⟨_,.binOp .quo _ _ _ _,_,_,_,_⟩::_) _ _; refine LhQ h (by first | exact trivial | exact Wy) rfl rfl (fun h=>?_))
   | (show XL _ _ _ _ _ (⟨_,.binOp .rem _ _ _ _,_,_,_,_⟩::_) _ _; refine LhM h (by first | exact trivial | exact Wy) rfl rfl (fun h=>?_))
   | (show XL _ _ _ _ _ (⟨_,.binOp .shl _ _ _ _,_,_,_,_⟩::_) _ _; refine Lhl h (by first | exact trivial | exact Wy) rfl rfl (fun h=>?_))
   | (show XL _ _ _ _ _ (⟨_,.binOp .shr _ _ _ _,_,_,_,_⟩::_) _ _; refine Lhr h (by first | exact trivial | exact Wy) rfl rfl (fun h=>?_))
   | refine Lvbi (by first | exact trivial | exact Wy) (by first | exact Xadd rfl rfl | exact Xlt rfl rfl | exact Xeq rfl rfl | exact Xne rfl rfl | exact Xsub rfl rfl | exact Xgt rfl rfl | exact Xle rfl rfl | exact Xge rfl rfl | exact Xmul rfl rfl | exact XeqS rfl rfl | exact XneS rfl rfl | exact XltS rfl rfl | exact XgeS rfl rfl | exact XeqlBool rfl rfl | exact XneqBool rfl rfl | exact XeqlNil rfl rfl | exact XneqNil rfl rfl | exact XeqlSl rfl rfl | exact XneqSl rfl rfl | exact Xand rfl rfl | exact Xor_ rfl rfl | exact Xxor rfl rfl | exact Xandn rfl rfl | exact Xshl rfl rfl (by first | decide | assumption) | exact Xshr rfl rfl (by first | decide | assumption) | exact Xquo rfl rfl (by first | decide | assumption) | exact Xrem rfl rfl (by first | decide | assumption) | exact XeqT rfl rfl (by kernel_rfl) (by kernel_rfl) (fun _=>by kernel_rfl) | exact XneT rfl rfl (by kernel_rfl) (by kernel_rfl) (fun _=>by kernel_rfl)) ?_
   | (show XL _ _ _ _ _ (⟨_,.binOp .add _ _ _ _,_,_,_,_⟩::_) _ _; refine LhC h (by first | exact trivial | exact Wy) rfl rfl (fun h=>?_))
   | refine Lvcb (by first | exact trivial | exact Wy) (by first | exact XlenSl rfl | exact XlenStr rfl | exact Xcap rfl rfl | exact XmaxI rfl rfl | exact XminI rfl rfl | exact Xmax4 rfl rfl rfl rfl) ?_
   | refine Lvpk (by first | exact trivial | exact Wy) (by first | exact XpickT rfl (by first | assumption | rfl) rfl | exact XpickF rfl (by first | assumption | rfl) rfl) ?_
   | (show XL _ _ _ _ _ (⟨_,.indexAddr _ _ _,_,_,_,_⟩::_) _ _; first | refine LhX h (by first | exact trivial | exact Wy) rfl rfl (fun _ h=>?_) | refine LhR h (by first | exact trivial | exact Wy) rfl rfl (fun h=>?_))
   | refine Lvun (by first | exact trivial | exact Wy) (by first | exact Xnot rfl | exact Xiun rfl rfl) ?_
   | (show XL _ _ _ _ _ (⟨_,.index _ _ _,_,_,_,_⟩::_) _ _; refine LhS h (by first | exact trivial | exact Wy) rfl rfl (fun _ h=>?_))
   | (show XL _ _ _ _ _ (⟨_,.nilCheck _,_,_,_,_⟩::_) _ _; first | refine Lvnc (by first | exact trivial | exact Wy) (by first | exact XnilCheck rfl rfl | exact XnilCheckF rfl) ?_ | refine LhN h (by first | exact trivial | exact Wy) rfl (fun _ h=>?_))
   | refine Lvex (by first | exact trivial | exact Wy) (by first | exact Xextract rfl rfl) ?_
   | refine Lvmf (by first | exact trivial | exact Wy) (by first | exact XmakeFunc rfl rfl) ?_
   | refine Lvcv (by first | exact trivial | exact Wy) (by first | exact XconvInt rfl | exact XconvStr rfl) ?_
   | refine Lvmi (by first | exact trivial | exact Wy) (by first | exact XmakeInterface rfl (by kernel_rfl)) ?_
   | (show XL _ _ _ _ _ (⟨_,.slice _ _ _ _ _,_,_,_,_⟩::_) _ _; first | refine LhU h (by first | exact trivial | exact Wy) rfl rfl rfl rfl rfl (fun _ h=>?_) | refine LhL h (by first | exact trivial | exact Wy) rfl rfl rfl rfl rfl rfl rfl (fun h=>by first | rfl | cases h) (fun _ h=>?_))
   | refine Lskip (by first | exact Wz | exact Wu) ?_
   | refine Lskip0 (by first | exact Wz | exact Wu) ?_
   | (show XL _ _ _ _ _ (⟨_,.store _ _ _,_,_,_,_⟩::_) _ _; first | refine Lst h (by first | exact trivial | exact Wy) rfl rfl rfl (fun _ h=>?_) | refine LstT h (by first | exact trivial | exact Wy) rfl rfl rfl rfl (fun _ h=>?_))
   | (show XL _ _ _ _ _ (⟨_,.alloc _,_,_,_,_⟩::_) _ _; refine Lal h (by first | exact trivial | exact Wy) rfl rfl (fun _ _ h=>?_))
   | (show XL _ _ _ _ _ (⟨_,.box _ _,_,_,_,_⟩::_) _ _; first | refine Lbo h (by first | exact trivial | exact Wy) rfl rfl (fun _ _ h=>?_) | refine LboF h (by first | exact trivial | exact Wy) rfl (fun _ _ h=>?_))
   | (show XL _ _ _ _ _ (⟨_,.call { callee:=.value (.func _),args:=_,argTypes:=_ },_,_,_,_⟩::_) _ _; first | (refine Lca h (by first | exact trivial | exact Wy) rfl ?_; first | rintro _ _ ⟨rfl,h⟩ | rintro _ _ ⟨_,rfl,h⟩ | rintro _ _ ⟨_,_,rfl,h⟩ | rintro _ _ ⟨_,_,_,rfl,h⟩))
   | (show XL _ _ _ _ _ (⟨_,.buildSlice _ _ _,_,_,_,_⟩::_) _ _; first | refine LapL h (by first | exact trivial | exact Wy) (fun _=>rfl) (fun _=>rfl) rfl (Ilt fun _=>by kernel_rfl) ⟨⟨_,_,_,rfl,rfl,rfl,rfl,rfl,rfl⟩⟩ rfl (fun _ _ _ h=>?_) | refine Lbs h (by first | exact trivial | exact Wy) rfl (Ilt fun _=>by kernel_rfl) (fun _ _ h=>?_))
   | (show XL _ _ _ _ _ (⟨_,.call { callee:=.builtin .append,args:=_,argTypes:=_ },_,_,_,_⟩::_) _ _; first | refine LapS h (by first | exact trivial | exact Wy) rfl rfl ⟨⟨_,_,_,rfl,rfl,rfl,rfl,rfl,rfl⟩⟩ (fun _ _ h=>?_) | refine LapSt h (by first | exact trivial | exact Wy) rfl rfl ⟨⟨_,_,_,rfl,rfl,rfl,rfl,rfl,rfl⟩⟩ (fun _ _ h=>?_))
   | (show XL _ _ _ _ _ (⟨_,.call { callee:=.value (.tmp _),args:=_,argTypes:=_ },_,_,_,_⟩::_) _ _; first | (refine LcV rfl rfl h (by first | exact trivial | exact Wy) ?_; first | rintro _ _ ⟨rfl,h⟩ | rintro _ _ ⟨_,rfl,h⟩ | rintro _ _ ⟨_,_,rfl,h⟩ | rintro _ _ ⟨_,_,_,rfl,h⟩) | (refine LcU h (by first | exact trivial | exact Wy) rfl rfl ?_; first | rintro _ _ ⟨rfl,h⟩ | rintro _ _ ⟨_,rfl,h⟩ | rintro _ _ ⟨_,_,rfl,h⟩ | rintro _ _ ⟨_,_,_,rfl,h⟩))
   | (show XL _ _ _ _ _ (⟨_,.lookup _ _ _ _,_,_,_,_⟩::_) _ _; first | refine LK1 h (by first | exact trivial | exact Wy) rfl rfl rfl (fun _ _ h=>?_) | refine LK2 h (by first | exact trivial | exact Wy) rfl rfl rfl (fun _ _ h=>?_))
   | (show XL _ _ _ _ _ (⟨_,.makeMap _ none,_,_,_,_⟩::_) _ _; refine Lmm h (by first | exact trivial | exact Wy) (fun _ _ h=>?_))
   | (show XL _ _ _ _ _ (⟨_,.mapUpdate _ _ _ _,_,_,_,_⟩::_) _ _; refine Lmu h (by first | exact trivial | exact Wy) rfl rfl rfl (fun _ h=>?_))
   | (show XL _ _ _ _ _ (⟨_,.insert _ _ _ _,_,_,_,_⟩::_) _ _; refine Lmi h (by first | exact trivial | exact Wy) rfl rfl rfl (fun _ h=>?_))
   | refine Lhv h (by first | exact trivial | exact Wy) (by first | exact Xbuild rfl (fun _=>by kernel_rfl) | exact Xfield rfl (fun _=>by kernel_rfl)) (fun h=>?_)
   | exact Lju (by first | ((repeat refine ⟨rfl,?_⟩); exact trivial) | (refine ⟨by first | exact Iat (by assumption) rfl | exact Iaf (by assumption) rfl | exact Iot (by assumption) rfl | exact Iof (by assumption) rfl,?_⟩; (repeat refine ⟨rfl,?_⟩); exact trivial))
   | refine Lnto (fun _ _ h=>h) ?_
   | refine Dany h (by kernel_rfl) (by kernel_rfl) (fun _ h=>?_)
   | refine Dop rfl ?_
   | refine Dbr h (fun _ h=>?_) (fun _ h=>?_)
   | refine Dfk h rfl rfl (fun h=>?_) (fun h=>?_)
   | refine Dfk3 h rfl rfl rfl (fun h=>?_) (fun h=>?_) (fun h=>?_)
   | refine DdA ?_
   | refine DdT ?_
   | refine Ssk (by first | exact Wz | exact Wu) ?_
   | (show XS _ _ ⟨_,.call { callee:=.value _,args:=_,argTypes:=_ },_,_,_,_⟩ _ _ _ _ _ _ _ _ _ _ _; refine Sac ?_)
   | (show XS _ _ ⟨_,.call { callee:=.builtin .append,args:=_,argTypes:=_ },_,_,_,_⟩ _ _ _ _ _ _ _ _ _ _ _; refine Sac ?_)
   | (show XS _ _ ⟨_,.alloc _,_,_,_,_⟩ _ _ _ _ _ _ _ _ _ _ _; refine Sac ?_)
   | (show XS _ _ ⟨_,.box _ _,_,_,_,_⟩ _ _ _ _ _ _ _ _ _ _ _; refine Sac ?_)
   | (show XS _ _ ⟨_,.buildSlice _ _ _,_,_,_,_⟩ _ _ _ _ _ _ _ _ _ _ _; refine Sac ?_)
   | (show XS _ _ ⟨_,.store _ _ _,_,_,_,_⟩ _ _ _ _ _ _ _ _ _ _ _; refine Sac ?_)
   | (show XS _ _ ⟨_,.load _ _,_,_,_,_⟩ _ _ _ _ _ _ _ _ _ _ _; first | refine SA h (by first | exact trivial | exact Wy) rfl (fun _ h=>?_) | refine ST h (by first | exact trivial | exact Wy) rfl (fun _=>rfl) (fun _ h=>?_) | refine Sac ?_)
   | (show XS _ _ ⟨_,.indexAddr _ _ _,_,_,_,_⟩ _ _ _ _ _ _ _ _ _ _ _; refine SX h (by first | exact trivial | exact Wy) rfl rfl (fun _ h=>?_))
   | (show XS _ _ ⟨_,.nilCheck _,_,_,_,_⟩ _ _ _ _ _ _ _ _ _ _ _; first | refine Sv (by first | exact trivial | exact Wy) (by first | exact XnilCheck rfl rfl | exact XnilCheckF rfl) ?_ | refine SN h (by first | exact trivial | exact Wy) rfl (fun _ h=>?_))
   | (show XS _ _ ⟨_,.index _ _ _,_,_,_,_⟩ _ _ _ _ _ _ _ _ _ _ _; refine SS h (by first | exact trivial | exact Wy) rfl rfl (fun _ h=>?_))
   | (show XS _ _ ⟨_,.slice _ _ _ _ _,_,_,_,_⟩ _ _ _ _ _ _ _ _ _ _ _; first | refine SU h (by first | exact trivial | exact Wy) rfl rfl rfl rfl rfl (fun _ h=>?_) | refine SL h (by first | exact trivial | exact Wy) rfl rfl rfl rfl rfl rfl rfl (fun h=>by first | rfl | cases h) (fun _ h=>?_))
   | (show XS _ _ ⟨_,.binOp .add _ _ _ _,_,_,_,_⟩ _ _ _ _ _ _ _ _ _ _ _; refine SC h (by first | exact trivial | exact Wy) rfl rfl (fun h=>?_))
   | (show XS _ _ ⟨_,.lookup _ _ _ _,_,_,_,_⟩ _ _ _ _ _ _ _ _ _ _ _; first | refine SK1 h (by first | exact trivial | exact Wy) rfl rfl rfl (fun _ _ h=>?_) | refine SK2 h (by first | exact trivial | exact Wy) rfl rfl rfl (fun _ _ h=>?_))
   | (show XS _ _ ⟨_,.makeMap _ _,_,_,_,_⟩ _ _ _ _ _ _ _ _ _ _ _; refine Sac ?_)
   | (show XS _ _ ⟨_,.mapUpdate _ _ _ _,_,_,_,_⟩ _ _ _ _ _ _ _ _ _ _ _; refine Sac ?_)
   | (show XS _ _ ⟨_,.insert _ _ _ _,_,_,_,_⟩ _ _ _ _ _ _ _ _ _ _ _; refine Sac ?_)
   | (show XS _ _ ⟨_,.panic _,_,_,_,_⟩ _ _ _ _ _ _ _ _ _ _ _; refine Sac ?_)
   | refine Sv (by first | exact trivial | exact Wy) (by first | exact Xmove rfl | exact Xassign rfl | exact XfieldAddr rfl | exact Xadd rfl rfl | exact Xlt rfl rfl | exact Xeq rfl rfl | exact Xne rfl rfl | exact Xsub rfl rfl | exact Xgt rfl rfl | exact Xle rfl rfl | exact Xge rfl rfl | exact Xmul rfl rfl | exact XeqS rfl rfl | exact XneS rfl rfl | exact XltS rfl rfl | exact XgeS rfl rfl | exact XeqlBool rfl rfl | exact XneqBool rfl rfl | exact XeqlNil rfl rfl | exact XneqNil rfl rfl | exact XeqlSl rfl rfl | exact XneqSl rfl rfl | exact Xand rfl rfl | exact Xor_ rfl rfl | exact Xxor rfl rfl | exact Xandn rfl rfl | exact XlenSl rfl | exact XlenStr rfl | exact Xcap rfl rfl | exact XmaxI rfl rfl | exact XminI rfl rfl | exact Xmax4 rfl rfl rfl rfl | exact XpickT rfl (by first | assumption | rfl) rfl | exact XpickF rfl (by first | assumption | rfl) rfl | exact Xnot rfl | exact Xiun rfl rfl | exact Xextract rfl rfl | exact XmakeFunc rfl rfl | exact XconvInt rfl | exact XconvStr rfl | exact XmakeInterface rfl (by kernel_rfl) | exact XindexAddrA rfl rfl (by assumption) (by assumption)) ?_
   | refine Shv h (by first | exact trivial | exact Wy) (by first | exact Xbuild rfl (fun _=>by kernel_rfl) | exact Xfield rfl (fun _=>by kernel_rfl)) (fun h=>?_)
   | refine Qni ?_
   | refine Qsk (by first | exact Wz | exact Wu) ?_
   | (show XQ _ _ _ _ _ (⟨_,.load _ _,_,_,_,_⟩::_) _ _; first | refine QA h (by first | exact trivial | exact Wy) rfl (fun _ h=>?_) | refine QT h (by first | exact trivial | exact Wy) rfl (fun _=>rfl) (fun _ h=>?_))
   | (show XQ _ _ _ _ _ (⟨_,.indexAddr _ _ _,_,_,_,_⟩::_) _ _; refine QX h (by first | exact trivial | exact Wy) rfl rfl (fun _ h=>?_))
   | (show XQ _ _ _ _ _ (⟨_,.nilCheck _,_,_,_,_⟩::_) _ _; first | refine Qv (by first | exact trivial | exact Wy) (by first | exact XnilCheck rfl rfl | exact XnilCheckF rfl) ?_ | refine QN h (by first | exact trivial | exact Wy) rfl (fun _ h=>?_))
   | (show XQ _ _ _ _ _ (⟨_,.index _ _ _,_,_,_,_⟩::_) _ _; refine QS h (by first | exact trivial | exact Wy) rfl rfl (fun _ h=>?_))
   | (show XQ _ _ _ _ _ (⟨_,.slice _ _ _ _ _,_,_,_,_⟩::_) _ _; refine QU h (by first | exact trivial | exact Wy) rfl rfl rfl rfl rfl (fun _ h=>?_))
   | (show XQ _ _ _ _ _ (⟨_,.binOp .add _ _ _ _,_,_,_,_⟩::_) _ _; refine QC h (by first | exact trivial | exact Wy) rfl rfl (fun h=>?_))
   | (show XQ _ _ _ _ _ (⟨_,.lookup _ _ _ _,_,_,_,_⟩::_) _ _; first | refine QK1 h (by first | exact trivial | exact Wy) rfl rfl rfl (fun _ _ h=>?_) | refine QK2 h (by first | exact trivial | exact Wy) rfl rfl rfl (fun _ _ h=>?_))
   | refine Qv (by first | exact trivial | exact Wy) (by first | exact Xmove rfl | exact Xassign rfl | exact XfieldAddr rfl | exact Xadd rfl rfl | exact Xlt rfl rfl | exact Xeq rfl rfl | exact Xne rfl rfl | exact Xsub rfl rfl | exact Xgt rfl rfl | exact Xle rfl rfl | exact Xge rfl rfl | exact Xmul rfl rfl | exact XeqS rfl rfl | exact XneS rfl rfl | exact XltS rfl rfl | exact XgeS rfl rfl | exact XeqlBool rfl rfl | exact XneqBool rfl rfl | exact XeqlNil rfl rfl | exact XneqNil rfl rfl | exact XeqlSl rfl rfl | exact XneqSl rfl rfl | exact Xand rfl rfl | exact Xor_ rfl rfl | exact Xxor rfl rfl | exact Xandn rfl rfl | exact XlenSl rfl | exact XlenStr rfl | exact Xcap rfl rfl | exact XmaxI rfl rfl | exact XminI rfl rfl | exact Xmax4 rfl rfl rfl rfl | exact XpickT rfl (by first | assumption | rfl) rfl | exact XpickF rfl (by first | assumption | rfl) rfl | exact Xnot rfl | exact Xiun rfl rfl | exact Xextract rfl rfl | exact XmakeFunc rfl rfl | exact XconvInt rfl | exact XconvStr rfl | exact XmakeInterface rfl (by kernel_rfl) | exact XindexAddrA rfl rfl (by assumption) (by assumption) | exact XeqT rfl rfl (by kernel_rfl) (by kernel_rfl) (fun _=>by kernel_rfl) | exact XneT rfl rfl (by kernel_rfl) (by kernel_rfl) (fun _=>by kernel_rfl)) ?_
   | refine Qhv h (by first | exact trivial | exact Wy) (by first | exact Xbuild rfl (fun _=>by kernel_rfl) | exact Xfield rfl (fun _=>by kernel_rfl)) (fun h=>?_)
   | refine Qhn h rfl rfl (fun _ h=>?_) (fun _=>?_) (fun h=>?_)
   | refine Cjn h (by decide +kernel) (fun _ h=>?_) (fun _ _ h=>?_)
   | refine Cme h (fun _ h=>?_) (fun _ _ h=>?_)
   | refine Cdw (by kernel_rfl) (by kernel_rfl) ?_
   | refine Cseq ?_
   | refine Crg ?_
   | refine Cbl ?_
   | refine Ccd h rfl (fun _ h=>?_) (fun _ h=>?_)
   | refine Clp h (fun _ _ _ h=>?_)
   | refine Csk ?_
   | exact Cex (fun _ _ h=>h) h
   | refine Ceto (fun _ _ h=>h) ?_
   | exact Csj (fun _ _ h=>h) h
   | refine Csto (fun _ _ h=>h) ?_
   | exact Cr1 I3 rfl rfl ⟨_,rfl,h⟩
   | exact Cr2 I3 rfl rfl rfl ⟨_,_,rfl,h⟩
   | exact Cr3 I3 rfl rfl rfl rfl ⟨_,_,_,rfl,h⟩
   | (show XC _ _ _ _ .ret _ _; (repeat (first | obtain ⟨_,_,h⟩:=Dl h | obtain ⟨_,_,h⟩:=Dt h)); first | exact Rs1 I3 rfl ⟨_,rfl,h⟩ (by first | exact RV.tmp rfl | exact RV.cell rfl rfl (by assumption) | exact Xn rfl rfl rfl (by assumption)) | exact Rs2 I3 rfl ⟨_,_,rfl,h⟩ (by first | exact RV.tmp rfl | exact RV.cell rfl rfl (by assumption) | exact Xn rfl rfl rfl (by assumption)) (by first | exact RV.tmp rfl | exact RV.cell rfl rfl (by assumption) | exact Xn rfl rfl rfl (by assumption)) | exact Rs3 I3 rfl ⟨_,_,_,rfl,h⟩ (by first | exact RV.tmp rfl | exact RV.cell rfl rfl (by assumption) | exact Xn rfl rfl rfl (by assumption)) (by first | exact RV.tmp rfl | exact RV.cell rfl rfl (by assumption) | exact Xn rfl rfl rfl (by assumption)) (by first | exact RV.tmp rfl | exact RV.cell rfl rfl (by assumption) | exact Xn rfl rfl rfl (by assumption)))
   | exact Crt (fun _ _ hf hs=>Qd5 rfl hf hs ⟨rfl,h⟩)
   | exact Cse (fun _ _ hf hs=>Qd5 rfl hf hs ⟨rfl,h⟩)
   | exact Cee (fun _ _ hf hs=>Qd5 rfl hf hs ⟨rfl,h⟩)
   | exact Lend (fun _ _ hf hs=>Qd5 rfl hf hs ⟨rfl,h⟩)
   | (show XL _ _ _ _ _ (⟨_,.call { callee:=.value (.func _),args:=_,argTypes:=_ },_,_,_,_⟩::_) _ _; refine LcP h (fun _ _ _ _ h=>h) (by first | exact trivial | exact Wy) rfl ?_; first | rintro _ _ ⟨rfl,h⟩ | rintro _ _ ⟨_,rfl,h⟩ | rintro _ _ ⟨_,_,rfl,h⟩ | rintro _ _ ⟨_,_,_,rfl,h⟩)
   | (show XL _ _ _ _ _ (⟨_,.panic _,_,_,_,_⟩::_) _ _; exact Lpa h (fun _ _ _ _ h=>h) (by first | exact trivial | exact Wy) rfl)
   | exact Pr0 (fun _ _ h=>h) rfl ⟨rfl,h⟩
   | exact Pr1 (fun _ _ h=>h) rfl rfl ⟨_,rfl,h⟩
   | (show XC _ _ _ _ .ret _ _; (repeat (first | obtain ⟨_,_,h⟩:=Dl h | obtain ⟨_,_,h⟩:=Dt h)); exact Pr2 (fun _ _ h=>h) rfl ⟨_,rfl,h⟩ (by first | exact RV.tmp rfl | exact RV.cell rfl rfl (by assumption) | exact Xn rfl rfl rfl (by assumption)))
   | exact Pse (fun _ _ h=>h) rfl ⟨rfl,h⟩
   | exact Pee (fun _ _ h=>h) rfl ⟨rfl,h⟩
   | exact Ple (fun _ _ h=>h) rfl ⟨rfl,h⟩
   | refine Lhn h rfl rfl (fun _ h=>?_) (fun _=>?_) (fun h=>?_)
   | refine Lcu h (fun _ h=>?_) (fun _ _ h=>?_)
   | refine (ift.em h).elim (fun ⟨_,h⟩=>?_) (fun ⟨_,h⟩=>?_)
   | exact Cnv h)):XC P C Q ⟨m,[]⟩ c l H:=k h
theorem AE {f m:Nat} {b:Func} {c:Code} {args:List Value} {Φ:Value→HP} {S:Prop} (h:S) (i:P.funcs[f]? = some b) (g:b.body=some c) (hn:b.ntmps=m)
 (k:XC P C (SpecPost P C b Φ) ⟨m,[]⟩ c (aF 0 args) H:=by exact AX h)
 (d:Nat.ble args.length m=true:=by exact rfl):Spec P C f args H Φ:=Spec.enter i g hn d (by rw [show argFrame args=aF 0 args from QwH args 0]; exact k.go)
theorem AP {f m:Nat} {b:Func} {c:Code} {args:List Value} {Φ E:Value→HP} {S:Prop} (h:S) (i:P.funcs[f]? = some b) (g:b.body=some c) (hn:b.ntmps=m)
 (k:XC P C (SpecPostP P C b Φ E) ⟨m,[]⟩ c (aF 0 args) H:=by exact AX h)
 (d:Nat.ble args.length m=true:=by exact rfl):SpecP P C f args H Φ E:=SpecP.enter i g hn d (by rw [show argFrame args=aF 0 args from QwH args 0]; exact k.go)
end
end
section
set_option maxRecDepth 100000
set_option maxHeartbeats 4000000
open Go Go.Proofs
abbrev P0:=Tryz.prog
structure Qa where
 Name:Str
 Imports:Sl
 Types:Sl
 Rels:Sl
 Rules:Sl
 Nevers:Sl
def Qa.c (x:Qa):List Value:=[sv x.Name,slv x.Imports,slv x.Types,slv x.Rels,slv x.Rules,slv x.Nevers]
def Qa.zero:Qa:=⟨[],Sl.nil,Sl.nil,Sl.nil,Sl.nil,Sl.nil⟩
structure Qk where
 Line:Int
 Col:Int
def Qk.c (x:Qk):List Value:=[.int .i64 x.Line,.int .i64 x.Col]
def Qk.zero:Qk:=⟨0,0⟩
structure Qc where
 Module:Str
 Pos:Qk
def Qc.c (x:Qc):List Value:=[sv x.Module,.int .i64 x.Pos.Line,.int .i64 x.Pos.Col]
def Qc.zero:Qc:=⟨[],Qk.zero⟩
structure Qi where
 Pos:Qk
 Rel:Str
 Args:Sl
 Aggs:Sl
 Body:Sl
def Qi.c (x:Qi):List Value:=[.int .i64 x.Pos.Line,.int .i64 x.Pos.Col,sv x.Rel,slv x.Args,slv x.Aggs,slv x.Body]
def Qi.zero:Qi:=⟨Qk.zero,[],Sl.nil,Sl.nil,Sl.nil⟩
structure Qb where
 at_:Qc
 e_:Int
def Qb.c (x:Qb):List Value:=[sv x.at_.Module,.int .i64 x.at_.Pos.Line,.int .i64 x.at_.Pos.Col,.int .i64 x.e_]
def Qb.zero:Qb:=⟨Qc.zero,0⟩
structure Qf where
 Name:Str
 Args:Sl
def Qf.c (x:Qf):List Value:=[sv x.Name,slv x.Args]
def Qf.zero:Qf:=⟨[],Sl.nil⟩
structure Qq where
 Pos:Qk
 Name:Str
def Qq.c (x:Qq):List Value:=[.int .i64 x.Pos.Line,.int .i64 x.Pos.Col,sv x.Name]
def Qq.zero:Qq:=⟨Qk.zero,[]⟩
structure Qd where
 Pos:Qk
 Pub:Bool
 Name:Str
 Params:Sl
 Cons:Sl
def Qd.c (x:Qd):List Value:=[.int .i64 x.Pos.Line,.int .i64 x.Pos.Col,.bool x.Pub,sv x.Name,slv x.Params,slv x.Cons]
def Qd.zero:Qd:=⟨Qk.zero,false,[],Sl.nil,Sl.nil⟩
structure Qh where
 Pos:Qk
 Pub:Bool
 Input:Bool
 Name:Str
 Fields:Sl
def Qh.c (x:Qh):List Value:=[.int .i64 x.Pos.Line,.int .i64 x.Pos.Col,.bool x.Pub,.bool x.Input,sv x.Name,slv x.Fields]
def Qh.zero:Qh:=⟨Qk.zero,false,false,[],Sl.nil⟩
structure Qo where
 Pos:Qk
 Name:Str
 Body:Sl
def Qo.c (x:Qo):List Value:=[.int .i64 x.Pos.Line,.int .i64 x.Pos.Col,sv x.Name,slv x.Body]
def Qo.zero:Qo:=⟨Qk.zero,[],Sl.nil⟩
structure Qm where
 Kind:Int
 Pos:Qk
 Rel:Str
 Args:Sl
def Qm.c (x:Qm):List Value:=[.int .u8 x.Kind,.int .i64 x.Pos.Line,.int .i64 x.Pos.Col,sv x.Rel,slv x.Args]
def Qm.zero:Qm:=⟨0,Qk.zero,[],Sl.nil⟩
structure Qj where
 Name:Str
 Fields:Sl
def Qj.c (x:Qj):List Value:=[sv x.Name,slv x.Fields]
def Qj.zero:Qj:=⟨[],Sl.nil⟩
structure Qg where
 Kind:Int
 N:Int
 S:Str
 L:Sl
def Qg.c (x:Qg):List Value:=[.int .u8 x.Kind,.int .i64 x.N,sv x.S,slv x.L]
def Qg.zero:Qg:=⟨0,0,[],Sl.nil⟩
structure Qe where
 Kind:Int
 Pos:Qk
 Name:Str
 Value_:Qg
 Args:Sl
def Qe.c (x:Qe):List Value:=[.int .u8 x.Kind,.int .i64 x.Pos.Line,.int .i64 x.Pos.Col,sv x.Name,.int .u8 x.Value_.Kind,.int .i64 x.Value_.N,sv x.Value_.S,slv x.Value_.L,slv x.Args]
def Qe.zero:Qe:=⟨0,Qk.zero,[],Qg.zero,Sl.nil⟩
structure Ql where
 Name:Str
 Type_:Qf
def Ql.c (x:Ql):List Value:=[sv x.Name,sv x.Type_.Name,slv x.Type_.Args]
def Ql.zero:Ql:=⟨[],Qf.zero⟩
structure Q8 where
 l_:Sl
 told_:Option Nat
def Q8.c (x:Q8):List Value:=[slv x.l_,mv x.told_]
structure Qs where
 at_:Qc
 e_:Int
def Qs.c (x:Qs):List Value:=[sv x.at_.Module,.int .i64 x.at_.Pos.Line,.int .i64 x.at_.Pos.Col,.int .i64 x.e_]
def Qs.zero:Qs:=⟨Qc.zero,0⟩
structure Qb9 where
 addr_:Option (Nat×Nat)
 buf_:Sl
def Qb9.zero:Qb9:=⟨none,Sl.nil⟩
structure Qdw where
 Builder:Qb9
def Qdw.c (x:Qdw):List Value:=[pv x.Builder.addr_,slv x.Builder.buf_]
structure Qy where
 mod_:Str
 own_:Str
 kind_:Int
def Qy.c (x:Qy):List Value:=[sv x.mod_,sv x.own_,.int .i64 x.kind_]
def Qy.zero:Qy:=⟨[],[],0⟩
structure Qpe where
 lo_:Int
 hi_:Int
instance:OkC P0 4:=⟨okx Tryz.func4⟩
instance:OkC P0 12:=⟨okx Tryz.func12⟩
instance:OkC P0 13:=⟨okx Tryz.func13⟩
instance:OkC P0 14:=⟨okx Tryz.func14⟩
instance:OkC P0 15:=⟨okx Tryz.func15⟩
instance:OkC P0 16:=⟨okx Tryz.func16⟩
instance:OkC P0 17:=⟨okx Tryz.func17⟩
instance:OkC P0 18:=⟨okx Tryz.func18⟩
instance:OkC P0 19:=⟨okx Tryz.func19⟩
theorem Qmm:CallOk P0 20:=okx Tryz.func20
instance:OkC P0 20:=⟨Qmm⟩
theorem QaB:CallOk P0 21:=okx Tryz.func21
instance:OkC P0 21:=⟨QaB⟩
theorem Qeu:CallOk P0 22:=okx Tryz.func22
instance:OkC P0 22:=⟨Qeu⟩
theorem QdZ:CallOk P0 23:=okx Tryz.func23
instance:OkC P0 23:=⟨QdZ⟩
theorem Qe8:CallOk P0 24:=okx Tryz.func24
instance:OkC P0 24:=⟨Qe8⟩
theorem Qev:CallOk P0 25:=okx Tryz.func25
instance:OkC P0 25:=⟨Qev⟩
theorem Qfv:CallOk P0 26:=okx Tryz.func26
instance:OkC P0 26:=⟨Qfv⟩
instance:OkC P0 27:=⟨okx Tryz.func27⟩
instance:OkC P0 28:=⟨okx Tryz.func28⟩
theorem Qml:CallOk P0 29:=okx Tryz.func29
instance:OkC P0 29:=⟨Qml⟩
instance:OkC P0 30:=⟨okx Tryz.func30⟩
instance:OkC P0 31:=⟨okx Tryz.func31⟩
instance:OkC P0 32:=⟨okx Tryz.func32⟩
instance:OkC P0 33:=⟨okx Tryz.func33⟩
instance:OkC P0 34:=⟨okx Tryz.func34⟩
instance:OkC P0 35:=⟨okx Tryz.func35⟩
instance:OkC P0 36:=⟨okx Tryz.func36⟩
instance:OkC P0 37:=⟨okx Tryz.func37⟩
instance:OkC P0 38:=⟨okx Tryz.func38⟩
instance:OkC P0 39:=⟨okx Tryz.func39⟩
theorem QnA:CallOk P0 40:=okx Tryz.func40
instance:OkC P0 40:=⟨QnA⟩
instance:OkC P0 41:=⟨okx Tryz.func41⟩
theorem Qkd:CallOk P0 42:=okx Tryz.func42
instance:OkC P0 42:=⟨Qkd⟩
instance:OkC P0 43:=⟨okx Tryz.func43⟩
theorem Qkm:CallOk P0 44:=okx Tryz.func44
instance:OkC P0 44:=⟨Qkm⟩
instance:OkC P0 45:=⟨okx Tryz.func45⟩
theorem Qke:CallOk P0 46:=okx Tryz.func46
instance:OkC P0 46:=⟨Qke⟩
instance:OkC P0 47:=⟨okx Tryz.func47⟩
instance:OkC P0 48:=⟨okx Tryz.func48⟩
theorem QnB:CallOk P0 49:=okx Tryz.func49
instance:OkC P0 49:=⟨QnB⟩
instance:OkC P0 50:=⟨okx Tryz.func50⟩
theorem Qkf:CallOk P0 51:=okx Tryz.func51
instance:OkC P0 51:=⟨Qkf⟩
instance:OkC P0 52:=⟨okx Tryz.func52⟩
theorem Qkk:CallOk P0 53:=okx Tryz.func53
instance:OkC P0 53:=⟨Qkk⟩
theorem Qkg:CallOk P0 54:=okx Tryz.func54
instance:OkC P0 54:=⟨Qkg⟩
theorem Qkh:CallOk P0 55:=okx Tryz.func55
instance:OkC P0 55:=⟨Qkh⟩
instance:OkC P0 56:=⟨okx Tryz.func56⟩
instance:OkC P0 57:=⟨okx Tryz.func57⟩
instance:OkC P0 58:=⟨okx Tryz.func58⟩
theorem Qdk:CallOk P0 59:=okx Tryz.func59
instance:OkC P0 59:=⟨Qdk⟩
instance:OkC P0 60:=⟨okx Tryz.func60⟩
instance:OkC P0 61:=⟨okx Tryz.func61⟩
instance:OkC P0 62:=⟨okx Tryz.func62⟩
instance:OkC P0 63:=⟨okx Tryz.func63⟩
theorem Qd0:CallOk P0 64:=okx Tryz.func64
instance:OkC P0 64:=⟨Qd0⟩
instance:OkC P0 65:=⟨okx Tryz.func65⟩
instance:OkC P0 66:=⟨okx Tryz.func66⟩
instance:OkC P0 67:=⟨okx Tryz.func67⟩
instance:OkC P0 68:=⟨okx Tryz.func68⟩
instance:OkC P0 69:=⟨okx Tryz.func69⟩
instance:OkC P0 70:=⟨okx Tryz.func70⟩
instance:OkC P0 71:=⟨okx Tryz.func71⟩
theorem Qgs:CallOk P0 72:=okx Tryz.func72
instance:OkC P0 72:=⟨Qgs⟩
theorem Qfc:CallOk P0 73:=okx Tryz.func73
instance:OkC P0 73:=⟨Qfc⟩
theorem Qki:CallOk P0 74:=okx Tryz.func74
instance:OkC P0 74:=⟨Qki⟩
theorem QeA:CallOk P0 75:=okx Tryz.func75
instance:OkC P0 75:=⟨QeA⟩
theorem QfB:CallOk P0 76:=okx Tryz.func76
instance:OkC P0 76:=⟨QfB⟩
theorem Qfd:CallOk P0 77:=okx Tryz.func77
instance:OkC P0 77:=⟨Qfd⟩
theorem Qf2:CallOk P0 78:=okx Tryz.func78
instance:OkC P0 78:=⟨Qf2⟩
theorem Qf1:CallOk P0 79:=okx Tryz.func79
instance:OkC P0 79:=⟨Qf1⟩
theorem QgY:CallOk P0 80:=okx Tryz.func80
instance:OkC P0 80:=⟨QgY⟩
theorem Qfz:CallOk P0 81:=okx Tryz.func81
instance:OkC P0 81:=⟨Qfz⟩
theorem Qkj:CallOk P0 82:=okx Tryz.func82
instance:OkC P0 82:=⟨Qkj⟩
instance:OkC P0 83:=⟨okx Tryz.func83⟩
theorem QfA:CallOk P0 84:=okx Tryz.func84
instance:OkC P0 84:=⟨QfA⟩
instance:OkC P0 85:=⟨okx Tryz.func85⟩
theorem Qb1:CallOk P0 86:=okx Tryz.func86
instance:OkC P0 86:=⟨Qb1⟩
instance:OkC P0 87:=⟨okx Tryz.func87⟩
instance:OkC P0 88:=⟨okx Tryz.func88⟩
instance:OkC P0 89:=⟨okx Tryz.func89⟩
instance:OkC P0 90:=⟨okx Tryz.func90⟩
instance:OkC P0 91:=⟨okx Tryz.func91⟩
instance:OkC P0 92:=⟨okx Tryz.func92⟩
instance:OkC P0 93:=⟨okx Tryz.func93⟩
instance:OkC P0 94:=⟨okx Tryz.func94⟩
instance:OkC P0 95:=⟨okx Tryz.func95⟩
instance:OkC P0 96:=⟨okx Tryz.func96⟩
instance:OkC P0 97:=⟨okx Tryz.func97⟩
instance:OkC P0 98:=⟨okx Tryz.func98⟩
instance:OkC P0 99:=⟨okx Tryz.func99⟩
instance:OkC P0 100:=⟨okx Tryz.func100⟩
instance:OkC P0 101:=⟨okx Tryz.func101⟩
instance:OkC P0 102:=⟨okx Tryz.func102⟩
instance:OkC P0 103:=⟨okx Tryz.func103⟩
instance:OkC P0 104:=⟨okx Tryz.func104⟩
theorem Qlb:CallOk P0 105:=okx Tryz.func105
instance:OkC P0 105:=⟨Qlb⟩
instance:OkC P0 106:=⟨okx Tryz.func106⟩
theorem Qjf:CallOk P0 107:=okx Tryz.func107
instance:OkC P0 107:=⟨Qjf⟩
instance:OkC P0 108:=⟨okx Tryz.func108⟩
theorem Qhk:CallOk P0 109:=okx Tryz.func109
instance:OkC P0 109:=⟨Qhk⟩
instance:OkC P0 110:=⟨okx Tryz.func110⟩
theorem Qlc:CallOk P0 111:=okx Tryz.func111
instance:OkC P0 111:=⟨Qlc⟩
instance:OkC P0 112:=⟨okx Tryz.func112⟩
theorem Qld:CallOk P0 113:=okx Tryz.func113
instance:OkC P0 113:=⟨Qld⟩
instance:OkC P0 114:=⟨okx Tryz.func114⟩
theorem Qi6:CallOk P0 115:=okx Tryz.func115
instance:OkC P0 115:=⟨Qi6⟩
instance:OkC P0 116:=⟨okx Tryz.func116⟩
theorem Qgr:CallOk P0 117:=okx Tryz.func117
instance:OkC P0 117:=⟨Qgr⟩
instance:OkC P0 118:=⟨okx Tryz.func118⟩
theorem Qle:CallOk P0 119:=okx Tryz.func119
instance:OkC P0 119:=⟨Qle⟩
instance:OkC P0 120:=⟨okx Tryz.func120⟩
instance:OkC P0 121:=⟨okx Tryz.func121⟩
theorem Qey:CallOk P0 122:=okx Tryz.func122
instance:OkC P0 122:=⟨Qey⟩
instance:OkC P0 123:=⟨okx Tryz.func123⟩
theorem Qd4:CallOk P0 124:=okx Tryz.func124
instance:OkC P0 124:=⟨Qd4⟩
instance:OkC P0 125:=⟨okx Tryz.func125⟩
theorem Qmo:CallOk P0 126:=okx Tryz.func126
instance:OkC P0 126:=⟨Qmo⟩
instance:OkC P0 127:=⟨okx Tryz.func127⟩
theorem Qil:CallOk P0 128:=okx Tryz.func128
instance:OkC P0 128:=⟨Qil⟩
instance:OkC P0 129:=⟨okx Tryz.func129⟩
theorem Qez:CallOk P0 130:=okx Tryz.func130
instance:OkC P0 130:=⟨Qez⟩
instance:OkC P0 131:=⟨okx Tryz.func131⟩
theorem Qjg:CallOk P0 132:=okx Tryz.func132
instance:OkC P0 132:=⟨Qjg⟩
theorem Qmp:CallOk P0 133:=okx Tryz.func133
instance:OkC P0 133:=⟨Qmp⟩
instance:OkC P0 134:=⟨okx Tryz.func134⟩
theorem Qfx:CallOk P0 135:=okx Tryz.func135
instance:OkC P0 135:=⟨Qfx⟩
theorem Qnz:CallOk P0 136:=okx Tryz.func136
instance:OkC P0 136:=⟨Qnz⟩
theorem Qgp:CallOk P0 137:=okx Tryz.func137
instance:OkC P0 137:=⟨Qgp⟩
theorem Qny:CallOk P0 138:=okx Tryz.func138
instance:OkC P0 138:=⟨Qny⟩
theorem Qlg:CallOk P0 139:=okx Tryz.func139
instance:OkC P0 139:=⟨Qlg⟩
instance:OkC P0 140:=⟨okx Tryz.func140⟩
theorem Qfb:CallOk P0 141:=okx Tryz.func141
instance:OkC P0 141:=⟨Qfb⟩
instance:OkC P0 142:=⟨okx Tryz.func142⟩
theorem Qd3:CallOk P0 143:=okx Tryz.func143
instance:OkC P0 143:=⟨Qd3⟩
theorem Qkl:CallOk P0 144:=okx Tryz.func144
instance:OkC P0 144:=⟨Qkl⟩
theorem Qjh:CallOk P0 145:=okx Tryz.func145
instance:OkC P0 145:=⟨Qjh⟩
instance:OkC P0 146:=⟨okx Tryz.func146⟩
theorem Qes:CallOk P0 147:=okx Tryz.func147
instance:OkC P0 147:=⟨Qes⟩
instance:OkC P0 148:=⟨okx Tryz.func148⟩
theorem Qdl:CallOk P0 149:=okx Tryz.func149
instance:OkC P0 149:=⟨Qdl⟩
instance:OkC P0 150:=⟨okx Tryz.func150⟩
instance:OkC P0 151:=⟨okx Tryz.func151⟩
instance:OkC P0 152:=⟨okx Tryz.func152⟩
theorem Qje:CallOk P0 153:=okx Tryz.func153
instance:OkC P0 153:=⟨Qje⟩
instance:OkC P0 154:=⟨okx Tryz.func154⟩
instance:OkC P0 155:=⟨okx Tryz.func155⟩
instance:OkC P0 156:=⟨okx Tryz.func156⟩
theorem Qet:CallOk P0 157:=okx Tryz.func157
instance:OkC P0 157:=⟨Qet⟩
instance:OkC P0 158:=⟨okx Tryz.func158⟩
instance:OkC P0 159:=⟨okx Tryz.func159⟩
instance:OkC P0 160:=⟨okx Tryz.func160⟩
theorem QeB:CallOk P0 161:=okx Tryz.func161
instance:OkC P0 161:=⟨QeB⟩
instance:OkC P0 162:=⟨okx Tryz.func162⟩
theorem QeC:CallOk P0 163:=okx Tryz.func163
instance:OkC P0 163:=⟨QeC⟩
instance:OkC P0 164:=⟨okx Tryz.func164⟩
theorem Qfe:CallOk P0 165:=okx Tryz.func165
instance:OkC P0 165:=⟨Qfe⟩
instance:OkC P0 166:=⟨okx Tryz.func166⟩
instance:OkC P0 167:=⟨okx Tryz.func167⟩
theorem Qf3:CallOk P0 168:=okx Tryz.func168
instance:OkC P0 168:=⟨Qf3⟩
theorem Qem:CallOk P0 169:=okx Tryz.func169
instance:OkC P0 169:=⟨Qem⟩
theorem QbB:CallOk P0 170:=okx Tryz.func170
instance:OkC P0 170:=⟨QbB⟩
instance:OkC P0 171:=⟨okx Tryz.func171⟩
instance:OkC P0 172:=⟨okx Tryz.func172⟩
instance:OkC P0 173:=⟨okx Tryz.func173⟩
instance:OkC P0 174:=⟨okx Tryz.func174⟩
instance:OkC P0 175:=⟨okx Tryz.func175⟩
instance:OkC P0 176:=⟨okx Tryz.func176⟩
instance:OkC P0 177:=⟨okx Tryz.func177⟩
instance:OkC P0 178:=⟨okx Tryz.func178⟩
instance:OkC P0 179:=⟨okx Tryz.func179⟩
instance:OkC P0 180:=⟨okx Tryz.func180⟩
instance:OkC P0 181:=⟨okx Tryz.func181⟩
instance:OkC P0 182:=⟨okx Tryz.func182⟩
instance:OkC P0 183:=⟨okx Tryz.func183⟩
instance:OkC P0 184:=⟨okx Tryz.func184⟩
instance:OkC P0 185:=⟨okx Tryz.func185⟩
theorem Qim:CallOk P0 186:=okx Tryz.func186
instance:OkC P0 186:=⟨Qim⟩
instance:OkC P0 187:=⟨okx Tryz.func187⟩
instance:OkC P0 188:=⟨okx Tryz.func188⟩
instance:OkC P0 189:=⟨okx Tryz.func189⟩
theorem Qgq:CallOk P0 190:=okx Tryz.func190
instance:OkC P0 190:=⟨Qgq⟩
theorem Qd2:CallOk P0 191:=okx Tryz.func191
instance:OkC P0 191:=⟨Qd2⟩
instance:OkC P0 192:=⟨okx Tryz.func192⟩
theorem QdK:CallOk P0 193:=okx Tryz.func193
instance:OkC P0 193:=⟨QdK⟩
instance:OkC P0 194:=⟨okx Tryz.func194⟩
instance:OkC P0 195:=⟨okx Tryz.func195⟩
instance:OkC P0 196:=⟨okx Tryz.func196⟩
theorem Qfw:CallOk P0 197:=okx Tryz.func197
instance:OkC P0 197:=⟨Qfw⟩
instance:OkC P0 198:=⟨okx Tryz.func198⟩
instance:OkC P0 199:=⟨okx Tryz.func199⟩
instance:OkC P0 200:=⟨okx Tryz.func200⟩
instance:OkC P0 201:=⟨okx Tryz.func201⟩
instance:OkC P0 202:=⟨okx Tryz.func202⟩
theorem Qjd:CallOk P0 203:=okx Tryz.func203
instance:OkC P0 203:=⟨Qjd⟩
instance:OkC P0 204:=⟨okx Tryz.func204⟩
instance:OkC P0 205:=⟨okx Tryz.func205⟩
instance:OkC P0 206:=⟨okx Tryz.func206⟩
theorem Qhl:CallOk P0 207:=okx Tryz.func207
instance:OkC P0 207:=⟨Qhl⟩
instance:OkC P0 208:=⟨okx Tryz.func208⟩
instance:OkC P0 209:=⟨okx Tryz.func209⟩
instance:OkC P0 210:=⟨okx Tryz.func210⟩
instance:OkC P0 211:=⟨okx Tryz.func211⟩
instance:OkC P0 213:=⟨okx Tryz.func213⟩
instance:OkC P0 214:=⟨okx Tryz.func214⟩
instance:OkC P0 215:=⟨okx Tryz.func215⟩
instance:OkC P0 216:=⟨okx Tryz.func216⟩
instance:OkC P0 217:=⟨okx Tryz.func217⟩
instance:OkC P0 218:=⟨okx Tryz.func218⟩
instance:OkC P0 219:=⟨okx Tryz.func219⟩
instance:OkC P0 220:=⟨okx Tryz.func220⟩
instance:OkC P0 221:=⟨okx Tryz.func221⟩
instance:OkC P0 222:=⟨okx Tryz.func222⟩
theorem Qfy:CallOk P0 223:=okx Tryz.func223
instance:OkC P0 223:=⟨Qfy⟩
instance:OkC P0 224:=⟨okx Tryz.func224⟩
theorem QhS:CallOk P0 225:=okx Tryz.func225
instance:OkC P0 225:=⟨QhS⟩
theorem Qmn:CallOk P0 226:=okx Tryz.func226
instance:OkC P0 226:=⟨Qmn⟩
theorem QnC:CallOk P0 227:=okx Tryz.func227
instance:OkC P0 227:=⟨QnC⟩
theorem Qlf:CallOk P0 228:=okx Tryz.func228
instance:OkC P0 228:=⟨Qlf⟩
instance:OkC P0 229:=⟨okx Tryz.func229⟩
instance:OkC P0 230:=⟨okx Tryz.func230⟩
theorem Qkn:CallOk P0 231:=okx Tryz.func231
instance:OkC P0 231:=⟨Qkn⟩
theorem Qko:CallOk P0 232:=okx Tryz.func232
instance:OkC P0 232:=⟨Qko⟩
instance:OkC P0 233:=⟨okx Tryz.func233⟩
instance:OkC P0 234:=⟨okx Tryz.func234⟩
instance:OkC P0 235:=⟨okx Tryz.func235⟩
instance:OkC P0 236:=⟨okx Tryz.func236⟩
instance:OkC P0 237:=⟨okx Tryz.func237⟩
instance:OkC P0 238:=⟨okx Tryz.func238⟩
instance:OkC P0 239:=⟨okx Tryz.func239⟩
instance:OkC P0 240:=⟨okx Tryz.func240⟩
theorem QaT:CallOk P0 241:=okx Tryz.func241
instance:OkC P0 241:=⟨QaT⟩
theorem Qdj:CallOk P0 243:=okx Tryz.func243
instance:OkC P0 243:=⟨Qdj⟩
theorem Qa9:CallOk P0 244:=okx Tryz.func244
instance:OkC P0 244:=⟨Qa9⟩
instance:OkC P0 245:=⟨okx Tryz.func245⟩
instance:OkC P0 246:=⟨okx Tryz.func246⟩
instance:OkC P0 247:=⟨okx Tryz.func247⟩
instance:OkC P0 248:=⟨okx Tryz.func248⟩
instance:OkC P0 249:=⟨okx Tryz.func249⟩
instance:OkC P0 250:=⟨okx Tryz.func250⟩
instance:OkC P0 251:=⟨okx Tryz.func251⟩
instance:OkC P0 252:=⟨okx Tryz.func252⟩
instance:OkC P0 254:=⟨okx Tryz.func254⟩
instance:OkC P0 255:=⟨okx Tryz.func255⟩
instance:OkC P0 256:=⟨okx Tryz.func256⟩
instance:OkC P0 257:=⟨okx Tryz.func257⟩
instance:OkC P0 258:=⟨okx Tryz.func258⟩
instance:OkC P0 259:=⟨okx Tryz.func259⟩
instance:OkC P0 260:=⟨okx Tryz.func260⟩
instance:OkC P0 261:=⟨okx Tryz.func261⟩
instance:OkC P0 262:=⟨okx Tryz.func262⟩
instance:OkC P0 263:=⟨okx Tryz.func263⟩
instance:OkC P0 264:=⟨okx Tryz.func264⟩
instance:OkC P0 265:=⟨okx Tryz.func265⟩
instance:OkC P0 266:=⟨okx Tryz.func266⟩
instance:OkC P0 267:=⟨okx Tryz.func267⟩
instance:OkC P0 268:=⟨okx Tryz.func268⟩
theorem Qfa:CallOk P0 269:=okx Tryz.func269
instance:OkC P0 269:=⟨Qfa⟩
theorem Qex:CallOk P0 270:=okx Tryz.func270
instance:OkC P0 270:=⟨Qex⟩
theorem Qe9:CallOk P0 271:=okx Tryz.func271
instance:OkC P0 271:=⟨Qe9⟩
theorem Qew:CallOk P0 272:=okx Tryz.func272
instance:OkC P0 272:=⟨Qew⟩
theorem Qd1:CallOk P0 273:=okx Tryz.func273
instance:OkC P0 273:=⟨Qd1⟩
theorem QdJ:CallOk P0 274:=okx Tryz.func274
instance:OkC P0 274:=⟨QdJ⟩
theorem Qdm:CallOk P0 275:=okx Tryz.func275
instance:OkC P0 275:=⟨Qdm⟩
instance:OkC P0 276:=⟨okx Tryz.func276⟩
instance:OkC P0 277:=⟨okx Tryz.func277⟩
instance:OkC P0 278:=⟨okx Tryz.func278⟩
instance:OkC P0 279:=⟨okx Tryz.func279⟩
instance:OkC P0 280:=⟨okx Tryz.func280⟩
instance:OkC P0 281:=⟨okx Tryz.func281⟩
instance:OkC P0 282:=⟨okx Tryz.func282⟩
instance:OkC P0 283:=⟨okx Tryz.func283⟩
instance:OkC P0 284:=⟨okx Tryz.func284⟩
instance:OkC P0 285:=⟨okx Tryz.func285⟩
instance:OkC P0 286:=⟨okx Tryz.func286⟩
instance:TyU P0 2 (.int .i64):={}
instance:TyZ P0 2 1:={}
instance:TyB P0 2:={}
instance:TyU P0 3 (.int .i64):={}
instance:TyZ P0 3 1:={}
instance:TyB P0 3:={}
instance:TyU P0 4 .bool:={}
instance:TyZ P0 4 1:={}
instance:TyB P0 4:={}
instance:TyU P0 5 (.int .u8):={}
instance:TyZ P0 5 1:={}
instance:TyB P0 5:={}
instance:TyU P0 9 .string:={}
instance:TyZ P0 9 1:={}
instance:TyB P0 9:={}
instance:TyZ P0 20 1:={}
instance:TyB P0 20:={}
instance:TyU P0 21 (.int .i32):={}
instance:TyZ P0 21 1:={}
instance:TyB P0 21:={}
instance:TyU P0 22 (.slice 24):={}
instance:TyZ P0 22 1:={}
instance:TyB P0 22:={}
instance:TyZ P0 24 2:={}
instance:TyA P0 24:={}
instance:TyZ P0 26 2:={}
instance:TyA P0 26:={}
instance:TyU P0 27 (.slice 31):={}
instance:TyZ P0 27 1:={}
instance:TyB P0 27:={}
instance:TyZ P0 29 6:={}
instance:TyA P0 29:={}
instance:TyZ P0 31 3:={}
instance:TyA P0 31:={}
instance:TyU P0 33 (.slice 40):={}
instance:TyZ P0 33 1:={}
instance:TyB P0 33:={}
instance:TyZ P0 35 5:={}
instance:TyA P0 35:={}
instance:TyU P0 36 (.slice 38):={}
instance:TyZ P0 36 1:={}
instance:TyB P0 36:={}
instance:TyZ P0 38 4:={}
instance:TyA P0 38:={}
instance:TyZ P0 40 9:={}
instance:TyA P0 40:={}
instance:TyU P0 42 (.slice 35):={}
instance:TyZ P0 42 1:={}
instance:TyB P0 42:={}
instance:TyU P0 43 (.slice 9):={}
instance:TyZ P0 43 1:={}
instance:TyB P0 43:={}
instance:TyZ P0 45 6:={}
instance:TyA P0 45:={}
instance:TyZ P0 48 3:={}
instance:TyA P0 48:={}
instance:TyU P0 49 (.slice 48):={}
instance:TyZ P0 49 1:={}
instance:TyB P0 49:={}
instance:TyU P0 50 (.slice 29):={}
instance:TyZ P0 50 1:={}
instance:TyB P0 50:={}
instance:TyU P0 51 (.slice 66):={}
instance:TyZ P0 51 1:={}
instance:TyB P0 51:={}
instance:TyU P0 52 (.slice 45):={}
instance:TyZ P0 52 1:={}
instance:TyB P0 52:={}
instance:TyU P0 53 (.slice 68):={}
instance:TyZ P0 53 1:={}
instance:TyB P0 53:={}
instance:TyZ P0 55 6:={}
instance:TyA P0 55:={}
instance:TyZ P0 57 3:={}
instance:TyA P0 57:={}
instance:TyU P0 58 (.int .i64):={}
instance:TyZ P0 58 1:={}
instance:TyB P0 58:={}
instance:TyU P0 59 (.slice 55):={}
instance:TyZ P0 59 1:={}
instance:TyB P0 59:={}
instance:TyZ P0 63 2:={}
instance:TyA P0 63:={}
instance:TyU P0 64 (.slice 63):={}
instance:TyZ P0 64 1:={}
instance:TyB P0 64:={}
instance:TyZ P0 66 6:={}
instance:TyA P0 66:={}
instance:TyZ P0 68 4:={}
instance:TyA P0 68:={}
instance:TyZ P0 74 3:={}
instance:TyA P0 74:={}
instance:TyU P0 80 (.int .u64):={}
instance:TyZ P0 80 1:={}
instance:TyB P0 80:={}
instance:TyZ P0 86 1:={}
instance:TyB P0 86:={}
instance:TyU P0 87 (.slice 5):={}
instance:TyZ P0 87 1:={}
instance:TyB P0 87:={}
instance:TyZ P0 89 4:={}
instance:TyA P0 89:={}
instance:TyU P0 90 (.pointer 93):={}
instance:TyZ P0 90 1:={}
instance:TyB P0 90:={}
instance:TyU P0 91 (.map 206 4):={}
instance:TyZ P0 91 1:={}
instance:TyB P0 91:={}
instance:TyZ P0 93 2:={}
instance:TyA P0 93:={}
instance:TyU P0 95 (.pointer 55):={}
instance:TyZ P0 95 1:={}
instance:TyB P0 95:={}
instance:TyZ P0 100 4:={}
instance:TyA P0 100:={}
instance:TyU P0 105 (.slice 26):={}
instance:TyZ P0 105 1:={}
instance:TyB P0 105:={}
instance:TyZ P0 112 1:={}
instance:TyB P0 112:={}
instance:TyZ P0 114 1:={}
instance:TyB P0 114:={}
instance:TyZ P0 116 1:={}
instance:TyB P0 116:={}
instance:TyZ P0 119 1:={}
instance:TyB P0 119:={}
instance:TyZ P0 121 1:={}
instance:TyB P0 121:={}
instance:TyZ P0 124 1:={}
instance:TyB P0 124:={}
instance:TyZ P0 125 1:={}
instance:TyB P0 125:={}
instance:TyU P0 129 (.map 3 4):={}
instance:TyZ P0 129 1:={}
instance:TyB P0 129:={}
instance:TyZ P0 134 1:={}
instance:TyB P0 134:={}
instance:TyU P0 135 (.array 4 3):={}
instance:TyZ P0 135 4:={}
instance:TyA P0 135:={}
instance:TyU P0 142 (.pointer 147):={}
instance:TyZ P0 142 1:={}
instance:TyB P0 142:={}
instance:TyU P0 143 (.pointer 145):={}
instance:TyZ P0 143 1:={}
instance:TyB P0 143:={}
instance:TyZ P0 145 2:={}
instance:TyA P0 145:={}
instance:TyZ P0 147 2:={}
instance:TyA P0 147:={}
instance:TyZ P0 150 1:={}
instance:TyB P0 150:={}
instance:TyZ P0 152 1:={}
instance:TyB P0 152:={}
instance:TyZ P0 154 1:={}
instance:TyB P0 154:={}
instance:TyZ P0 156 1:={}
instance:TyB P0 156:={}
instance:TyZ P0 159 1:={}
instance:TyB P0 159:={}
instance:TyZ P0 164 1:={}
instance:TyB P0 164:={}
instance:TyZ P0 184 1:={}
instance:TyB P0 184:={}
instance:TyZ P0 185 1:={}
instance:TyB P0 185:={}
instance:TyZ P0 186 1:={}
instance:TyB P0 186:={}
instance:TyZ P0 188 1:={}
instance:TyB P0 188:={}
instance:TyZ P0 191 1:={}
instance:TyB P0 191:={}
instance:TyZ P0 193 1:={}
instance:TyB P0 193:={}
instance:TyZ P0 194 1:={}
instance:TyB P0 194:={}
instance:TyZ P0 196 1:={}
instance:TyB P0 196:={}
instance:TyZ P0 199 1:={}
instance:TyB P0 199:={}
instance:TyZ P0 200 1:={}
instance:TyB P0 200:={}
instance:TyZ P0 202 1:={}
instance:TyB P0 202:={}
instance:TyZ P0 206 3:={}
instance:TyA P0 206:={}
instance:TyZ P0 216 1:={}
instance:TyB P0 216:={}
instance:TyZ P0 219 1:={}
instance:TyB P0 219:={}
instance:TyZ P0 220 1:={}
instance:TyB P0 220:={}
instance:TyZ P0 223 1:={}
instance:TyB P0 223:={}
instance:TyU P0 224 (.pointer 5):={}
instance:TyZ P0 224 1:={}
instance:TyB P0 224:={}
instance:TyZ P0 225 1:={}
instance:TyB P0 225:={}
instance:TyU P0 228 (.slice 4):={}
instance:TyZ P0 228 1:={}
instance:TyB P0 228:={}
instance:TyZ P0 246 1:={}
instance:TyB P0 246:={}
instance:TyZ P0 249 1:={}
instance:TyB P0 249:={}
instance:TyU P0 261 (.map 9 3):={}
instance:TyZ P0 261 1:={}
instance:TyB P0 261:={}
instance:TyZ P0 265 1:={}
instance:TyB P0 265:={}
instance:TyZ P0 266 1:={}
instance:TyB P0 266:={}
instance:TyZ P0 274 4:={}
instance:TyA P0 274:={}
instance:TyU P0 277 (.int .u32):={}
instance:TyZ P0 277 1:={}
instance:TyB P0 277:={}
instance:TyU P0 283 (.array 24 5):={}
instance:TyZ P0 283 24:={}
instance:TyA P0 283:={}
instance:TyU P0 284 (.int .u64):={}
instance:TyZ P0 284 1:={}
instance:TyB P0 284:={}
instance:TyU P0 291 (.array 20 284):={}
instance:TyZ P0 291 20:={}
instance:TyA P0 291:={}
instance:TyU P0 292 (.array 65 5):={}
instance:TyZ P0 292 65:={}
instance:TyA P0 292:={}
instance:TyU P0 297 (.array 256 4):={}
instance:TyZ P0 297 256:={}
instance:TyA P0 297:={}
instance:TyU P0 301 (.pointer 297):={}
instance:TyZ P0 301 1:={}
instance:TyB P0 301:={}
instance:TyU P0 306 (.array 32 5):={}
instance:TyZ P0 306 32:={}
instance:TyA P0 306:={}
instance:TyU P0 307 (.array 64 5):={}
instance:TyZ P0 307 64:={}
instance:TyA P0 307:={}
instance:TyU P0 309 (.array 256 5):={}
instance:TyZ P0 309 256:={}
instance:TyA P0 309:={}
instance:TyZ P0 311 2:={}
instance:TyA P0 311:={}
instance:TyU P0 312 (.array 16 311):={}
instance:TyZ P0 312 32:={}
instance:TyA P0 312:={}
instance:TyF P0 24 0 0:={}
instance:TyF P0 24 1 1:={}
instance:TyF P0 29 0 0:={}
instance:TyF P0 29 1 2:={}
instance:TyF P0 29 2 3:={}
instance:TyF P0 29 3 4:={}
instance:TyF P0 29 4 5:={}
instance:TyF P0 31 0 0:={}
instance:TyF P0 31 1 1:={}
instance:TyF P0 35 0 0:={}
instance:TyF P0 35 1 1:={}
instance:TyF P0 35 2 3:={}
instance:TyF P0 35 3 4:={}
instance:TyF P0 38 0 0:={}
instance:TyF P0 38 1 1:={}
instance:TyF P0 38 2 2:={}
instance:TyF P0 38 3 3:={}
instance:TyF P0 40 0 0:={}
instance:TyF P0 40 1 1:={}
instance:TyF P0 40 2 3:={}
instance:TyF P0 40 3 4:={}
instance:TyF P0 40 4 8:={}
instance:TyF P0 45 0 0:={}
instance:TyF P0 45 1 2:={}
instance:TyF P0 45 2 3:={}
instance:TyF P0 45 3 4:={}
instance:TyF P0 45 4 5:={}
instance:TyF P0 48 0 0:={}
instance:TyF P0 48 1 2:={}
instance:TyF P0 55 0 0:={}
instance:TyF P0 55 1 1:={}
instance:TyF P0 55 2 2:={}
instance:TyF P0 55 3 3:={}
instance:TyF P0 55 4 4:={}
instance:TyF P0 55 5 5:={}
instance:TyF P0 63 0 0:={}
instance:TyF P0 63 1 1:={}
instance:TyF P0 66 0 0:={}
instance:TyF P0 66 1 2:={}
instance:TyF P0 66 2 3:={}
instance:TyF P0 66 3 4:={}
instance:TyF P0 66 4 5:={}
instance:TyF P0 68 0 0:={}
instance:TyF P0 68 1 2:={}
instance:TyF P0 68 2 3:={}
instance:TyF P0 74 0 0:={}
instance:TyF P0 74 1 1:={}
instance:TyF P0 89 0 0:={}
instance:TyF P0 89 1 3:={}
instance:TyF P0 93 0 0:={}
instance:TyF P0 93 1 1:={}
instance:TyF P0 100 0 0:={}
instance:TyF P0 100 1 3:={}
instance:TyF P0 145 0 0:={}
instance:TyF P0 145 1 1:={}
instance:TyF P0 147 0 0:={}
instance:TyF P0 274 0 0:={}
instance:TyF P0 274 1 1:={}
instance:TyF P0 274 2 2:={}
instance:TyF P0 274 3 3:={}
instance:TyF P0 311 0 0:={}
instance:TyF P0 311 1 1:={}
theorem QhQ:ExtOk P0 212 Extern.AbiNoEscape.same:=⟨⟨_,Tryz.func212,by kernel_rfl,by kernel_rfl,by kernel_rfl,by kernel_rfl⟩⟩
theorem QdY:ExtOk P0 253 Extern.BytealgIndexByte.indexByte:=⟨⟨_,Tryz.func253,by kernel_rfl,by kernel_rfl,by kernel_rfl,by kernel_rfl⟩⟩
abbrev tyB:TypeId:=145
abbrev tyE:TypeId:=5
abbrev Bd (bs:Str):GO:=.bld tyB tyE bs
theorem Qrs (x:Qk):typedK [.int .i64,.int .i64] (Qk.c x):=(And.intro rfl (And.intro rfl trivial))
theorem Qng (x:Qc):typedK [.str,.int .i64,.int .i64] (Qc.c x):=(And.intro trivial (And.intro rfl (And.intro rfl trivial)))
theorem kOk206:KOk P0 206 kp3:=kTrip (by kernel_rfl)
instance:KOc P0 3 kI:=⟨kInt (by kernel_rfl)⟩
instance:KOc P0 9 sv:=⟨kText rfl⟩
instance:KOc P0 206 kp3:=⟨kOk206⟩
instance:CkT Qk.c [.int .i64,.int .i64]:=⟨Qrs⟩
instance:CkT Qc.c [.str,.int .i64,.int .i64]:=⟨Qng⟩
def Qa7 (C:Ctx) (a:Sl) (K:Bool→HP) (H:Heap):Prop:=
 Spec P0 C 4 [slv a] H (fun v c=>∃ b,v=.bool b∧K b c)
def QbN (C:Ctx) (a:Sl) (K:Qa→Qc→Int→HP) (H:Heap):Prop:=
 Spec P0 C 12 [slv a] H (fun v f=>∃ b d e,v=.tuple #[.agg (Qa.c b).toArray,.agg (Qc.c d).toArray,.int .i64 e]∧K b d e f)
def QgF (C:Ctx) (K:Bool→HP) (H:Heap):Prop:=
 Spec P0 C 13 [] H (fun v b=>∃ a,v=.bool a∧K a b)
def QiP (C:Ctx) (a:Sl) (K:Bool→HP) (H:Heap):Prop:=
 Spec P0 C 14 [slv a] H (fun v c=>∃ b,v=.bool b∧K b c)
def QeZ (C:Ctx) (a:Sl) (K:Qa→Qc→Int→HP) (H:Heap):Prop:=
 Spec P0 C 15 [slv a] H (fun v f=>∃ b d e,v=.tuple #[.agg (Qa.c b).toArray,.agg (Qc.c d).toArray,.int .i64 e]∧K b d e f)
def Qhe (C:Ctx) (a:Qa) (b:Qa) (K:Bool→HP) (H:Heap):Prop:=
 Spec P0 C 16 [.agg (Qa.c a).toArray,.agg (Qa.c b).toArray] H (fun v e=>∃ d,v=.bool d∧K d e)
def QiQ (C:Ctx) (a:Qa) (K:HP) (H:Heap):Prop:=
 Spec P0 C 17 [.agg (Qa.c a).toArray] H (fun v b=>v=.tuple #[]∧K b)
def Qau (C:Ctx) (a:Sl) (b:Sl) (K:Bool→HP) (H:Heap):Prop:=
 Spec P0 C 18 [slv a,slv b] H (fun v d=>∃ c,v=.bool c∧K c d)
theorem Qau.gh {C:Ctx} {a:Sl} {b:Sl} {K:Bool→HP} {H:Heap} (h:Qau C a b (fun d c=>∃ H0,Gh C c H0∧K d H0) H):Qau C a b K H:=ghm h
def Qbq (C:Ctx) (a:Qi) (b:Qi) (K:Bool→HP) (H:Heap):Prop:=
 Spec P0 C 19 [.agg (Qi.c a).toArray,.agg (Qi.c b).toArray] H (fun v e=>∃ d,v=.bool d∧K d e)
theorem Qbq.gh {C:Ctx} {a:Qi} {b:Qi} {K:Bool→HP} {H:Heap} (h:Qbq C a b (fun d c=>∃ H0,Gh C c H0∧K d H0) H):Qbq C a b K H:=ghm h
def Qcl (C:Ctx) (a:Qa) (K:Int→HP) (H:Heap):Prop:=
 Spec P0 C 20 [.agg (Qa.c a).toArray] H (fun v d=>∃ b,v=.int .i64 b∧K b d)
theorem Qcl.gh {C:Ctx} {a:Qa} {K:Int→HP} {H:Heap} (h:Qcl C a (fun c b=>∃ H0,Gh C b H0∧K c H0) H):Qcl C a K H:=ghm h
def Qcr (C:Ctx) (E:Value→HP) (a:Option (Nat×Nat)) (K:HP) (H:Heap):Prop:=
 SpecP P0 C 22 [pv a] H (fun v b=>v=.tuple #[]∧K b) E
def Qca (C:Ctx) (E:Value→HP) (a:Option (Nat×Nat)) (K:HP) (H:Heap):Prop:=
 SpecP P0 C 23 [pv a] H (fun v b=>v=.tuple #[]∧K b) E
def QcU (C:Ctx) (E:Value→HP) (b:Option (Nat×Nat)) (a:Qa) (K:HP) (H:Heap):Prop:=
 SpecP P0 C 24 [pv b,.agg (Qa.c a).toArray] H (fun v d=>v=.tuple #[]∧K d) E
def Qcs (C:Ctx) (E:Value→HP) (a:Option (Nat×Nat)) (K:HP) (H:Heap):Prop:=
 SpecP P0 C 25 [pv a] H (fun v b=>v=.tuple #[]∧K b) E
def Qc8 (C:Ctx) (E:Value→HP) (d:Option (Nat×Nat)) (a:Option (Nat×Nat)) (b:Qa) (K:HP) (H:Heap):Prop:=
 SpecP P0 C 26 [pv d,pv a,.agg (Qa.c b).toArray] H (fun v e=>v=.tuple #[]∧K e) E
def QjW (C:Ctx) (a:Qa) (K:Str→Int→HP) (H:Heap):Prop:=
 Spec P0 C 27 [.agg (Qa.c a).toArray] H (fun v e=>∃ b d,v=.tuple #[sv b,.int .i64 d]∧K b d e)
def Qct (C:Ctx) (a:Qa) (K:Int→HP) (H:Heap):Prop:=
 Spec P0 C 28 [.agg (Qa.c a).toArray] H (fun v d=>∃ b,v=.int .i64 b∧K b d)
theorem Qct.gh {C:Ctx} {a:Qa} {K:Int→HP} {H:Heap} (h:Qct C a (fun c b=>∃ H0,Gh C b H0∧K c H0) H):Qct C a K H:=ghm h
def Qdd (C:Ctx) (b:Sl) (a:Str) (K:Int→HP) (H:Heap):Prop:=
 Spec P0 C 29 [slv b,sv a] H (fun v d=>∃ c,v=.int .i64 c∧K c d)
def Qe1 (C:Ctx) (a:Sl) (K:Qb→HP) (H:Heap):Prop:=
 Spec P0 C 30 [slv a] H (fun v d=>∃ b,v=.agg (Qb.c b).toArray∧K b d)
def QjU (C:Ctx) (a:Qa) (K:Qb→HP) (H:Heap):Prop:=
 Spec P0 C 31 [.agg (Qa.c a).toArray] H (fun v d=>∃ b,v=.agg (Qb.c b).toArray∧K b d)
def QjV (C:Ctx) (b:Sl) (a:Int) (K:Qa→Qb→HP) (H:Heap):Prop:=
 Spec P0 C 32 [slv b,.int .i64 a] H (fun v f=>∃ d e,v=.tuple #[.agg (Qa.c d).toArray,.agg (Qb.c e).toArray]∧K d e f)
def Qdb (C:Ctx) (a:Qa) (b:Qa) (K:Bool→HP) (H:Heap):Prop:=
 Spec P0 C 33 [.agg (Qa.c a).toArray,.agg (Qa.c b).toArray] H (fun v e=>∃ d,v=.bool d∧K d e)
theorem Qdb.gh {C:Ctx} {a:Qa} {b:Qa} {K:Bool→HP} {H:Heap} (h:Qdb C a b (fun d c=>∃ H0,Gh C c H0∧K d H0) H):Qdb C a b K H:=ghm h
def QfR (C:Ctx) (a:Qa) (K:Sl→HP) (H:Heap):Prop:=
 Spec P0 C 34 [.agg (Qa.c a).toArray] H (fun v d=>∃ b,v=slv b∧K b d)
def QaZ (C:Ctx) (a:Qf) (b:Qf) (K:Bool→HP) (H:Heap):Prop:=
 Spec P0 C 35 [.agg (Qf.c a).toArray,.agg (Qf.c b).toArray] H (fun v e=>∃ d,v=.bool d∧K d e)
theorem QaZ.gh {C:Ctx} {a:Qf} {b:Qf} {K:Bool→HP} {H:Heap} (h:QaZ C a b (fun d c=>∃ H0,Gh C c H0∧K d H0) H):QaZ C a b K H:=ghm h
def Q9 (C:Ctx) (a:Sl) (b:Sl) (K:Bool→HP) (H:Heap):Prop:=
 Spec P0 C 36 [slv a,slv b] H (fun v d=>∃ c,v=.bool c∧K c d)
theorem Q9.gh {C:Ctx} {a:Sl} {b:Sl} {K:Bool→HP} {H:Heap} (h:Q9 C a b (fun d c=>∃ H0,Gh C c H0∧K d H0) H):Q9 C a b K H:=ghm h
def Qdx (C:Ctx) (a:Sl) (b:Sl) (K:Bool→HP) (H:Heap):Prop:=
 Spec P0 C 37 [slv a,slv b] H (fun v d=>∃ c,v=.bool c∧K c d)
def QaX (C:Ctx) (a:Sl) (b:Sl) (K:Bool→HP) (H:Heap):Prop:=
 Spec P0 C 38 [slv a,slv b] H (fun v d=>∃ c,v=.bool c∧K c d)
theorem QaX.gh {C:Ctx} {a:Sl} {b:Sl} {K:Bool→HP} {H:Heap} (h:QaX C a b (fun d c=>∃ H0,Gh C c H0∧K d H0) H):QaX C a b K H:=ghm h
def Qej (C:Ctx) (a:Qa) (K:Int→HP) (H:Heap):Prop:=
 Spec P0 C 39 [.agg (Qa.c a).toArray] H (fun v d=>∃ b,v=.int .i64 b∧K b d)
theorem Qej.gh {C:Ctx} {a:Qa} {K:Int→HP} {H:Heap} (h:Qej C a (fun c b=>∃ H0,Gh C b H0∧K c H0) H):Qej C a K H:=ghm h
def Qbd (C:Ctx) (a:Str) (K:Bool→HP) (H:Heap):Prop:=
 Spec P0 C 40 [sv a] H (fun v c=>∃ b,v=.bool b∧K b c)
def Qak (C:Ctx) (b:Sl) (a:Value) (K:Bool→HP) (H:Heap):Prop:=
 Spec P0 C 41 [slv b,a] H (fun v d=>∃ c,v=.bool c∧K c d)
theorem Qak.gh {C:Ctx} {b:Sl} {a:Value} {K:Bool→HP} {H:Heap} (h:Qak C b a (fun d c=>∃ H0,Gh C c H0∧K d H0) H):Qak C b a K H:=ghm h
def QcK (C:Ctx) (a:Qq) (K:Bool→HP) (H:Heap):Prop:=
 Spec P0 C 42 [.agg (Qq.c a).toArray] H (fun v d=>∃ b,v=.bool b∧K b d)
theorem QcK.gh {C:Ctx} {a:Qq} {K:Bool→HP} {H:Heap} (h:QcK C a (fun c b=>∃ H0,Gh C b H0∧K c H0) H):QcK C a K H:=ghm h
def Qae (C:Ctx) (b:Sl) (a:Value) (K:Bool→HP) (H:Heap):Prop:=
 Spec P0 C 43 [slv b,a] H (fun v d=>∃ c,v=.bool c∧K c d)
theorem Qae.gh {C:Ctx} {b:Sl} {a:Value} {K:Bool→HP} {H:Heap} (h:Qae C b a (fun d c=>∃ H0,Gh C c H0∧K d H0) H):Qae C b a K H:=ghm h
def QcR (C:Ctx) (a:Qd) (K:Bool→HP) (H:Heap):Prop:=
 Spec P0 C 44 [.agg (Qd.c a).toArray] H (fun v d=>∃ b,v=.bool b∧K b d)
theorem QcR.gh {C:Ctx} {a:Qd} {K:Bool→HP} {H:Heap} (h:QcR C a (fun c b=>∃ H0,Gh C b H0∧K c H0) H):QcR C a K H:=ghm h
def Qal (C:Ctx) (b:Sl) (a:Value) (K:Bool→HP) (H:Heap):Prop:=
 Spec P0 C 45 [slv b,a] H (fun v d=>∃ c,v=.bool c∧K c d)
theorem Qal.gh {C:Ctx} {b:Sl} {a:Value} {K:Bool→HP} {H:Heap} (h:Qal C b a (fun d c=>∃ H0,Gh C c H0∧K d H0) H):Qal C b a K H:=ghm h
def QcL (C:Ctx) (a:Qh) (K:Bool→HP) (H:Heap):Prop:=
 Spec P0 C 46 [.agg (Qh.c a).toArray] H (fun v d=>∃ b,v=.bool b∧K b d)
theorem QcL.gh {C:Ctx} {a:Qh} {K:Bool→HP} {H:Heap} (h:QcL C a (fun c b=>∃ H0,Gh C b H0∧K c H0) H):QcL C a K H:=ghm h
def QbT (C:Ctx) (b:Sl) (a:Bool) (K:Bool→HP) (H:Heap):Prop:=
 Spec P0 C 47 [slv b,.bool a] H (fun v d=>∃ c,v=.bool c∧K c d)
theorem QbT.gh {C:Ctx} {b:Sl} {a:Bool} {K:Bool→HP} {H:Heap} (h:QbT C b a (fun d c=>∃ H0,Gh C c H0∧K d H0) H):QbT C b a K H:=ghm h
def Qam (C:Ctx) (b:Sl) (a:Value) (K:Bool→HP) (H:Heap):Prop:=
 Spec P0 C 48 [slv b,a] H (fun v d=>∃ c,v=.bool c∧K c d)
theorem Qam.gh {C:Ctx} {b:Sl} {a:Value} {K:Bool→HP} {H:Heap} (h:Qam C b a (fun d c=>∃ H0,Gh C c H0∧K d H0) H):Qam C b a K H:=ghm h
def QfN (C:Ctx) (a:Qi) (K:Bool→HP) (H:Heap):Prop:=
 Spec P0 C 49 [.agg (Qi.c a).toArray] H (fun v d=>∃ b,v=.bool b∧K b d)
theorem QfN.gh {C:Ctx} {a:Qi} {K:Bool→HP} {H:Heap} (h:QfN C a (fun c b=>∃ H0,Gh C b H0∧K c H0) H):QfN C a K H:=ghm h
def Qaa (C:Ctx) (b:Sl) (a:Value) (K:Bool→HP) (H:Heap):Prop:=
 Spec P0 C 50 [slv b,a] H (fun v d=>∃ c,v=.bool c∧K c d)
theorem Qaa.gh {C:Ctx} {b:Sl} {a:Value} {K:Bool→HP} {H:Heap} (h:Qaa C b a (fun d c=>∃ H0,Gh C c H0∧K d H0) H):Qaa C b a K H:=ghm h
def QcM (C:Ctx) (a:Qo) (K:Bool→HP) (H:Heap):Prop:=
 Spec P0 C 51 [.agg (Qo.c a).toArray] H (fun v d=>∃ b,v=.bool b∧K b d)
theorem QcM.gh {C:Ctx} {a:Qo} {K:Bool→HP} {H:Heap} (h:QcM C a (fun c b=>∃ H0,Gh C b H0∧K c H0) H):QcM C a K H:=ghm h
def QJ (C:Ctx) (b:Sl) (a:Value) (K:Bool→HP) (H:Heap):Prop:=
 Spec P0 C 52 [slv b,a] H (fun v d=>∃ c,v=.bool c∧K c d)
theorem QJ.gh {C:Ctx} {b:Sl} {a:Value} {K:Bool→HP} {H:Heap} (h:QJ C b a (fun d c=>∃ H0,Gh C c H0∧K d H0) H):QJ C b a K H:=ghm h
def QcP (C:Ctx) (a:Qm) (K:Bool→HP) (H:Heap):Prop:=
 Spec P0 C 53 [.agg (Qm.c a).toArray] H (fun v d=>∃ b,v=.bool b∧K b d)
theorem QcP.gh {C:Ctx} {a:Qm} {K:Bool→HP} {H:Heap} (h:QcP C a (fun c b=>∃ H0,Gh C b H0∧K c H0) H):QcP C a K H:=ghm h
def QcN (C:Ctx) (a:Qi) (K:Bool→HP) (H:Heap):Prop:=
 Spec P0 C 54 [.agg (Qi.c a).toArray] H (fun v d=>∃ b,v=.bool b∧K b d)
theorem QcN.gh {C:Ctx} {a:Qi} {K:Bool→HP} {H:Heap} (h:QcN C a (fun c b=>∃ H0,Gh C b H0∧K c H0) H):QcN C a K H:=ghm h
def QcO (C:Ctx) (a:Qo) (K:Bool→HP) (H:Heap):Prop:=
 Spec P0 C 55 [.agg (Qo.c a).toArray] H (fun v d=>∃ b,v=.bool b∧K b d)
theorem QcO.gh {C:Ctx} {a:Qo} {K:Bool→HP} {H:Heap} (h:QcO C a (fun c b=>∃ H0,Gh C b H0∧K c H0) H):QcO C a K H:=ghm h
def QH (C:Ctx) (E:Value→HP) (d:Qa) (a:Qk) (b:Int) (K:HP) (H:Heap):Prop:=
 SpecP P0 C 56 [.agg (Qa.c d).toArray,.agg (Qk.c a).toArray,.int .i64 b] H (fun v e=>v=.tuple #[]∧K e) E
def QaE (C:Ctx) (b:Option (Nat×Nat)) (a:Str) (K:Int→HP) (H:Heap):Prop:=
 Spec P0 C 57 [pv b,sv a] H (fun v d=>∃ c,v=.int .i64 c∧K c d)
def Qr (C:Ctx) (b:Sl) (a:Value) (K:Bool→HP) (H:Heap):Prop:=
 Spec P0 C 58 [slv b,a] H (fun v d=>∃ c,v=.bool c∧K c d)
def Qg9 (C:Ctx) (a:Qq) (e:Nat×Nat) (K:Bool→HP) (H:Heap):Prop:=
 Spec P0 C 59 [.agg (Qq.c a).toArray,pv (some e)] H (fun v d=>∃ b,v=.bool b∧K b d)
def QaF (C:Ctx) (d:Option (Nat×Nat)) (a:Int) (c:Int) (b:Option Nat) (K:Bool→HP) (H:Heap):Prop:=
 Spec P0 C 60 [pv d,.int .i64 a,.int .i64 c,mv b] H (fun v f=>∃ e,v=.bool e∧K e f)
def QaG (C:Ctx) (f:Option (Nat×Nat)) (e:Qa) (b:Str) (a:Int) (d:Bool) (K:Bool→HP) (H:Heap):Prop:=
 Spec P0 C 61 [pv f,.agg (Qa.c e).toArray,sv b,.int .i64 a,.bool d] H (fun v h=>∃ g,v=.bool g∧K g h)
def Qt (C:Ctx) (a:Sl) (b:Str) (K:Bool→HP) (H:Heap):Prop:=
 Spec P0 C 62 [slv a,sv b] H (fun v d=>∃ c,v=.bool c∧K c d)
theorem Qt.gh {C:Ctx} {a:Sl} {b:Str} {K:Bool→HP} {H:Heap} (h:Qt C a b (fun d c=>∃ H0,Gh C c H0∧K d H0) H):Qt C a b K H:=ghm h
def QF (C:Ctx) (b:Sl) (a:Value) (K:Bool→HP) (H:Heap):Prop:=
 Spec P0 C 63 [slv b,a] H (fun v d=>∃ c,v=.bool c∧K c d)
def Qig (C:Ctx) (a:Qj) (e:Nat×Nat) (K:Bool→HP) (H:Heap):Prop:=
 Spec P0 C 64 [.agg (Qj.c a).toArray,pv (some e)] H (fun v d=>∃ b,v=.bool b∧K b d)
def QgH (C:Ctx) (b:Sl) (a:Sl) (K:Bool→HP) (H:Heap):Prop:=
 Spec P0 C 65 [slv b,slv a] H (fun v d=>∃ c,v=.bool c∧K c d)
def QW (C:Ctx) (a:Sl) (K:Sl→HP) (H:Heap):Prop:=
 Spec P0 C 66 [slv a] H (fun v c=>∃ b,v=slv b∧K b c)
def Q2 (C:Ctx) (E:Value→HP) (e:Option (Nat×Nat)) (d:Qa) (b:Sl) (a:Qk) (K:Sl→HP) (H:Heap):Prop:=
 SpecP P0 C 67 [pv e,.agg (Qa.c d).toArray,slv b,.agg (Qk.c a).toArray] H (fun v g=>∃ f,v=slv f∧K f g) E
def Qaj (C:Ctx) (E:Value→HP) (e:Option (Nat×Nat)) (d:Qa) (f:Str) (a:Int) (b:Qk) (K:Str→HP) (H:Heap):Prop:=
 SpecP P0 C 68 [pv e,.agg (Qa.c d).toArray,sv f,.int .i64 a,.agg (Qk.c b).toArray] H (fun v h=>∃ g,v=sv g∧K g h) E
def Qcw (C:Ctx) (b:Str) (a:Str) (K:Bool→HP) (H:Heap):Prop:=
 Spec P0 C 69 [sv b,sv a] H (fun v d=>∃ c,v=.bool c∧K c d)
def Qav (C:Ctx) (E:Value→HP) (d:Option (Nat×Nat)) (b:Qa) (a:Sl) (K:Sl→HP) (H:Heap):Prop:=
 SpecP P0 C 70 [pv d,.agg (Qa.c b).toArray,slv a] H (fun v f=>∃ e,v=slv e∧K e f) E
def QaD (C:Ctx) (E:Value→HP) (d:Option (Nat×Nat)) (b:Qa) (a:Sl) (K:Sl→HP) (H:Heap):Prop:=
 SpecP P0 C 71 [pv d,.agg (Qa.c b).toArray,slv a] H (fun v f=>∃ e,v=slv e∧K e f) E
def QB (C:Ctx) (b:Option (Nat×Nat)) (a:Sl) (K:HP) (H:Heap):Prop:=
 Spec P0 C 72 [pv b,slv a] H (fun v c=>v=.tuple #[]∧K c)
def QcW (C:Ctx) (d:Option (Nat×Nat)) (c:Sl) (a:Str) (b:Value) (K:HP) (H:Heap):Prop:=
 Spec P0 C 73 [pv d,slv c,sv a,b] H (fun v e=>v=.tuple #[]∧K e)
def Qk6 (C:Ctx) (a:Qq) (d:Nat×Nat) (K:HP) (H:Heap):Prop:=
 Spec P0 C 74 [.agg (Qq.c a).toArray,pv (some d)] H (fun v b=>v=.tuple #[]∧K b)
def QcB (C:Ctx) (d:Option (Nat×Nat)) (c:Sl) (a:Str) (b:Value) (K:HP) (H:Heap):Prop:=
 Spec P0 C 75 [pv d,slv c,sv a,b] H (fun v e=>v=.tuple #[]∧K e)
def QfZ (C:Ctx) (b:Option (Nat×Nat)) (a:Qd) (K:HP) (H:Heap):Prop:=
 Spec P0 C 76 [pv b,.agg (Qd.c a).toArray] H (fun v d=>v=.tuple #[]∧K d)
def QcX (C:Ctx) (d:Option (Nat×Nat)) (c:Sl) (a:Str) (b:Value) (K:HP) (H:Heap):Prop:=
 Spec P0 C 77 [pv d,slv c,sv a,b] H (fun v e=>v=.tuple #[]∧K e)
def Qgo (C:Ctx) (a:Option (Nat×Nat)) (b:Qh) (K:HP) (H:Heap):Prop:=
 Spec P0 C 78 [pv a,.agg (Qh.c b).toArray] H (fun v d=>v=.tuple #[]∧K d)
def QdQ (C:Ctx) (d:Option (Nat×Nat)) (c:Sl) (a:Str) (b:Value) (K:HP) (H:Heap):Prop:=
 Spec P0 C 79 [pv d,slv c,sv a,b] H (fun v e=>v=.tuple #[]∧K e)
def Qhj (C:Ctx) (b:Option (Nat×Nat)) (a:Qi) (K:HP) (H:Heap):Prop:=
 Spec P0 C 80 [pv b,.agg (Qi.c a).toArray] H (fun v d=>v=.tuple #[]∧K d)
def Qdf (C:Ctx) (d:Option (Nat×Nat)) (c:Sl) (a:Str) (b:Value) (K:HP) (H:Heap):Prop:=
 Spec P0 C 81 [pv d,slv c,sv a,b] H (fun v e=>v=.tuple #[]∧K e)
def Qk7 (C:Ctx) (a:Qo) (d:Nat×Nat) (K:HP) (H:Heap):Prop:=
 Spec P0 C 82 [.agg (Qo.c a).toArray,pv (some d)] H (fun v b=>v=.tuple #[]∧K b)
def QaS (C:Ctx) (d:Option (Nat×Nat)) (c:Sl) (a:Str) (b:Value) (K:HP) (H:Heap):Prop:=
 Spec P0 C 83 [pv d,slv c,sv a,b] H (fun v e=>v=.tuple #[]∧K e)
def QfY (C:Ctx) (a:Option (Nat×Nat)) (b:Qm) (K:HP) (H:Heap):Prop:=
 Spec P0 C 84 [pv a,.agg (Qm.c b).toArray] H (fun v d=>v=.tuple #[]∧K d)
def Qn (C:Ctx) (a:Option (Nat×Nat)) (b:Str) (K:Int→Value→HP) (H:Heap):Prop:=
 Spec P0 C 85 [pv a,sv b] H (fun v e=>∃ c d,v=.tuple #[.int .i64 c,d]∧K c d e)
theorem Qn.gh {C:Ctx} {a:Option (Nat×Nat)} {b:Str} {K:Int→Value→HP} {H:Heap} (h:Qn C a b (fun c d e=>∃ H0,Gh C e H0∧K c d H0) H):Qn C a b K H:=
 Spec.gh (Spec.mono h fun _ e ⟨c,d,g,H0,hg,f⟩=>⟨H0,hg,c,d,g,f⟩)
def QL (C:Ctx) (a:Option (Nat×Nat)) (K:Str→HP) (H:Heap):Prop:=
 Spec P0 C 86 [pv a] H (fun v c=>∃ b,v=sv b∧K b c)
theorem QL.gh {C:Ctx} {a:Option (Nat×Nat)} {K:Str→HP} {H:Heap} (h:QL C a (fun c b=>∃ H0,Gh C b H0∧K c H0) H):QL C a K H:=ghm h
def Qda (C:Ctx) (a:Qa) (K:Int→HP) (H:Heap):Prop:=
 Spec P0 C 87 [.agg (Qa.c a).toArray] H (fun v d=>∃ b,v=.int .i64 b∧K b d)
theorem Qda.gh {C:Ctx} {a:Qa} {K:Int→HP} {H:Heap} (h:Qda C a (fun c b=>∃ H0,Gh C b H0∧K c H0) H):Qda C a K H:=ghm h
def Qat (C:Ctx) (a:Str) (K:Bool→HP) (H:Heap):Prop:=
 Spec P0 C 88 [sv a] H (fun v c=>∃ b,v=.bool b∧K b c)
def Qcv (C:Ctx) (a:Sl) (K:Bool→HP) (H:Heap):Prop:=
 Spec P0 C 89 [slv a] H (fun v c=>∃ b,v=.bool b∧K b c)
theorem Qcv.gh {C:Ctx} {a:Sl} {K:Bool→HP} {H:Heap} (h:Qcv C a (fun c b=>∃ H0,Gh C b H0∧K c H0) H):Qcv C a K H:=ghm h
def Qcu (C:Ctx) (a:Sl) (K:Bool→HP) (H:Heap):Prop:=
 Spec P0 C 90 [slv a] H (fun v c=>∃ b,v=.bool b∧K b c)
theorem Qcu.gh {C:Ctx} {a:Sl} {K:Bool→HP} {H:Heap} (h:Qcu C a (fun c b=>∃ H0,Gh C b H0∧K c H0) H):Qcu C a K H:=ghm h
def QbD (C:Ctx) (b:Sl) (a:Bool) (K:Bool→HP) (H:Heap):Prop:=
 Spec P0 C 91 [slv b,.bool a] H (fun v d=>∃ c,v=.bool c∧K c d)
theorem QbD.gh {C:Ctx} {b:Sl} {a:Bool} {K:Bool→HP} {H:Heap} (h:QbD C b a (fun d c=>∃ H0,Gh C c H0∧K d H0) H):QbD C b a K H:=ghm h
def Qci (C:Ctx) (a:Sl) (K:Bool→HP) (H:Heap):Prop:=
 Spec P0 C 92 [slv a] H (fun v c=>∃ b,v=.bool b∧K b c)
theorem Qci.gh {C:Ctx} {a:Sl} {K:Bool→HP} {H:Heap} (h:Qci C a (fun c b=>∃ H0,Gh C b H0∧K c H0) H):Qci C a K H:=ghm h
def QiU (C:Ctx) (c:Sl) (a:Int) (b:Int) (K:Bool→HP) (H:Heap):Prop:=
 Spec P0 C 93 [slv c,.int .i64 a,.int .i64 b] H (fun v e=>∃ d,v=.bool d∧K d e)
def Qde (C:Ctx) (K:Qb→HP) (H:Heap):Prop:=
 Spec P0 C 94 [] H (fun v b=>∃ a,v=.agg (Qb.c a).toArray∧K a b)
def Qep (C:Ctx) (a:Sl) (b:Str) (K:Bool→HP) (H:Heap):Prop:=
 Spec P0 C 95 [slv a,sv b] H (fun v d=>∃ c,v=.bool c∧K c d)
def QcY (C:Ctx) (b:Sl) (a:Sl) (K:Bool→HP) (H:Heap):Prop:=
 Spec P0 C 96 [slv b,slv a] H (fun v d=>∃ c,v=.bool c∧K c d)
def QbY (C:Ctx) (c:Sl) (b:Int) (a:Sl) (K:Sl→Bool→HP) (H:Heap):Prop:=
 Spec P0 C 97 [slv c,.int .i64 b,slv a] H (fun v f=>∃ d e,v=.tuple #[slv d,.bool e]∧K d e f)
def Qhg (C:Ctx) (b:Sl) (a:Int) (d:Qi) (K:Qi→Qb→HP) (H:Heap):Prop:=
 Spec P0 C 98 [slv b,.int .i64 a,.agg (Qi.c d).toArray] H (fun v g=>∃ e f,v=.tuple #[.agg (Qi.c e).toArray,.agg (Qb.c f).toArray]∧K e f g)
def QfX (C:Ctx) (d:Sl) (b:Int) (a:Sl) (K:Sl→Qb→HP) (H:Heap):Prop:=
 Spec P0 C 99 [slv d,.int .i64 b,slv a] H (fun v g=>∃ e f,v=.tuple #[slv e,.agg (Qb.c f).toArray]∧K e f g)
def QaA (C:Ctx) (a:Qd) (b:Qd) (K:Bool→HP) (H:Heap):Prop:=
 Spec P0 C 100 [.agg (Qd.c a).toArray,.agg (Qd.c b).toArray] H (fun v e=>∃ d,v=.bool d∧K d e)
theorem QaA.gh {C:Ctx} {a:Qd} {b:Qd} {K:Bool→HP} {H:Heap} (h:QaA C a b (fun d c=>∃ H0,Gh C c H0∧K d H0) H):QaA C a b K H:=ghm h
def QeY (C:Ctx) (a:Sl) (K:Sl→HP) (H:Heap):Prop:=
 Spec P0 C 101 [slv a] H (fun v c=>∃ b,v=slv b∧K b c)
def Qhd (C:Ctx) (a:Sl) (K:Sl→HP) (H:Heap):Prop:=
 Spec P0 C 102 [slv a] H (fun v c=>∃ b,v=slv b∧K b c)
def QaY (C:Ctx) (a:Qe) (b:Qe) (K:Bool→HP) (H:Heap):Prop:=
 Spec P0 C 103 [.agg (Qe.c a).toArray,.agg (Qe.c b).toArray] H (fun v e=>∃ d,v=.bool d∧K d e)
theorem QaY.gh {C:Ctx} {a:Qe} {b:Qe} {K:Bool→HP} {H:Heap} (h:QaY C a b (fun d c=>∃ H0,Gh C c H0∧K d H0) H):QaY C a b K H:=ghm h
def QO (C:Ctx) (b:Sl) (a:Value) (K:Int→HP) (H:Heap):Prop:=
 Spec P0 C 104 [slv b,a] H (fun v d=>∃ c,v=.int .i64 c∧K c d)
theorem QO.gh {C:Ctx} {b:Sl} {a:Value} {K:Int→HP} {H:Heap} (h:QO C b a (fun d c=>∃ H0,Gh C c H0∧K d H0) H):QO C b a K H:=ghm h
def Qdy (C:Ctx) (a:Qd) (K:Int→HP) (H:Heap):Prop:=
 Spec P0 C 105 [.agg (Qd.c a).toArray] H (fun v d=>∃ b,v=.int .i64 b∧K b d)
theorem Qdy.gh {C:Ctx} {a:Qd} {K:Int→HP} {H:Heap} (h:Qdy C a (fun c b=>∃ H0,Gh C b H0∧K c H0) H):Qdy C a K H:=ghm h
def QM (C:Ctx) (b:Sl) (a:Value) (K:Int→HP) (H:Heap):Prop:=
 Spec P0 C 106 [slv b,a] H (fun v d=>∃ c,v=.int .i64 c∧K c d)
theorem QM.gh {C:Ctx} {b:Sl} {a:Value} {K:Int→HP} {H:Heap} (h:QM C b a (fun d c=>∃ H0,Gh C c H0∧K d H0) H):QM C b a K H:=ghm h
def Qcd (C:Ctx) (a:Qj) (K:Int→HP) (H:Heap):Prop:=
 Spec P0 C 107 [.agg (Qj.c a).toArray] H (fun v d=>∃ b,v=.int .i64 b∧K b d)
theorem Qcd.gh {C:Ctx} {a:Qj} {K:Int→HP} {H:Heap} (h:Qcd C a (fun c b=>∃ H0,Gh C b H0∧K c H0) H):Qcd C a K H:=ghm h
def Qw (C:Ctx) (b:Sl) (a:Value) (K:Int→HP) (H:Heap):Prop:=
 Spec P0 C 108 [slv b,a] H (fun v d=>∃ c,v=.int .i64 c∧K c d)
theorem Qw.gh {C:Ctx} {b:Sl} {a:Value} {K:Int→HP} {H:Heap} (h:Qw C b a (fun d c=>∃ H0,Gh C c H0∧K d H0) H):Qw C b a K H:=ghm h
def QbI (C:Ctx) (a:Ql) (K:Int→HP) (H:Heap):Prop:=
 Spec P0 C 109 [.agg (Ql.c a).toArray] H (fun v d=>∃ b,v=.int .i64 b∧K b d)
theorem QbI.gh {C:Ctx} {a:Ql} {K:Int→HP} {H:Heap} (h:QbI C a (fun c b=>∃ H0,Gh C b H0∧K c H0) H):QbI C a K H:=ghm h
def QV (C:Ctx) (b:Sl) (a:Value) (K:Int→HP) (H:Heap):Prop:=
 Spec P0 C 110 [slv b,a] H (fun v d=>∃ c,v=.int .i64 c∧K c d)
theorem QV.gh {C:Ctx} {b:Sl} {a:Value} {K:Int→HP} {H:Heap} (h:QV C b a (fun d c=>∃ H0,Gh C c H0∧K d H0) H):QV C b a K H:=ghm h
def Qdz (C:Ctx) (a:Qh) (K:Int→HP) (H:Heap):Prop:=
 Spec P0 C 111 [.agg (Qh.c a).toArray] H (fun v d=>∃ b,v=.int .i64 b∧K b d)
theorem Qdz.gh {C:Ctx} {a:Qh} {K:Int→HP} {H:Heap} (h:Qdz C a (fun c b=>∃ H0,Gh C b H0∧K c H0) H):Qdz C a K H:=ghm h
def Q5 (C:Ctx) (b:Sl) (a:Value) (K:Int→HP) (H:Heap):Prop:=
 Spec P0 C 112 [slv b,a] H (fun v d=>∃ c,v=.int .i64 c∧K c d)
theorem Q5.gh {C:Ctx} {b:Sl} {a:Value} {K:Int→HP} {H:Heap} (h:Q5 C b a (fun d c=>∃ H0,Gh C c H0∧K d H0) H):Q5 C b a K H:=ghm h
def QdA (C:Ctx) (a:Qi) (K:Int→HP) (H:Heap):Prop:=
 Spec P0 C 113 [.agg (Qi.c a).toArray] H (fun v d=>∃ b,v=.int .i64 b∧K b d)
theorem QdA.gh {C:Ctx} {a:Qi} {K:Int→HP} {H:Heap} (h:QdA C a (fun c b=>∃ H0,Gh C b H0∧K c H0) H):QdA C a K H:=ghm h
def QE (C:Ctx) (b:Sl) (a:Value) (K:Int→HP) (H:Heap):Prop:=
 Spec P0 C 114 [slv b,a] H (fun v d=>∃ c,v=.int .i64 c∧K c d)
theorem QE.gh {C:Ctx} {b:Sl} {a:Value} {K:Int→HP} {H:Heap} (h:QE C b a (fun d c=>∃ H0,Gh C c H0∧K d H0) H):QE C b a K H:=ghm h
def Qeq (C:Ctx) (a:Qe) (K:Int→HP) (H:Heap):Prop:=
 Spec P0 C 115 [.agg (Qe.c a).toArray] H (fun v d=>∃ b,v=.int .i64 b∧K b d)
theorem Qeq.gh {C:Ctx} {a:Qe} {K:Int→HP} {H:Heap} (h:Qeq C a (fun c b=>∃ H0,Gh C b H0∧K c H0) H):Qeq C a K H:=ghm h
def Qz (C:Ctx) (b:Sl) (a:Value) (K:Int→HP) (H:Heap):Prop:=
 Spec P0 C 116 [slv b,a] H (fun v d=>∃ c,v=.int .i64 c∧K c d)
theorem Qz.gh {C:Ctx} {b:Sl} {a:Value} {K:Int→HP} {H:Heap} (h:Qz C b a (fun d c=>∃ H0,Gh C c H0∧K d H0) H):Qz C b a K H:=ghm h
def Qbc (C:Ctx) (a:Qm) (K:Int→HP) (H:Heap):Prop:=
 Spec P0 C 117 [.agg (Qm.c a).toArray] H (fun v d=>∃ b,v=.int .i64 b∧K b d)
theorem Qbc.gh {C:Ctx} {a:Qm} {K:Int→HP} {H:Heap} (h:Qbc C a (fun c b=>∃ H0,Gh C b H0∧K c H0) H):Qbc C a K H:=ghm h
def QZ (C:Ctx) (b:Sl) (a:Value) (K:Int→HP) (H:Heap):Prop:=
 Spec P0 C 118 [slv b,a] H (fun v d=>∃ c,v=.int .i64 c∧K c d)
theorem QZ.gh {C:Ctx} {b:Sl} {a:Value} {K:Int→HP} {H:Heap} (h:QZ C b a (fun d c=>∃ H0,Gh C c H0∧K d H0) H):QZ C b a K H:=ghm h
def QdB (C:Ctx) (a:Qo) (K:Int→HP) (H:Heap):Prop:=
 Spec P0 C 119 [.agg (Qo.c a).toArray] H (fun v d=>∃ b,v=.int .i64 b∧K b d)
theorem QdB.gh {C:Ctx} {a:Qo} {K:Int→HP} {H:Heap} (h:QdB C a (fun c b=>∃ H0,Gh C b H0∧K c H0) H):QdB C a K H:=ghm h
def QiY (C:Ctx) (a:Str) (K:Bool→HP) (H:Heap):Prop:=
 Spec P0 C 120 [sv a] H (fun v c=>∃ b,v=.bool b∧K b c)
def Qhh (C:Ctx) (b:Str) (a:Str) (K:Bool→HP) (H:Heap):Prop:=
 Spec P0 C 121 [sv b,sv a] H (fun v d=>∃ c,v=.bool c∧K c d)
def QiW (C:Ctx) (a:Qq) (e:Nat×Nat) (K:Bool→HP) (H:Heap):Prop:=
 Spec P0 C 122 [.agg (Qq.c a).toArray,pv (some e)] H (fun v d=>∃ b,v=.bool b∧K b d)
def QaI (C:Ctx) (b:Sl) (a:Value) (K:Bool→HP) (H:Heap):Prop:=
 Spec P0 C 123 [slv b,a] H (fun v d=>∃ c,v=.bool c∧K c d)
def Qij (C:Ctx) (a:Qd) (e:Nat×Nat) (K:Bool→HP) (H:Heap):Prop:=
 Spec P0 C 124 [.agg (Qd.c a).toArray,pv (some e)] H (fun v d=>∃ b,v=.bool b∧K b d)
def QaJ (C:Ctx) (b:Sl) (a:Value) (K:Bool→HP) (H:Heap):Prop:=
 Spec P0 C 125 [slv b,a] H (fun v d=>∃ c,v=.bool c∧K c d)
theorem QaJ.gh {C:Ctx} {b:Sl} {a:Value} {K:Bool→HP} {H:Heap} (h:QaJ C b a (fun d c=>∃ H0,Gh C c H0∧K d H0) H):QaJ C b a K H:=ghm h
def Qj1 (C:Ctx) (a:Str) (K:Bool→HP) (H:Heap):Prop:=
 Spec P0 C 126 [sv a] H (fun v c=>∃ b,v=.bool b∧K b c)
def Qad (C:Ctx) (b:Sl) (a:Value) (K:Bool→HP) (H:Heap):Prop:=
 Spec P0 C 127 [slv b,a] H (fun v d=>∃ c,v=.bool c∧K c d)
theorem Qad.gh {C:Ctx} {b:Sl} {a:Value} {K:Bool→HP} {H:Heap} (h:Qad C b a (fun d c=>∃ H0,Gh C c H0∧K d H0) H):Qad C b a K H:=ghm h
def QbO (C:Ctx) (a:Qj) (K:Bool→HP) (H:Heap):Prop:=
 Spec P0 C 128 [.agg (Qj.c a).toArray] H (fun v d=>∃ b,v=.bool b∧K b d)
theorem QbO.gh {C:Ctx} {a:Qj} {K:Bool→HP} {H:Heap} (h:QbO C a (fun c b=>∃ H0,Gh C b H0∧K c H0) H):QbO C a K H:=ghm h
def QaP (C:Ctx) (b:Sl) (a:Value) (K:Bool→HP) (H:Heap):Prop:=
 Spec P0 C 129 [slv b,a] H (fun v d=>∃ c,v=.bool c∧K c d)
def QiX (C:Ctx) (a:Qh) (e:Nat×Nat) (K:Bool→HP) (H:Heap):Prop:=
 Spec P0 C 130 [.agg (Qh.c a).toArray,pv (some e)] H (fun v d=>∃ b,v=.bool b∧K b d)
def Q3 (C:Ctx) (b:Sl) (a:Value) (K:Bool→HP) (H:Heap):Prop:=
 Spec P0 C 131 [slv b,a] H (fun v d=>∃ c,v=.bool c∧K c d)
theorem Q3.gh {C:Ctx} {b:Sl} {a:Value} {K:Bool→HP} {H:Heap} (h:Q3 C b a (fun d c=>∃ H0,Gh C c H0∧K d H0) H):Q3 C b a K H:=ghm h
def Qce (C:Ctx) (a:Ql) (e:Nat×Nat) (K:Bool→HP) (H:Heap):Prop:=
 Spec P0 C 132 [.agg (Ql.c a).toArray,pv (some e)] H (fun v d=>∃ b,v=.bool b∧K b d)
theorem Qce.gh {C:Ctx} {a:Ql} {b:Nat×Nat} {K:Bool→HP} {H:Heap} (h:Qce C a b (fun d c=>∃ H0,Gh C c H0∧K d H0) H):Qce C a b K H:=ghm h
def Qdg (C:Ctx) (a:Qf) (K:Bool→HP) (H:Heap):Prop:=
 Spec P0 C 133 [.agg (Qf.c a).toArray] H (fun v d=>∃ b,v=.bool b∧K b d)
theorem Qdg.gh {C:Ctx} {a:Qf} {K:Bool→HP} {H:Heap} (h:Qdg C a (fun c b=>∃ H0,Gh C b H0∧K c H0) H):Qdg C a K H:=ghm h
def Qbm (C:Ctx) (b:Sl) (a:Value) (K:Bool→HP) (H:Heap):Prop:=
 Spec P0 C 134 [slv b,a] H (fun v d=>∃ c,v=.bool c∧K c d)
def QjY (C:Ctx) (a:Qi) (e:Nat×Nat) (K:Bool→HP) (H:Heap):Prop:=
 Spec P0 C 135 [.agg (Qi.c a).toArray,pv (some e)] H (fun v d=>∃ b,v=.bool b∧K b d)
def QfM (C:Ctx) (a:Str) (K:Bool→HP) (H:Heap):Prop:=
 Spec P0 C 136 [sv a] H (fun v c=>∃ b,v=.bool b∧K b c)
def QI (C:Ctx) (b:Sl) (a:Value) (K:Bool→HP) (H:Heap):Prop:=
 Spec P0 C 137 [slv b,a] H (fun v d=>∃ c,v=.bool c∧K c d)
theorem QI.gh {C:Ctx} {b:Sl} {a:Value} {K:Bool→HP} {H:Heap} (h:QI C b a (fun d c=>∃ H0,Gh C c H0∧K d H0) H):QI C b a K H:=ghm h
def Qcy (C:Ctx) (a:Qe) (K:Bool→HP) (H:Heap):Prop:=
 Spec P0 C 138 [.agg (Qe.c a).toArray] H (fun v d=>∃ b,v=.bool b∧K b d)
theorem Qcy.gh {C:Ctx} {a:Qe} {K:Bool→HP} {H:Heap} (h:Qcy C a (fun c b=>∃ H0,Gh C b H0∧K c H0) H):Qcy C a K H:=ghm h
def Qmc (C:Ctx) (a:Str) (K:Bool→HP) (H:Heap):Prop:=
 Spec P0 C 139 [sv a] H (fun v c=>∃ b,v=.bool b∧K b c)
def Qa8 (C:Ctx) (b:Sl) (a:Value) (K:Bool→HP) (H:Heap):Prop:=
 Spec P0 C 140 [slv b,a] H (fun v d=>∃ c,v=.bool c∧K c d)
def QjG (C:Ctx) (a:Qo) (e:Nat×Nat) (K:Bool→HP) (H:Heap):Prop:=
 Spec P0 C 141 [.agg (Qo.c a).toArray,pv (some e)] H (fun v d=>∃ b,v=.bool b∧K b d)
def QaH (C:Ctx) (b:Sl) (a:Value) (K:Bool→HP) (H:Heap):Prop:=
 Spec P0 C 142 [slv b,a] H (fun v d=>∃ c,v=.bool c∧K c d)
def Qii (C:Ctx) (a:Qm) (e:Nat×Nat) (K:Bool→HP) (H:Heap):Prop:=
 Spec P0 C 143 [.agg (Qm.c a).toArray,pv (some e)] H (fun v d=>∃ b,v=.bool b∧K b d)
def QcQ (C:Ctx) (a:Qe) (K:Bool→HP) (H:Heap):Prop:=
 Spec P0 C 144 [.agg (Qe.c a).toArray] H (fun v d=>∃ b,v=.bool b∧K b d)
theorem QcQ.gh {C:Ctx} {a:Qe} {K:Bool→HP} {H:Heap} (h:QcQ C a (fun c b=>∃ H0,Gh C b H0∧K c H0) H):QcQ C a K H:=ghm h
def Qe4 (C:Ctx) (a:Str) (K:Bool→HP) (H:Heap):Prop:=
 Spec P0 C 145 [sv a] H (fun v c=>∃ b,v=.bool b∧K b c)
def Qbg (C:Ctx) (b:Sl) (a:Value) (K:Int→HP) (H:Heap):Prop:=
 Spec P0 C 146 [slv b,a] H (fun v d=>∃ c,v=.int .i64 c∧K c d)
def QiR (C:Ctx) (a:Qa) (e:Nat×Nat) (K:Bool→HP) (H:Heap):Prop:=
 Spec P0 C 147 [.agg (Qa.c a).toArray,pv (some e)] H (fun v d=>∃ b,v=.bool b∧K b d)
def Qbf (C:Ctx) (b:Sl) (a:Value) (K:Int→HP) (H:Heap):Prop:=
 Spec P0 C 148 [slv b,a] H (fun v d=>∃ c,v=.int .i64 c∧K c d)
def Qha (C:Ctx) (a:Qq) (e:Nat×Nat) (f:Nat×Nat) (g:Nat×Nat) (K:Bool→HP) (H:Heap):Prop:=
 Spec P0 C 149 [.agg (Qq.c a).toArray,pv (some e),pv (some f),pv (some g)] H (fun v d=>∃ b,v=.bool b∧K b d)
def QcZ (C:Ctx) (a:Sl) (b:Str) (K:Int→HP) (H:Heap):Prop:=
 Spec P0 C 150 [slv a,sv b] H (fun v d=>∃ c,v=.int .i64 c∧K c d)
def Qa1 (C:Ctx) (b:Sl) (a:Value) (K:Int→HP) (H:Heap):Prop:=
 Spec P0 C 151 [slv b,a] H (fun v d=>∃ c,v=.int .i64 c∧K c d)
def QD (C:Ctx) (b:Sl) (a:Value) (K:Bool→HP) (H:Heap):Prop:=
 Spec P0 C 152 [slv b,a] H (fun v d=>∃ c,v=.bool c∧K c d)
def Qox (C:Ctx) (a:Ql) (e:Nat×Nat) (K:Bool→HP) (H:Heap):Prop:=
 Spec P0 C 153 [.agg (Ql.c a).toArray,pv (some e)] H (fun v d=>∃ b,v=.bool b∧K b d)
def QgG (C:Ctx) (b:Qf) (a:Sl) (K:Bool→HP) (H:Heap):Prop:=
 Spec P0 C 154 [.agg (Qf.c b).toArray,slv a] H (fun v e=>∃ d,v=.bool d∧K d e)
def Qb8 (C:Ctx) (E:Value→HP) (d:Option (Nat×Nat)) (b:Qa) (e:Qf) (a:Qk) (K:Qf→HP) (H:Heap):Prop:=
 SpecP P0 C 155 [pv d,.agg (Qa.c b).toArray,.agg (Qf.c e).toArray,.agg (Qk.c a).toArray] H (fun v g=>∃ f,v=.agg (Qf.c f).toArray∧K f g) E
def Qe2 (C:Ctx) (b:Str) (a:Str) (K:Str→Str→Bool→HP) (H:Heap):Prop:=
 Spec P0 C 156 [sv b,sv a] H (fun v f=>∃ c d e,v=.tuple #[sv c,sv d,.bool e]∧K c d e f)
def QiS (C:Ctx) (a:Qq) (e:Nat×Nat) (K:Bool→HP) (H:Heap):Prop:=
 Spec P0 C 157 [.agg (Qq.c a).toArray,pv (some e)] H (fun v d=>∃ b,v=.bool b∧K b d)
def Qai (C:Ctx) (b:Str) (a:Str) (K:Bool→HP) (H:Heap):Prop:=
 Spec P0 C 158 [sv b,sv a] H (fun v d=>∃ c,v=.bool c∧K c d)
def QdD (C:Ctx) (b:Option (Nat×Nat)) (a:Bool) (K:HP) (H:Heap):Prop:=
 Spec P0 C 159 [pv b,.bool a] H (fun v c=>v=.tuple #[]∧K c)
def QcV (C:Ctx) (c:Option (Nat×Nat)) (b:Sl) (a:Value) (K:HP) (H:Heap):Prop:=
 Spec P0 C 160 [pv c,slv b,a] H (fun v d=>v=.tuple #[]∧K d)
def Qe6 (C:Ctx) (a:Str) (c:Nat×Nat) (K:HP) (H:Heap):Prop:=
 Spec P0 C 161 [sv a,pv (some c)] H (fun v b=>v=.tuple #[]∧K b)
def QcA (C:Ctx) (d:Option (Nat×Nat)) (c:Sl) (a:Str) (b:Value) (K:HP) (H:Heap):Prop:=
 Spec P0 C 162 [pv d,slv c,sv a,b] H (fun v e=>v=.tuple #[]∧K e)
def Qe7 (C:Ctx) (a:Qj) (d:Nat×Nat) (K:HP) (H:Heap):Prop:=
 Spec P0 C 163 [.agg (Qj.c a).toArray,pv (some d)] H (fun v b=>v=.tuple #[]∧K b)
def Qaf (C:Ctx) (c:Option (Nat×Nat)) (b:Sl) (a:Value) (K:HP) (H:Heap):Prop:=
 Spec P0 C 164 [pv c,slv b,a] H (fun v d=>v=.tuple #[]∧K d)
def Qfu (C:Ctx) (b:Option (Nat×Nat)) (a:Ql) (K:HP) (H:Heap):Prop:=
 Spec P0 C 165 [pv b,.agg (Ql.c a).toArray] H (fun v d=>v=.tuple #[]∧K d)
def Qp (C:Ctx) (a:Option (Nat×Nat)) (b:Int) (K:Value→HP) (H:Heap):Prop:=
 Spec P0 C 166 [pv a,.int .u8 b] H (fun v d=>∃ c,v=c∧K c d)
theorem Qp.gh {C:Ctx} {a:Option (Nat×Nat)} {b:Int} {K:Value→HP} {H:Heap} (h:Qp C a b (fun d c=>∃ H0,Gh C c H0∧K d H0) H):Qp C a b K H:=ghm h
def Qx (C:Ctx) (c:Option (Nat×Nat)) (b:Sl) (a:Value) (K:HP) (H:Heap):Prop:=
 Spec P0 C 167 [pv c,slv b,a] H (fun v d=>v=.tuple #[]∧K d)
def QdS (C:Ctx) (a:Qe) (d:Nat×Nat) (e:Nat×Nat) (f:Nat×Nat) (K:HP) (H:Heap):Prop:=
 Spec P0 C 168 [.agg (Qe.c a).toArray,pv (some d),pv (some e),pv (some f)] H (fun v b=>v=.tuple #[]∧K b)
def Qag (C:Ctx) (b:Option (Nat×Nat)) (a:Qe) (K:HP) (H:Heap):Prop:=
 Spec P0 C 169 [pv b,.agg (Qe.c a).toArray] H (fun v d=>v=.tuple #[]∧K d)
def QaQ (C:Ctx) (a:Option (Nat×Nat)) (K:HP) (H:Heap):Prop:=
 Spec P0 C 170 [pv a] H (fun v b=>v=.tuple #[]∧K b)
def Qan (C:Ctx) (a:Qf) (K:Int→HP) (H:Heap):Prop:=
 Spec P0 C 171 [.agg (Qf.c a).toArray] H (fun v d=>∃ b,v=.int .i64 b∧K b d)
theorem Qan.gh {C:Ctx} {a:Qf} {K:Int→HP} {H:Heap} (h:Qan C a (fun c b=>∃ H0,Gh C b H0∧K c H0) H):Qan C a K H:=ghm h
def Qa0 (C:Ctx) (a:Sl) (K:Int→HP) (H:Heap):Prop:=
 Spec P0 C 172 [slv a] H (fun v c=>∃ b,v=.int .i64 b∧K b c)
theorem Qa0.gh {C:Ctx} {a:Sl} {K:Int→HP} {H:Heap} (h:Qa0 C a (fun c b=>∃ H0,Gh C b H0∧K c H0) H):Qa0 C a K H:=ghm h
def Qby (C:Ctx) (a:Qe) (K:Int→HP) (H:Heap):Prop:=
 Spec P0 C 173 [.agg (Qe.c a).toArray] H (fun v d=>∃ b,v=.int .i64 b∧K b d)
theorem Qby.gh {C:Ctx} {a:Qe} {K:Int→HP} {H:Heap} (h:Qby C a (fun c b=>∃ H0,Gh C b H0∧K c H0) H):Qby C a K H:=ghm h
def Qc9 (C:Ctx) (a:Str) (K:Bool→HP) (H:Heap):Prop:=
 Spec P0 C 174 [sv a] H (fun v c=>∃ b,v=.bool b∧K b c)
def Qbp (C:Ctx) (a:Str) (K:Bool→HP) (H:Heap):Prop:=
 Spec P0 C 175 [sv a] H (fun v c=>∃ b,v=.bool b∧K b c)
theorem Qbp.gh {C:Ctx} {a:Str} {K:Bool→HP} {H:Heap} (h:Qbp C a (fun c b=>∃ H0,Gh C b H0∧K c H0) H):Qbp C a K H:=ghm h
def QgI (C:Ctx) (a:Str) (K:Bool→HP) (H:Heap):Prop:=
 Spec P0 C 176 [sv a] H (fun v c=>∃ b,v=.bool b∧K b c)
def Qeo (C:Ctx) (a:Str) (K:Bool→HP) (H:Heap):Prop:=
 Spec P0 C 177 [sv a] H (fun v c=>∃ b,v=.bool b∧K b c)
def QbC (C:Ctx) (b:Qe) (a:Bool) (K:Bool→HP) (H:Heap):Prop:=
 Spec P0 C 178 [.agg (Qe.c b).toArray,.bool a] H (fun v e=>∃ d,v=.bool d∧K d e)
theorem QbC.gh {C:Ctx} {b:Qe} {a:Bool} {K:Bool→HP} {H:Heap} (h:QbC C b a (fun d c=>∃ H0,Gh C c H0∧K d H0) H):QbC C b a K H:=ghm h
def Qcj (C:Ctx) (a:Qf) (K:Bool→HP) (H:Heap):Prop:=
 Spec P0 C 179 [.agg (Qf.c a).toArray] H (fun v d=>∃ b,v=.bool b∧K b d)
theorem Qcj.gh {C:Ctx} {a:Qf} {K:Bool→HP} {H:Heap} (h:Qcj C a (fun c b=>∃ H0,Gh C b H0∧K c H0) H):Qcj C a K H:=ghm h
def Qef (C:Ctx) (a:Str) (K:Bool→HP) (H:Heap):Prop:=
 Spec P0 C 180 [sv a] H (fun v c=>∃ b,v=.bool b∧K b c)
def Qhf (C:Ctx) (b:Qf) (a:Sl) (K:Bool→HP) (H:Heap):Prop:=
 Spec P0 C 181 [.agg (Qf.c b).toArray,slv a] H (fun v e=>∃ d,v=.bool d∧K d e)
def QgJ (C:Ctx) (b:Sl) (a:Int) (d:Qf) (K:Qf→Bool→HP) (H:Heap):Prop:=
 Spec P0 C 182 [slv b,.int .i64 a,.agg (Qf.c d).toArray] H (fun v g=>∃ e f,v=.tuple #[.agg (Qf.c e).toArray,.bool f]∧K e f g)
def Qck (C:Ctx) (d:Sl) (c:Int) (a:Int) (b:Str) (K:Str→Bool→HP) (H:Heap):Prop:=
 Spec P0 C 183 [slv d,.int .i64 c,.int .i64 a,sv b] H (fun v g=>∃ e f,v=.tuple #[sv e,.bool f]∧K e f g)
def Qe0 (C:Ctx) (d:Sl) (b:Int) (a:Sl) (K:Sl→Qb→HP) (H:Heap):Prop:=
 Spec P0 C 184 [slv d,.int .i64 b,slv a] H (fun v g=>∃ e f,v=.tuple #[slv e,.agg (Qb.c f).toArray]∧K e f g)
def Qbk (C:Ctx) (a:Qg) (b:Qg) (K:Bool→HP) (H:Heap):Prop:=
 Spec P0 C 185 [.agg (Qg.c a).toArray,.agg (Qg.c b).toArray] H (fun v e=>∃ d,v=.bool d∧K d e)
theorem Qbk.gh {C:Ctx} {a:Qg} {b:Qg} {K:Bool→HP} {H:Heap} (h:Qbk C a b (fun d c=>∃ H0,Gh C c H0∧K d H0) H):Qbk C a b K H:=ghm h
def Qbr (C:Ctx) (a:Qf) (K:Int→HP) (H:Heap):Prop:=
 Spec P0 C 186 [.agg (Qf.c a).toArray] H (fun v d=>∃ b,v=.int .i64 b∧K b d)
theorem Qbr.gh {C:Ctx} {a:Qf} {K:Int→HP} {H:Heap} (h:Qbr C a (fun c b=>∃ H0,Gh C b H0∧K c H0) H):Qbr C a K H:=ghm h
def Qa3 (C:Ctx) (b:Sl) (a:Value) (K:Int→HP) (H:Heap):Prop:=
 Spec P0 C 188 [slv b,a] H (fun v d=>∃ c,v=.int .i64 c∧K c d)
def QbJ (C:Ctx) (b:Sl) (a:Value) (K:Bool→HP) (H:Heap):Prop:=
 Spec P0 C 189 [slv b,a] H (fun v d=>∃ c,v=.bool c∧K c d)
def QgW (C:Ctx) (a:Str) (d:Nat×Nat) (K:Bool→HP) (H:Heap):Prop:=
 Spec P0 C 190 [sv a,pv (some d)] H (fun v c=>∃ b,v=.bool b∧K b c)
def Qih (C:Ctx) (a:Qj) (e:Nat×Nat) (K:Bool→HP) (H:Heap):Prop:=
 Spec P0 C 191 [.agg (Qj.c a).toArray,pv (some e)] H (fun v d=>∃ b,v=.bool b∧K b d)
def Qbh (C:Ctx) (b:Sl) (a:Value) (K:Int→HP) (H:Heap):Prop:=
 Spec P0 C 192 [slv b,a] H (fun v d=>∃ c,v=.int .i64 c∧K c d)
def QhN (C:Ctx) (a:Ql) (e:Nat×Nat) (K:Bool→HP) (H:Heap):Prop:=
 Spec P0 C 193 [.agg (Ql.c a).toArray,pv (some e)] H (fun v d=>∃ b,v=.bool b∧K b d)
def Q4 (C:Ctx) (b:Sl) (a:Value) (K:Bool→HP) (H:Heap):Prop:=
 Spec P0 C 194 [slv b,a] H (fun v d=>∃ c,v=.bool c∧K c d)
theorem Q4.gh {C:Ctx} {b:Sl} {a:Value} {K:Bool→HP} {H:Heap} (h:Q4 C b a (fun d c=>∃ H0,Gh C c H0∧K d H0) H):Q4 C b a K H:=ghm h
def QbF (C:Ctx) (b:Sl) (a:Value) (K:Int→HP) (H:Heap):Prop:=
 Spec P0 C 195 [slv b,a] H (fun v d=>∃ c,v=.int .i64 c∧K c d)
def Qbl (C:Ctx) (b:Sl) (a:Value) (K:Bool→HP) (H:Heap):Prop:=
 Spec P0 C 196 [slv b,a] H (fun v d=>∃ c,v=.bool c∧K c d)
def QjX (C:Ctx) (a:Qe) (e:Nat×Nat) (K:Bool→HP) (H:Heap):Prop:=
 Spec P0 C 197 [.agg (Qe.c a).toArray,pv (some e)] H (fun v d=>∃ b,v=.bool b∧K b d)
def Qcz (C:Ctx) (b:Qe) (a:Bool) (K:Bool→HP) (H:Heap):Prop:=
 Spec P0 C 198 [.agg (Qe.c b).toArray,.bool a] H (fun v e=>∃ d,v=.bool d∧K d e)
theorem Qcz.gh {C:Ctx} {b:Qe} {a:Bool} {K:Bool→HP} {H:Heap} (h:Qcz C b a (fun d c=>∃ H0,Gh C c H0∧K d H0) H):Qcz C b a K H:=ghm h
def Qbo (C:Ctx) (b:Sl) (a:Value) (K:Int→HP) (H:Heap):Prop:=
 Spec P0 C 199 [slv b,a] H (fun v d=>∃ c,v=.int .i64 c∧K c d)
def Qa2 (C:Ctx) (b:Sl) (a:Value) (K:Int→HP) (H:Heap):Prop:=
 Spec P0 C 200 [slv b,a] H (fun v d=>∃ c,v=.int .i64 c∧K c d)
def QaL (C:Ctx) (b:Sl) (a:Value) (K:Int→HP) (H:Heap):Prop:=
 Spec P0 C 201 [slv b,a] H (fun v d=>∃ c,v=.int .i64 c∧K c d)
def QQ (C:Ctx) (b:Sl) (a:Value) (K:Bool→HP) (H:Heap):Prop:=
 Spec P0 C 202 [slv b,a] H (fun v d=>∃ c,v=.bool c∧K c d)
def Qow (C:Ctx) (a:Qf) (e:Nat×Nat) (K:Bool→HP) (H:Heap):Prop:=
 Spec P0 C 203 [.agg (Qf.c a).toArray,pv (some e)] H (fun v d=>∃ b,v=.bool b∧K b d)
def QdH (C:Ctx) (b:Str) (a:Str) (K:Str→Str→Bool→HP) (H:Heap):Prop:=
 Spec P0 C 204 [sv b,sv a] H (fun v f=>∃ c d e,v=.tuple #[sv c,sv d,.bool e]∧K c d e f)
def Qhi (C:Ctx) (d:Option (Nat×Nat)) (c:Sl) (a:Str) (b:Value) (K:HP) (H:Heap):Prop:=
 Spec P0 C 205 [pv d,slv c,sv a,b] H (fun v e=>v=.tuple #[]∧K e)
def Qcf (C:Ctx) (d:Option (Nat×Nat)) (c:Sl) (a:Str) (b:Value) (K:HP) (H:Heap):Prop:=
 Spec P0 C 206 [pv d,slv c,sv a,b] H (fun v e=>v=.tuple #[]∧K e)
def QfO (C:Ctx) (b:Option (Nat×Nat)) (a:Qf) (K:HP) (H:Heap):Prop:=
 Spec P0 C 207 [pv b,.agg (Qf.c a).toArray] H (fun v d=>v=.tuple #[]∧K d)
def QaW (C:Ctx) (d:Option (Nat×Nat)) (c:Sl) (a:Str) (b:Value) (K:HP) (H:Heap):Prop:=
 Spec P0 C 208 [pv d,slv c,sv a,b] H (fun v e=>v=.tuple #[]∧K e)
def Qj2 (C:Ctx) (a:Qg) (K:Str→HP) (H:Heap):Prop:=
 Spec P0 C 209 [.agg (Qg.c a).toArray] H (fun v d=>∃ b,v=sv b∧K b d)
def Qe5 (C:Ctx) (b:Option (Nat×Nat)) (a:Qe) (K:HP) (H:Heap):Prop:=
 Spec P0 C 210 [pv b,.agg (Qe.c a).toArray] H (fun v d=>v=.tuple #[]∧K d)
def Qek (C:Ctx) (b:Option (Nat×Nat)) (a:Qe) (K:HP) (H:Heap):Prop:=
 Spec P0 C 211 [pv b,.agg (Qe.c a).toArray] H (fun v d=>v=.tuple #[]∧K d)
def QfS (C:Ctx) (a:Int) (K:Bool→HP) (H:Heap):Prop:=
 Spec P0 C 213 [.int .u8 a] H (fun v c=>∃ b,v=.bool b∧K b c)
def Qbx (C:Ctx) (a:Qg) (K:Int→HP) (H:Heap):Prop:=
 Spec P0 C 214 [.agg (Qg.c a).toArray] H (fun v d=>∃ b,v=.int .i64 b∧K b d)
theorem Qbx.gh {C:Ctx} {a:Qg} {K:Int→HP} {H:Heap} (h:Qbx C a (fun c b=>∃ H0,Gh C b H0∧K c H0) H):Qbx C a K H:=ghm h
def QbS (C:Ctx) (a:Str) (K:Int→HP) (H:Heap):Prop:=
 Spec P0 C 215 [sv a] H (fun v c=>∃ b,v=.int .i64 b∧K b c)
theorem QbS.gh {C:Ctx} {a:Str} {K:Int→HP} {H:Heap} (h:QbS C a (fun c b=>∃ H0,Gh C b H0∧K c H0) H):QbS C a K H:=ghm h
def Qdc (C:Ctx) (a:Qg) (K:Bool→HP) (H:Heap):Prop:=
 Spec P0 C 216 [.agg (Qg.c a).toArray] H (fun v d=>∃ b,v=.bool b∧K b d)
theorem Qdc.gh {C:Ctx} {a:Qg} {K:Bool→HP} {H:Heap} (h:Qdc C a (fun c b=>∃ H0,Gh C b H0∧K c H0) H):Qdc C a K H:=ghm h
def QgU (C:Ctx) (e:Qa) (a:Int) (b:Str) (d:Bool) (K:Bool→HP) (H:Heap):Prop:=
 Spec P0 C 217 [.agg (Qa.c e).toArray,.int .i64 a,sv b,.bool d] H (fun v g=>∃ f,v=.bool f∧K f g)
def QjT (C:Ctx) (d:Sl) (b:Int) (a:Qe) (K:Qe→Qb→HP) (H:Heap):Prop:=
 Spec P0 C 218 [slv d,.int .i64 b,.agg (Qe.c a).toArray] H (fun v g=>∃ e f,v=.tuple #[.agg (Qe.c e).toArray,.agg (Qb.c f).toArray]∧K e f g)
def QgT (C:Ctx) (a:Sl) (b:Sl) (K:Bool→HP) (H:Heap):Prop:=
 Spec P0 C 219 [slv a,slv b] H (fun v d=>∃ c,v=.bool c∧K c d)
def Q6 (C:Ctx) (b:Sl) (a:Value) (K:Int→HP) (H:Heap):Prop:=
 Spec P0 C 220 [slv b,a] H (fun v d=>∃ c,v=.int .i64 c∧K c d)
theorem Q6.gh {C:Ctx} {b:Sl} {a:Value} {K:Int→HP} {H:Heap} (h:Q6 C b a (fun d c=>∃ H0,Gh C c H0∧K d H0) H):Q6 C b a K H:=ghm h
def Qbw (C:Ctx) (b:Str) (a:Str) (K:Int→HP) (H:Heap):Prop:=
 Spec P0 C 221 [sv b,sv a] H (fun v d=>∃ c,v=.int .i64 c∧K c d)
def Qb3 (C:Ctx) (b:Sl) (a:Value) (K:Int→HP) (H:Heap):Prop:=
 Spec P0 C 222 [slv b,a] H (fun v d=>∃ c,v=.int .i64 c∧K c d)
def QjZ (C:Ctx) (a:Qf) (e:Nat×Nat) (K:Bool→HP) (H:Heap):Prop:=
 Spec P0 C 223 [.agg (Qf.c a).toArray,pv (some e)] H (fun v d=>∃ b,v=.bool b∧K b d)
def QbE (C:Ctx) (b:Sl) (a:Value) (K:Int→HP) (H:Heap):Prop:=
 Spec P0 C 224 [slv b,a] H (fun v d=>∃ c,v=.int .i64 c∧K c d)
def QbU (C:Ctx) (a:Qg) (K:Int→HP) (H:Heap):Prop:=
 Spec P0 C 225 [.agg (Qg.c a).toArray] H (fun v d=>∃ b,v=.int .i64 b∧K b d)
theorem QbU.gh {C:Ctx} {a:Qg} {K:Int→HP} {H:Heap} (h:QbU C a (fun c b=>∃ H0,Gh C b H0∧K c H0) H):QbU C a K H:=ghm h
def Qj0 (C:Ctx) (K:Option Nat→HP) (H:Heap):Prop:=
 Spec P0 C 226 [] H (fun v b=>∃ a,v=mv a∧K a b)
def Qel (C:Ctx) (a:Qg) (K:Bool→HP) (H:Heap):Prop:=
 Spec P0 C 227 [.agg (Qg.c a).toArray] H (fun v d=>∃ b,v=.bool b∧K b d)
theorem Qel.gh {C:Ctx} {a:Qg} {K:Bool→HP} {H:Heap} (h:Qel C a (fun c b=>∃ H0,Gh C b H0∧K c H0) H):Qel C a K H:=ghm h
def QdC (C:Ctx) (a:Qe) (e:Nat×Nat) (K:Bool→HP) (H:Heap):Prop:=
 Spec P0 C 228 [.agg (Qe.c a).toArray,pv (some e)] H (fun v d=>∃ b,v=.bool b∧K b d)
theorem QdC.gh {C:Ctx} {a:Qe} {b:Nat×Nat} {K:Bool→HP} {H:Heap} (h:QdC C a b (fun d c=>∃ H0,Gh C c H0∧K d H0) H):QdC C a b K H:=ghm h
def QbG (C:Ctx) (b:Sl) (a:Value) (K:Int→HP) (H:Heap):Prop:=
 Spec P0 C 229 [slv b,a] H (fun v d=>∃ c,v=.int .i64 c∧K c d)
def Qcc (C:Ctx) (c:Option (Nat×Nat)) (b:Sl) (a:Value) (K:HP) (H:Heap):Prop:=
 Spec P0 C 230 [pv c,slv b,a] H (fun v d=>v=.tuple #[]∧K d)
def QhO (C:Ctx) (a:Sl) (c:Nat×Nat) (d:Nat×Nat) (K:HP) (H:Heap):Prop:=
 Spec P0 C 231 [slv a,pv (some c),pv (some d)] H (fun v b=>v=.tuple #[]∧K b)
def QdX (C:Ctx) (a:Qg) (d:Nat×Nat) (e:Nat×Nat) (K:HP) (H:Heap):Prop:=
 Spec P0 C 232 [.agg (Qg.c a).toArray,pv (some d),pv (some e)] H (fun v b=>v=.tuple #[]∧K b)
def QdO (C:Ctx) (a:Bool) (K:Str→HP) (H:Heap):Prop:=
 Spec P0 C 233 [.bool a] H (fun v c=>∃ b,v=sv b∧K b c)
def QgV (C:Ctx) (b:Int) (a:Int) (K:Str→HP) (H:Heap):Prop:=
 Spec P0 C 234 [.int .i64 b,.int .i64 a] H (fun v d=>∃ c,v=sv c∧K c d)
def QiZ (C:Ctx) (a:Option (Nat×Nat)) (b:Str) (K:HP) (H:Heap):Prop:=
 Spec P0 C 235 [pv a,sv b] H (fun v c=>v=.tuple #[]∧K c)
def Qe3 (C:Ctx) (a:Str) (K:Bool→HP) (H:Heap):Prop:=
 Spec P0 C 236 [sv a] H (fun v c=>∃ b,v=.bool b∧K b c)
def QaO (C:Ctx) (a:Qg) (K:Int→HP) (H:Heap):Prop:=
 Spec P0 C 237 [.agg (Qg.c a).toArray] H (fun v d=>∃ b,v=.int .i64 b∧K b d)
theorem QaO.gh {C:Ctx} {a:Qg} {K:Int→HP} {H:Heap} (h:QaO C a (fun c b=>∃ H0,Gh C b H0∧K c H0) H):QaO C a K H:=ghm h
def QbR (C:Ctx) (a:Qg) (K:Bool→HP) (H:Heap):Prop:=
 Spec P0 C 238 [.agg (Qg.c a).toArray] H (fun v d=>∃ b,v=.bool b∧K b d)
theorem QbR.gh {C:Ctx} {a:Qg} {K:Bool→HP} {H:Heap} (h:QbR C a (fun c b=>∃ H0,Gh C b H0∧K c H0) H):QbR C a K H:=ghm h
def QbQ (C:Ctx) (a:Qg) (K:Bool→HP) (H:Heap):Prop:=
 Spec P0 C 239 [.agg (Qg.c a).toArray] H (fun v d=>∃ b,v=.bool b∧K b d)
theorem QbQ.gh {C:Ctx} {a:Qg} {K:Bool→HP} {H:Heap} (h:QbQ C a (fun c b=>∃ H0,Gh C b H0∧K c H0) H):QbQ C a K H:=ghm h
def Qee (C:Ctx) (a:Str) (K:Bool→HP) (H:Heap):Prop:=
 Spec P0 C 240 [sv a] H (fun v c=>∃ b,v=.bool b∧K b c)
def Qa6 (C:Ctx) (b:Str) (a:Int) (K:Int→HP) (H:Heap):Prop:=
 Spec P0 C 241 [sv b,.int .u8 a] H (fun v d=>∃ c,v=.int .i64 c∧K c d)
def Qg8 (C:Ctx) (a:Int) (K:Int→HP) (H:Heap):Prop:=
 Spec P0 C 243 [.int .i64 a] H (fun v c=>∃ b,v=.int .i64 b∧K b c)
def Qc6 (C:Ctx) (b:Str) (a:Str) (K:Int→HP) (H:Heap):Prop:=
 Spec P0 C 244 [sv b,sv a] H (fun v d=>∃ c,v=.int .i64 c∧K c d)
def Qbz (C:Ctx) (b:Qg) (a:Int) (K:Int→HP) (H:Heap):Prop:=
 Spec P0 C 245 [.agg (Qg.c b).toArray,.int .i64 a] H (fun v e=>∃ d,v=.int .i64 d∧K d e)
theorem Qbz.gh {C:Ctx} {b:Qg} {a:Int} {K:Int→HP} {H:Heap} (h:Qbz C b a (fun d c=>∃ H0,Gh C c H0∧K d H0) H):Qbz C b a K H:=ghm h
def Qao (C:Ctx) (a:Qg) (K:Bool→Bool→HP) (H:Heap):Prop:=
 Spec P0 C 246 [.agg (Qg.c a).toArray] H (fun v e=>∃ b d,v=.tuple #[.bool b,.bool d]∧K b d e)
theorem Qao.gh {C:Ctx} {a:Qg} {K:Bool→Bool→HP} {H:Heap} (h:Qao C a (fun b c d=>∃ H0,Gh C d H0∧K b c H0) H):Qao C a K H:=
 Spec.gh (Spec.mono h fun _ d ⟨b,c,g,H0,hg,f⟩=>⟨H0,hg,b,c,g,f⟩)
def QdR (C:Ctx) (d:Option (Nat×Nat)) (c:Sl) (a:Str) (b:Value) (K:HP) (H:Heap):Prop:=
 Spec P0 C 247 [pv d,slv c,sv a,b] H (fun v e=>v=.tuple #[]∧K e)
def QcD (C:Ctx) (a:Bool) (K:Str→HP) (H:Heap):Prop:=
 Spec P0 C 248 [.bool a] H (fun v c=>∃ b,v=sv b∧K b c)
def QhL (C:Ctx) (a:Str) (K:Bool→HP) (H:Heap):Prop:=
 Spec P0 C 250 [sv a] H (fun v c=>∃ b,v=.bool b∧K b c)
def QiT (C:Ctx) (a:Str) (K:Bool→HP) (H:Heap):Prop:=
 Spec P0 C 251 [sv a] H (fun v c=>∃ b,v=.bool b∧K b c)
def QhK (C:Ctx) (a:Str) (K:Int→HP) (H:Heap):Prop:=
 Spec P0 C 252 [sv a] H (fun v c=>∃ b,v=.int .i64 b∧K b c)
def QhP (C:Ctx) (a:Str) (K:Int→Bool→HP) (H:Heap):Prop:=
 Spec P0 C 255 [sv a] H (fun v d=>∃ b c,v=.tuple #[.int .i64 b,.bool c]∧K b c d)
def Qer (C:Ctx) (a:Str) (K:Bool→HP) (H:Heap):Prop:=
 Spec P0 C 256 [sv a] H (fun v c=>∃ b,v=.bool b∧K b c)
def QdP (C:Ctx) (b:Str) (a:Str) (K:Str→HP) (H:Heap):Prop:=
 Spec P0 C 261 [sv b,sv a] H (fun v d=>∃ c,v=sv c∧K c d)
def QbZ (C:Ctx) (b:Str) (a:Str) (K:Str→HP) (H:Heap):Prop:=
 Spec P0 C 262 [sv b,sv a] H (fun v d=>∃ c,v=sv c∧K c d)
theorem QbZ.gh {C:Ctx} {b:Str} {a:Str} {K:Str→HP} {H:Heap} (h:QbZ C b a (fun d c=>∃ H0,Gh C c H0∧K d H0) H):QbZ C b a K H:=ghm h
def QbP (C:Ctx) (b:Str) (a:Str) (K:Str→HP) (H:Heap):Prop:=
 Spec P0 C 268 [sv b,sv a] H (fun v d=>∃ c,v=sv c∧K c d)
def QjF (C:Ctx) (b:Str) (a:Int) (K:Str→HP) (H:Heap):Prop:=
 Spec P0 C 269 [sv b,.int .u8 a] H (fun v d=>∃ c,v=sv c∧K c d)
def QiV (C:Ctx) (b:Str) (a:Int) (K:Str→HP) (H:Heap):Prop:=
 Spec P0 C 270 [sv b,.int .u8 a] H (fun v d=>∃ c,v=sv c∧K c d)
def Qac (C:Ctx) (a:Str) (K:List Value→Bool→HP) (H:Heap):Prop:=
 Spec P0 C 271 [sv a] H (fun v d=>∃ b c,v=.tuple #[.agg (List.toArray b),.bool c]∧K b c d)
theorem Qac.gh {C:Ctx} {a:Str} {K:List Value→Bool→HP} {H:Heap} (h:Qac C a (fun b c d=>∃ H0,Gh C d H0∧K b c H0) H):Qac C a K H:=
 Spec.gh (Spec.mono h fun _ d ⟨b,c,g,H0,hg,f⟩=>⟨H0,hg,b,c,g,f⟩)
def Qcx (C:Ctx) (b:Str) (a:Option (Nat×Nat)) (K:Str→HP) (H:Heap):Prop:=
 Spec P0 C 272 [sv b,pv a] H (fun v d=>∃ c,v=sv c∧K c d)
def Qcb (C:Ctx) (b:Str) (a:Option (Nat×Nat)) (K:Str→HP) (H:Heap):Prop:=
 Spec P0 C 273 [sv b,pv a] H (fun v d=>∃ c,v=sv c∧K c d)
def QhM (C:Ctx) (b:Str) (a:Str) (K:Str→HP) (H:Heap):Prop:=
 Spec P0 C 274 [sv b,sv a] H (fun v d=>∃ c,v=sv c∧K c d)
def Qhb (C:Ctx) (b:Str) (a:Str) (K:Str→HP) (H:Heap):Prop:=
 Spec P0 C 275 [sv b,sv a] H (fun v d=>∃ c,v=sv c∧K c d)
def QaR (C:Ctx) (a:Option (Nat×Nat)) (b:Int) (K:Bool→HP) (H:Heap):Prop:=
 Spec P0 C 278 [pv a,.int .u8 b] H (fun v d=>∃ c,v=.bool c∧K c d)
end
end Sx
end
