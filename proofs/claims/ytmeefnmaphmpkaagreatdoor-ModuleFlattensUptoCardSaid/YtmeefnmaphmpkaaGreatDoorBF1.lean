/-
  Texts of this family, one behind the other: SxBase, SxOps, SxMem, SxApp, SxReg, SxAll, SxAny, SxLaw, SxUser, SxMore, SxArr, SxBld, SxClr, SxTwo, SxRf, SxZip, SxZip2, SxMapK, SxUn, SxUse2, SxRow, SxDoor, SxPan, SxEqT, SxRec, SxAd.
-/
import Derived.RangeFuncRecord
import Derived.Tactics
import Derived.Deep.Quiet
import Derived.StillTail
import Derived.Scope
import Derived.WalkMore
import Derived.WalkKit
import Derived.OrdersHeld
import Derived.ProofKit
import Derived.OpenShut
import Derived.ShutString
import Derived.ChangeOld
import Derived.Below
import Derived.WideKeyArgs
import Derived.Deep.Slices
import Derived.IntWalk
import Derived.Lib.Builder
import Derived.Lib.UnsafeStr
import Derived.Lib.MakeNoZero
import Derived.Lib.Bytealg
import Derived.WalkSpells
import Derived.Lib.LazyBuf
import Derived.RangeFuncIn
import Derived.RangeFuncLeaves
import Derived.OrdersIn
import Derived.LoopNIn
import Derived.MapKept
import Derived.Deep.DeepHandedRow
import Derived.Recover
noncomputable section
set_option linter.unusedVariables false
set_option linter.unusedSimpArgs false
set_option maxRecDepth 10000
namespace Sx
section
open Go
theorem Va {α:Type _} {a b:List α}:(a++b).length=a.length+b.length:=List.length_append
theorem Vb {p:Prop} [Decidable p] (h:decide p=true):p:=of_decide_eq_true h
theorem Vc {p:Prop} [Decidable p] (h:decide p=false):¬p:=of_decide_eq_false h
theorem Vd {α:Type _} {a:α} {l:List α}:(a::l).length=l.length+1:=List.length_cons
theorem Ve (a b:Bool):((a&&b)=true)=(a=true∧b=true):=Bool.and_eq_true a b
theorem Vf {α:Type _} {l:List α} {i:Nat} (h:i<l.length):l[i]?=some l[i]:=List.getElem?_eq_getElem h
theorem Vg {α:Type _} {l:List α} {n:Nat} (h:n<l.length):l[n] ∈ l:=List.getElem_mem h
theorem Vh {α:Type _} {a:α} (l:List α) {m:List α} (h:a ∈ m):a ∈ l++m:=List.mem_append_right l h
theorem Vi {α:Type _} {a:α} {l:List α} (m:List α) (h:a ∈ l):a ∈ l++m:=List.mem_append_left m h
theorem Vj {p:Prop} [Decidable p]:(decide p=true)=p:=decide_eq_true_eq
theorem Vk {α:Type _}:([]:List α).length=0:=List.length_nil
theorem Vl {α:Type _} {l:List α}:l.take l.length=l:=List.take_length
theorem Vm {p q:Prop} [Decidable p] [Decidable q]:decide p=decide q↔(p↔q):=decide_eq_decide
theorem Vn {a b:Bool}:a=b↔(a=true↔b=true):=Bool.eq_iff_iff
theorem Vo {α:Type _} (a:α):(some a).toList=[a]:=Option.toList_some a
theorem Vp {α:Type _} {l:List α} {i:Nat}:l.take (i+1)=l.take i++l[i]?.toList:=List.take_add_one
inductive GO where
 | row (c:List Value)
  | trow (t:TypeId) (k:Nat) (c:List Value)
  | bld (T e:TypeId) (bs:List UInt8)
 | obj (o:Obj)
def GO.isBld:GO→Bool
 | .bld _ _ _=>true
 | _=>false
def GO.cells?:GO→Option (List Value)
 | .row c=>some c
 | .trow _ _ c=>some c
 | _=>none
abbrev Heap:=Nat→Option (Bool×GO)
abbrev HP:=Heap→Prop
structure Ctx where
 old:Array Obj
 out:Array (Nat×ByteArray)
 os:Os
 tape:Nat→Question→Nat
 drawn:Nat
def GO.rel (m:Bool):GO→Obj→Prop
 | .row c,.cells c' _ fr=>c' = c.toArray∧(m=true→fr.1=fr.2∨c.length≤fr.1)
 | .trow t k c,.cells c' t' fr=>c' = c.toArray∧t' = t∧(m=true→fr.1=fr.2∨fr.2≤k)
 | .bld _ _ _,_=>True
 | .obj o,o'=>o' = o∧∀ c t fr,o≠.cells c t fr
 | _,_=>False
def BufAt (C:Ctx) (w:World) (H:Heap) (b:Nat) (T e:TypeId) (bs:List UInt8):Option Nat→Prop
 | none=>∃ (p:Option Addr) (fr:Nat×Nat),w.heap[b]? = some (.cells #[.pointer p,.slice none 0 0] T fr)∧(p=none∨p=some ⟨b,0,none⟩)∧(fr.1=fr.2∨fr.2≤0)∧bs=[]
 | some g => ∃ (p : Option Addr) (fr : Nat × Nat) (cap : Nat) (row : Array Value) (fr' : Nat × Nat), w.heap[b]? = some (.cells #[.pointer p, .slice (some ⟨g, 0, none⟩) bs.length cap] T fr) ∧ (p = none ∨ p = some ⟨b, 0, none⟩) ∧ (fr.1 = fr.2 ∨ fr.2 ≤ 0) ∧
  H g=none∧C.old.size≤g∧w.heap[g]? = some (.cells row e fr')∧(∀ (j:Nat) (c:UInt8),bs[j]? = some c→row[j]? = some (Value.int .u8 (c.toNat:Int)))∧cap=row.size∧cap≠0∧bs.length≤cap∧(fr'.1=fr'.2∨fr'.2≤bs.length)
structure Blds (C:Ctx) (w:World) (H:Heap) (B:Nat→Option Nat):Prop where
 at_:∀ b m T e bs,H b=some (m,.bld T e bs)→m=true∧BufAt C w H b T e bs (B b)
 inj:∀ b b' g m T e bs m' T' e' bs',H b=some (m,.bld T e bs)→H b' = some (m',.bld T' e' bs')→B b=some g→B b' = some g→b=b'
structure St (C:Ctx) (w:World) (H:Heap):Prop where
 blk:∀ b m g,H b=some (m,g)→∃ o,w.heap[b]? = some o∧g.rel m o
 wri:∀ b g,H b=some (true,g)→C.old.size≤b
 old:∀ b:Nat,b < C.old.size→w.heap[b]? = C.old[b]?
 out:w.output=C.out
 os:(w.os,w.tape)=(C.os,C.tape)∧C.drawn≤w.drawn
 bld:∃ B,Blds C w H B
theorem BufAt.stays {C:Ctx} {w i:World} {H j:Heap} {b:Nat} {T e:TypeId} {bs:List UInt8} {d:Option Nat} (h:BufAt C w H b T e bs d) (m:i.heap[b]? = w.heap[b]?)
 (hg:∀ g,d=some g→i.heap[g]? = w.heap[g]?∧j g=none):BufAt C i j b T e bs d:=by
 cases d with
 | none=>simp only [BufAt] at h ⊢; rw [m]; exact h
 | some g=>
  obtain ⟨p,r,cap,row,f,t,u,x,B,y,z,A⟩:=h
  obtain ⟨o,q⟩:=hg g rfl
  exact ⟨p,r,cap,row,f,by rw [m]; exact t,u,x,q,y,by rw [o]; exact z,A⟩
def Heap.put (H:Heap) (b:Nat) (g:GO) (m:Bool:=true):Heap:=fun x=>if x=b then some (m,g) else H x
theorem Xa (H:Heap) (b:Nat) (g:GO) (m:Bool):H.put b g m b=some (m,g):=by simp [Heap.put]
theorem Xb (H:Heap) {b x:Nat} (g:GO) (m:Bool) (h:x≠b):H.put b g m x=H x:=by simp [Heap.put,h]
def Heap.le (H H':Heap):Prop:=∀ b e,H b=some e→H' b=some e
theorem Heap.le.refl (H:Heap):H.le H:=fun _ _ h=>h
theorem Heap.le.trans {A B D:Heap} (h:A.le B) (d:B.le D):A.le D:=fun b e x=>d b e (h b e x)
theorem Heap.le.put {A B:Heap} {b:Nat} (g:GO) (m:Bool) (h:A.le B) (d:A b=none):A.le (B.put b g m):=fun x e hx=>by
 by_cases hxb:x=b
 ·subst hxb; rw [d] at hx; cases hx
 ·rw [Xb _ _ _ hxb]; exact h x e hx
theorem Heap.le.none {A B:Heap} {b:Nat} (h:A.le B) (d:B b=none):A b=none:=by
 cases ha:A b with
 | none=>rfl
 | some e=>have:=h b e ha; rw [d] at this; cases this
theorem St.weaken {C:Ctx} {w:World} {H o:Heap} (h:St C w o) (le:H.le o):St C w H:=
 ⟨fun b m g x=>h.blk b m g (le b _ x),fun b g x=>h.wri b g (le b _ x),h.old,h.out,h.os,by
  obtain ⟨B,r⟩:=h.bld
  refine ⟨B,fun b m T e bs i=>?_,fun b q g m T e bs z t u d i j=>r.inj b q g m T e bs z t u d (le b _ i) (le q _ j)⟩
  obtain ⟨y,f⟩:=r.at_ b m T e bs (le b _ i)
  refine ⟨y,f.stays rfl fun g hg=>⟨rfl,le.none ?_⟩⟩
  rw [hg] at f
  exact f.choose_spec.choose_spec.choose_spec.choose_spec.choose_spec.2.2.2.1⟩
theorem St.lt {C:Ctx} {w:World} {H:Heap} (h:St C w H) {b:Nat} {e} (d:H b=some e):b < w.heap.size:=by
 obtain ⟨o,f,_⟩:=h.blk b e.1 e.2 d
 exact (Array.getElem?_eq_some_iff.1 f).1
theorem St.old_le {C:Ctx} {w:World} {H:Heap} (h:St C w H):C.old.size≤w.heap.size:=by
 rcases Nat.eq_zero_or_pos C.old.size with h0 | h0
 ·omega
 ·have := h.old (C.old.size - 1) (by omega)
  have b:(C.old[C.old.size - 1]?).isSome:=by simp; omega
  rw [← this] at b
  have d:C.old.size - 1 < w.heap.size:=by simpa using b
  omega
theorem St.drew {C:Ctx} {w:World} {H:Heap} (h:St C w H):St C { w with drawn:=w.drawn+1 } H:=
 ⟨h.blk,h.wri,h.old,h.out,⟨h.os.1,Nat.le_succ_of_le h.os.2⟩,by
  obtain ⟨B,d⟩:=h.bld
  exact ⟨B,fun b m T e bs f=>⟨(d.at_ b m T e bs f).1,(d.at_ b m T e bs f).2.stays rfl fun g hg=>⟨rfl,by
   have i:=(d.at_ b m T e bs f).2
   rw [hg] at i
   exact i.choose_spec.choose_spec.choose_spec.choose_spec.choose_spec.2.2.2.1⟩⟩,d.inj⟩⟩
theorem BufAt.at_ {C:Ctx} {w:World} {H:Heap} {b:Nat} {T e:TypeId} {bs:List UInt8} {f:Option Nat} (h:BufAt C w H b T e bs f):(∃ c fr,w.heap[b]? = some (.cells c T fr))∧∀ g,f=some g→H g=none∧C.old.size≤g∧∃ o,w.heap[g]? = some o:=by
 cases f with
 | none=>
  obtain ⟨p,fr,d,_⟩:=h
  exact ⟨⟨_,_,d⟩,fun g hg=>by cases hg⟩
 | some g=>
  obtain ⟨p,fr,cap,row,i,d,t,u,j,m,q,x⟩:=h
  exact ⟨⟨_,_,d⟩,fun r hg=>by injection hg with hg; subst hg; exact ⟨j,m,_,q⟩⟩
theorem St.fresh {C:Ctx} {w:World} {H:Heap} (h:St C w H):H w.heap.size=none:=by
 cases hb:H w.heap.size with
 | none=>rfl
 | some e=>have:=h.lt hb; omega
theorem St.push {C : Ctx} {w : World} {H : Heap} (h : St C w H) {o : Obj} {g : GO} {m : Bool} (hr : g.rel m o) (hg0 : g.isBld = false := by rfl) :
 St C { w with heap:=w.heap.push o } (H.put w.heap.size g m):=by
 have hol:=h.old_le
 refine ⟨fun b m' g' x=>?_,fun b g' x=>?_,fun b hb=>?_,h.out,h.os,?_⟩
 rotate_left 3
 ·obtain ⟨B,hB⟩:=h.bld
  have hne:∀ b m T e bs,(H.put w.heap.size g m) b=some (m,.bld T e bs)→b≠w.heap.size:=fun b m T e bs hb e'=>by
   subst e'; rw [Xa] at hb; injection hb with hb; injection hb with _ hb; rw [hb] at hg0; cases hg0
  have hold:∀ b m' T e bs,(H.put w.heap.size g m) b=some (m',.bld T e bs)→H b=some (m',.bld T e bs):=fun b m' T e bs hb=>by
   by_cases e':b=w.heap.size
   ·subst e'; rw [Xa] at hb; injection hb with hb; injection hb with _ hb; rw [hb] at hg0; cases hg0
   ·rwa [Xb _ _ _ e'] at hb
  refine ⟨B,fun b m' T e bs hb=>?_,fun b b' g' m T e bs m' T' e' bs' hb hb'=>hB.inj b b' g' m T e bs m' T' e' bs' (hold _ _ _ _ _ hb) (hold _ _ _ _ _ hb')⟩
  have hb:=hold _ _ _ _ _ hb
  obtain ⟨h1,h2⟩:=hB.at_ b m' T e bs hb
  have hlt:=h.lt hb
  obtain ⟨_,h3⟩:=h2.at_
  refine ⟨h1,h2.stays ?_ fun g' hg'=>?_⟩
  ·have : b ≠ w.heap.size := by omega
   simp [Array.getElem?_push,this]
  ·obtain ⟨q1,q2,o',q3⟩:=h3 g' hg'
   have hl:g' < w.heap.size:=(Array.getElem?_eq_some_iff.1 q3).1
   have:g' ≠ w.heap.size:=by omega
   exact ⟨by simp [Array.getElem?_push,this],by rw [Xb _ _ _ this]; exact q1⟩
 ·by_cases hbb:b=w.heap.size
  ·subst hbb
   rw [Xa] at x
   injection x with x; injection x with x1 x2; subst x1; subst x2
   exact ⟨o,by simp,hr⟩
  ·rw [Xb _ _ _ hbb] at x
   obtain ⟨o',ho',hr'⟩:=h.blk b m' g' x
   have:=h.lt x
   exact ⟨o',by simp [Array.getElem?_push,hbb,ho'],hr'⟩
 ·by_cases hbb:b=w.heap.size
  ·subst hbb; exact hol
  ·rw [Xb _ _ _ hbb] at x; exact h.wri b g' x
 ·have : b ≠ w.heap.size := by omega
  rw [← h.old b hb]
  simp [Array.getElem?_push,this]
theorem St.set {C:Ctx} {w w':World} {H:Heap} (h:St C w H) {b:Nat} {g g':GO} {o':Obj} (hb:H b=some (true,g))
 (hs:w'.output=w.output∧(w'.os,w'.tape,w'.drawn)=(w.os,w.tape,w.drawn)∧w'.heap[b]? = some o'∧∀ x,x≠b→w'.heap[x]? = w.heap[x]?) (hr:g'.rel true o') (hg0:g'.isBld=false:=by rfl) :
 St C w' (H.put b g'):=by
 obtain ⟨h1,h2,h3,h4⟩:=hs
 have hm:=h.wri b g hb
 refine ⟨fun x m' g'' hx=>?_,fun x g'' hx=>?_,fun x hx=>?_,h1.trans h.out,⟨(congrArg (fun q:Os×(Nat→Question→Nat)×Nat=>(q.1,q.2.1)) h2).trans h.os.1,by rw [show w'.drawn=w.drawn from congrArg (fun q:Os×(Nat→Question→Nat)×Nat=>q.2.2) h2]; exact h.os.2⟩,?_⟩
 rotate_left 3
 ·obtain ⟨B,hB⟩:=h.bld
  have hold:∀ x m' T e bs,(H.put b g') x=some (m',.bld T e bs)→x≠b∧H x=some (m',.bld T e bs):=fun x m' T e bs hx=>by
   by_cases e':x=b
   ·subst e'; rw [Xa] at hx; injection hx with hx; injection hx with _ hx; rw [hx] at hg0; cases hg0
   ·exact ⟨e',by rwa [Xb _ _ _ e'] at hx⟩
  refine ⟨B,fun x m' T e bs hx=>?_,fun x x' g'' m T e bs m' T' e' bs' hx hx'=>hB.inj x x' g'' m T e bs m' T' e' bs' (hold _ _ _ _ _ hx).2 (hold _ _ _ _ _ hx').2⟩
  obtain ⟨hxb,hx⟩:=hold _ _ _ _ _ hx
  obtain ⟨q1,q2⟩:=hB.at_ x m' T e bs hx
  obtain ⟨_,q3⟩:=q2.at_
  refine ⟨q1,q2.stays (h4 x hxb) fun g'' hg''=>?_⟩
  obtain ⟨r1,r2,_⟩:=q3 g'' hg''
  have hne:g'' ≠ b:=fun e'=>by subst e'; rw [hb] at r1; cases r1
  exact ⟨h4 _ hne,by rw [Xb _ _ _ hne]; exact r1⟩
 ·by_cases hxb:x=b
  ·subst hxb
   rw [Xa] at hx
   injection hx with hx; injection hx with x1 x2; subst x1; subst x2
   exact ⟨o',h3,hr⟩
  ·rw [Xb _ _ _ hxb] at hx
   obtain ⟨o,ho,hr'⟩:=h.blk x m' g'' hx
   exact ⟨o,by rw [h4 x hxb]; exact ho,hr'⟩
 ·by_cases hxb:x=b
  ·subst hxb; exact hm
  ·rw [Xb _ _ _ hxb] at hx; exact h.wri x g'' hx
 ·have : x ≠ b := by omega
  rw [h4 x this]; exact h.old x hx
def Post (C:Ctx) (Φ:Value→HP):Ending→World→Prop:=fun e w'=>∃ v H',e=.returned v∧St C w' H'∧Φ v H'
def Spec (P:Program) (C:Ctx) (f:FuncId) (args:List Value) (H:Heap) (Φ:Value→HP):Prop:=
 ∀ w,St C w H→Calls P f args.toArray w (Post C Φ)
theorem Spec.mono {P:Program} {C:Ctx} {f:FuncId} {args:List Value} {H:Heap} {Φ Ψ:Value→HP} (h:Spec P C f args H Φ)
 (i:∀ v H',Φ v H'→Ψ v H'):Spec P C f args H Ψ:=
 fun w j=>(h w j).mono fun e m ⟨v,H',b,d,g⟩=>⟨v,H',b,d,i _ _ g⟩
def lk:List (Nat×Value)→Nat→Option Value
 | [],_=>none
 | (d,v)::l,t=>bif Nat.beq t d then some v else lk l t
structure FN where
 n:Nat
 ds:List Deferred
structure Fr (n:FN) (l:List (Nat×Value)) (a:Act):Prop where
 size:a.tmps.size=n.n
 defers:a.defers=n.ds
 get:∀ t v,lk l t=some v→a.tmps[t]? = some v
def Sub (l:List (Nat×Value)):List (Nat×Value)→Prop
 | []=>True
 | (d,v)::r=>lk l d=some v∧Sub l r
theorem Sub.lk {l:List (Nat×Value)}:∀ {r:List (Nat×Value)},Sub l r→∀ t v,Sx.lk r t=some v→Sx.lk l t=some v
 | [],_,t,v,h=>by cases h
 | (d,u)::r,hs,t,v,h=>by
  simp only [Sx.lk] at h
  cases hb:Nat.beq t d with
  | true=>
   rw [hb] at h
   have:t=d:=Nat.eq_of_beq_eq_true hb
   subst this
   simp only [cond_true] at h
   rw [← h]; exact hs.1
  | false=>rw [hb] at h; exact Sub.lk hs.2 t v h
theorem Fr.sub {n:FN} {l r:List (Nat×Value)} {a:Act} (h:Fr n l a) (b:Sub l r):Fr n r a:=
 ⟨h.size,h.defers,fun t v x=>h.get t v (b.lk t v x)⟩
theorem Fr.put {n:FN} {d:Nat} {l:List (Nat×Value)} {a:Act} {v:Value} (h:Fr n l a) (f:Nat.blt d n.n=true):Fr n ((d,v)::l) (a.put (some d) v):=by
 have hd':d < n.n:=by simpa using f
 refine ⟨by simp [Act.put,h.size],by simp [Act.put,h.defers],fun t u x=>?_⟩
 simp only [lk] at x
 cases hb:Nat.beq t d with
 | true=>
  rw [hb] at x
  have:t=d:=Nat.eq_of_beq_eq_true hb
  subst this
  simp only [cond_true,Option.some.injEq] at x
  subst x
  have:=h.size
  have b:t < a.tmps.size:=by omega
  simp [Act.put,b]
 | false=>
  rw [hb] at x
  have:t≠d:=Nat.ne_of_beq_eq_false hb
  simp only [cond_false] at x
  simp only [Act.put]
  rw [Array.getElem?_setIfInBounds_ne (Ne.symm this)]
  exact h.get t u x
def opv (l:List (Nat×Value)):Operand→Option Value
 | .tmp t=>lk l t
 | .const v=>some v
 | .global g=>some (.pointer (some ⟨g,0,none⟩))
 | .func f=>some (.func (.func f) #[] #[])
theorem Fr.ev {n:FN} {l:List (Nat×Value)} {a:Act} {x:Operand} {v:Value} (h:Fr n l a) (hx:opv l x=some v):a.eval x=v:=by
 cases x with
 | tmp t=>have:=h.get t v hx; simp [Act.eval,Array.getD_eq_getD_getElem?,this]
 | const u=>simpa [opv,Act.eval] using hx
 | global g=>simpa [opv,Act.eval] using hx
 | func f=>simpa [opv,Act.eval] using hx
def opvs (l:List (Nat×Value)):List Operand→Option (List Value)
 | []=>some []
 | x :: xs => match opv l x, opvs l xs with
  | some v,some vs=>some (v::vs)
  | _,_=>none
theorem Fr.evs {n:FN} {l:List (Nat×Value)} {a:Act} (h:Fr n l a):∀ {xs:List Operand} {vs:List Value},opvs l xs=some vs→xs.map a.eval=vs
 | [],vs,hx=>by simpa [opvs] using hx
 | x::xs,vs,hx=>by
  simp only [opvs] at hx
  split at hx
  ·rename_i v us h1 h2
   injection hx with hx
   subst hx
   simp [h.ev h1,h.evs h2]
  ·cases hx
section
variable (P:Program) (C:Ctx)
def GC (Q:Exit→Act→World→Prop) (n:FN) (c:Code) (l:List (Nat×Value)) (H:Heap):Prop:=
 ∀ a w,Fr n l a→St C w H→c.wp P Q a w
def GL (ops:Array Oper) (Q:Exit→Act→World→Prop) (n:FN) (rest:List Oper) (l:List (Nat×Value)) (H:Heap):Prop:=
 ∀ a w,Fr n l a→St C w H→wpList P ops Q rest a w
end
section
variable {P:Program} {C:Ctx} {Q:Exit→Act→World→Prop} {n:FN} {l:List (Nat×Value)} {H:Heap}
theorem GC.region {f:Nat} {ops:List Oper} (k:GL P C ops.toArray Q n ops l H):GC P C Q n (.region f ops.toArray false) l H:=
 fun a w b d=>wp_region_lit (k a w b d)
theorem GC.seq {x y:Code} (k:GC P C (Exit.then (y.wp P Q) Q) n x l H):GC P C Q n (.seq x y) l H:=
 fun a w b d=>wp_seq (k a w b d)
theorem GL.nil {ops:Array Oper} {y:Code} (k:GC P C Q n y l H):GL P C ops (Exit.then (y.wp P Q) Q) n [] l H:=
 fun a w b d=>k a w b d
theorem GC.skip {y:Code} (k:GC P C Q n y l H):GC P C (Exit.then (y.wp P Q) Q) n .skip l H:=
 fun a w b d=>wp_skip (k a w b d)
def Meet (C:Ctx) (n:FN) {α:Type} (J:α→HP) (e:α→List (Nat×Value)) (a:Act) (w:World):Prop:=
 ∃ x H',J x H'∧Fr n (e x) a∧St C w H'
theorem Meet.mk {α:Type} {J:α→HP} {e:α→List (Nat×Value)} {a:Act} {w:World} (x:α) (d:J x H) (f:Sub l (e x)) (b:Fr n l a) (g:St C w H) :
 Meet C n J e a w:=⟨x,H,d,b.sub f,g⟩
theorem Xad {α:Type} (J:α→HP) (e:α→List (Nat×Value)) {x y:Code}
 (i:GC P C (Exit.then (Meet C n J e) Q) n x l H) (j:∀ x H',J x H'→GC P C Q n y (e x) H'):GC P C Q n (.seq x y) l H:=
 fun a w m q=>wp_seq (wp_mono (i a w m q) fun h g r f=>by
  cases h with
  | normal=>obtain ⟨x,H',o,b,d⟩:=f; exact j x H' o g r b d
  | _=>exact f)
theorem GL.jump {α:Type} {J:α→HP} {e:α→List (Nat×Value)} {ops:Array Oper} (f:∀ a w,Meet C n J e a w→Q .normal a w) (x:α) (d:J x H) (g:Sub l (e x)) :
 GL P C ops Q n [] l H:=fun a w b h=>f a w (Meet.mk x d g b h)
theorem GC.jump {α:Type} {J:α→HP} {e:α→List (Nat×Value)} (f:∀ a w,Meet C n J e a w→Q .normal a w) (x:α) (d:J x H) (g:Sub l (e x)) :
 GC P C Q n .skip l H:=fun a w b h=>wp_skip (f a w (Meet.mk x d g b h))
theorem Xab {α:Type} {J:α→HP} {e:α→List (Nat×Value)} {b:Nat} (g:∀ a w,Meet C n J e a w→Q (.exit b) a w) (x:α) (f:J x H) (h:Sub l (e x)) :
 GC P C Q n (.exit b) l H:=fun a w d i=>wp_exit (g a w (Meet.mk x f h d i))
theorem GC.cond {c:Operand} {x y:Code} {b:Bool} (j:opv l c=some (.bool b)) (g:b=true→GC P C Q n x l H) (i:b=false→GC P C Q n y l H) :
 GC P C Q n (.cond c x y) l H:=
 fun a w d f=>wp_cond_split (d.ev j) (fun h=>g h a w d f) (fun h=>i h a w d f)
theorem GC.block {b:Nat} {c:Code} (k:GC P C (Exit.inBlock b Q) n c l H):GC P C Q n (.block b c) l H:=
 fun a w d f=>wp_block (k a w d f)
theorem QsH {c:Code} {a:Act} {w:World} (I:Nat→Act→World→Prop) {m:Nat} (A:I m a w)
 (h:∀ m a w,I m a w→c.wp P (Exit.then (fun a' w'=>∃ m',m' < m∧I m' a' w') Q) a w):(Code.loop c).wp P Q a w:=by
 intro b k cs
 have t:∀ m a w,I m a w→∃ e a' w',Q e a' w'∧Arrives P (lone (b.at a (.code c::.inLoop c::k)) cs w) b k cs e a' w':=by
  intro m
  induction m using Nat.strongRecOn with
  | _ m ih=>
   intro a w z
   obtain ⟨e,i,j,f,d⟩:=h m a w z b (.inLoop c::k) cs
   cases e with
   | normal=>
    obtain ⟨m',q,o⟩:=f
    obtain ⟨y,u,B,r,g⟩:=ih m' q i j o
    exact ⟨y,u,B,r,.of_steps (Steps.trans d (.one step_inLoop)) g⟩
   | exit id=>exact ⟨_,i,j,f,.pass (x:=.inLoop c) rfl (fun _ _=>.inl (by simp)) d⟩
   | goto l=>exact ⟨_,i,j,f,.pass (x:=.inLoop c) rfl (fun _ _=>.inl (by simp)) d⟩
   | ret=>exact ⟨_,i,j,f,.pass (x:=.inLoop c) rfl (fun _ _=>.inl (by simp)) d⟩
   | panic ch=>exact ⟨_,i,j,f,.pass (x:=.inLoop c) rfl (fun _ _=>.inl (by simp)) d⟩
   | outgrown=>exact ⟨_,i,j,f,.pass (x:=.inLoop c) rfl (fun _ _=>.inl (by simp)) d⟩
 obtain ⟨e,a',w',f,d⟩:=t _ a w A
 exact ⟨e,a',w',f,.of_steps (.one step_loop) d⟩
def lp {α:Type} (x0:α) (H:Heap) (body:α→(α→HP)→HP):Prop:=
 ∃ (I:α→HP) (μ:α→Heap→Nat),I x0 H∧∀ x H,I x H→body x (fun x' H'=>I x' H'∧μ x' H' < μ x H) H
theorem GC.loop {α:Type} {r:α} {body:α→(α→HP)→HP} (h:lp r H body) (e:α→List (Nat×Value)) (B:Sub l (e r)) {c:Code}
 (b:∀ x H' (J:α→HP),body x J H'→GC P C (Exit.then (Meet C n J e) Q) n c (e x) H'):GC P C Q n (.loop c) l H:=by
 obtain ⟨I,μ,h0,A⟩:=h
 intro a w z D
 refine QsH (fun m a w=>∃ x H',μ x H' = m∧I x H'∧Fr n (e x) a∧St C w H') ⟨r,H,rfl,h0,z.sub B,D⟩ ?_
 rintro m a w ⟨x,H',rfl,y,j,q⟩
 refine wp_mono (b x H' _ (A x H' y) a w j q) fun u F G t=>?_
 cases u with
 | normal=>
  obtain ⟨E,g,⟨i,o⟩,d,f⟩:=t
  exact ⟨_,o,E,g,rfl,i,d,f⟩
 | _=>exact t
def jn {α:Type} (R:α→HP) (body:(α→HP)→Prop):Prop:=∃ J:α→HP,body J∧∀ x H,J x H→R x H
theorem jn.inl {α:Type} {R:α→HP} {body:(α→HP)→Prop} (h:body R):jn R body:=⟨R,h,fun _ _ h=>h⟩
def ift (c:Bool) (A B:Prop):Prop:=(c=true→A)∧(c=false→B)
theorem ift.of {c:Bool} {A B:Prop} (b:c=true→A) (d:c=false→B):ift c A B:=⟨b,d⟩
def argFrame (args:List Value):List (Nat×Value):=args.zipIdx.map fun p=>(p.2,p.1)
theorem Qj9 : ∀ (args : List Value) (k t : Nat) (v : Value), lk ((args.zipIdx k).map fun p => (p.2, p.1)) t = some v → k ≤ t ∧ args[t - k]? = some v
 | [],k,t,v,h=>by simp [lk] at h
 | a::azs,k,t,v,h=>by
  simp only [List.zipIdx_cons,List.map_cons,lk] at h
  cases hb:Nat.beq t k with
  | true=>
   rw [hb] at h
   have:t=k:=Nat.eq_of_beq_eq_true hb
   subst this
   simp only [cond_true,Option.some.injEq] at h
   subst h
   simp
  | false=>
   rw [hb] at h
   have b:t≠k:=Nat.ne_of_beq_eq_false hb
   have d:=Qj9 azs (k+1) t v h
   refine ⟨by omega,?_⟩
   have:t - k=(t - (k+1))+1:=by omega
   rw [this]; simpa using d.2
def SpecPost (P:Program) (C:Ctx) (fn:Func) (Φ:Value→HP):Exit→Act→World→Prop
 | .normal,a,w | .ret,a,w=>LeavesInM Fence.wide 0 P fn a.tmps (Post C Φ) a.defers .returning w
 | _,_,_=>False
theorem SpecPost.body {fn:Func} {Φ:Value→HP}:∀ (e:Exit) (a:Act) (w:World),SpecPost P C fn Φ e a w→bodyPostM Fence.wide 0 P fn (Post C Φ) e a w
 | .normal,_,_,h=>h
 | .ret,_,_,h=>h
 | .panic _,_,_,h=>h.elim
 | .outgrown,_,_,h=>h.elim
 | .exit _,_,_,h=>h.elim
 | .goto _,_,_,h=>h.elim
theorem Qcq {b:Func} {Φ:Value→HP} {a:Act} {w:World} {v:Value} (g:(results b a.tmps).run P w=.ok v w) (f:a.defers=[]) (d:Post C Φ (.returned v) w):SpecPost P C b Φ .ret a w:=by
 show LeavesInM Fence.wide 0 P b a.tmps (Post C Φ) a.defers .returning w
 rw [f]; exact ⟨v,g,d⟩
theorem Spec.enter {n:Nat} {f:FuncId} {b:Func} {c:Code} {args:List Value} {Φ:Value→HP} (j:P.funcs[f]? = some b) (i:b.body=some c) (hn:b.ntmps=n)
 (g:Nat.ble args.length n=true) (k:GC P C (SpecPost P C b Φ) ⟨n,[]⟩ c (argFrame args) H):Spec P C f args H Φ:=by
 intro w m
 refine callsIn_wide.1 (callsIn_of_wp_marks (n:=0) j i trivial (wpIn_wide.2 (wp_mono (k _ w ⟨?_,rfl,?_⟩ m) SpecPost.body)))
 ·have : args.length ≤ n := by simpa using g
  simp [hn]; omega
 ·intro t v h
  have:=(Qj9 args 0 t v h).2
  simp only [Nat.sub_zero] at this
  have d:t < args.length:=(List.getElem?_eq_some_iff.1 this).1
  simp only [Array.getElem?_append,List.size_toArray,d,if_true,List.getElem?_toArray]
  exact this
theorem QrV {b:Func} {Φ:Value→HP} {t:Nat} {v:Value} {a:Act} {w:World} (g:b.results = #[.tmp t]) (f:lk l t=some v) {m:Nat} (d:Fr ⟨m,[]⟩ l a) (i:St C w H) (h:Φ v H) :
 SpecPost P C b Φ .ret a w:=by
 refine Qcq (v:=v) ?_ d.defers ⟨v,H,rfl,i,h⟩
 have:=d.get t v f
 rw [results_tmp g]
 simp [Array.getD_eq_getD_getElem?,this]
theorem Qd5 {b:Func} {Φ:Value→HP} {a:Act} {w:World} (f:b.results = #[]) {m:Nat} (d:Fr ⟨m,[]⟩ l a) (g:St C w H) (h:Φ (.tuple #[]) H) :
 SpecPost P C b Φ .ret a w:=by
 refine Qcq (v:=.tuple #[]) ?_ d.defers ⟨_,H,rfl,g,h⟩
 rw [results_none f]
theorem QuR {f:Func} {Φ:Value→HP} {t u:Nat} {x y:Value} {a:Act} {w:World} (o:f.results = #[.tmp t,.tmp u]) (j:lk l t=some x) (d:lk l u=some y)
 {m:Nat} (b:Fr ⟨m,[]⟩ l a) (q:St C w H) (h:Φ (.tuple #[x,y]) H):SpecPost P C f Φ .ret a w:=by
 refine Qcq (v:=.tuple #[x,y]) ?_ b.defers ⟨_,H,rfl,q,h⟩
 have g:=b.get t x j
 have i:=b.get u y d
 rw [results_tmp2 o]
 simp [Array.getD_eq_getD_getElem?,g,i]
theorem QuS {g:Func} {Φ:Value→HP} {t u s:Nat} {x y z:Value} {a:Act} {w:World} (r:g.results = #[.tmp t,.tmp u,.tmp s]) (q:lk l t=some x) (d:lk l u=some y)
 (f:lk l s=some z) {m:Nat} (b:Fr ⟨m,[]⟩ l a) (A:St C w H) (h:Φ (.tuple #[x,y,z]) H):SpecPost P C g Φ .ret a w:=by
 refine Qcq (v:=.tuple #[x,y,z]) ?_ b.defers ⟨_,H,rfl,A,h⟩
 have i:=b.get t x q
 have j:=b.get u y d
 have o:=b.get s z f
 simp [results,r,Array.getD_eq_getD_getElem?,i,j,o]
theorem GC.ret (h:∀ a w,Fr n l a→St C w H→Q .ret a w):GC P C Q n .ret l H:=fun a w b d=>wp_ret (h a w b d)
theorem GL.ends {ops:Array Oper} (h:∀ a w,Fr n l a→St C w H→Q .normal a w):GL P C ops Q n [] l H:=fun a w hf hs=>h a w hf hs
theorem GC.ends (h:∀ a w,Fr n l a→St C w H→Q .normal a w):GC P C Q n .skip l H:=fun a w b d=>wp_skip (h a w b d)
end
end
section
open Go
abbrev Str:=List UInt8
def sv (s:Str):Value:=.string ⟨s.toArray⟩
structure Sl where
 p:Option (Nat×Nat)
 len:Nat
 cap:Nat
 x:Option Nat
abbrev Sl.of (p:Option (Nat×Nat)) (len cap:Nat):Sl:=⟨p,len,cap,none⟩
def adv (p:Nat×Nat):Addr:=⟨p.1,p.2,none⟩
def pv (p:Option (Nat×Nat)):Value:=.pointer (p.map adv)
def Sl.ad (s:Sl):Option Addr:=s.p.map fun p=>⟨p.1,p.2,s.x⟩
def slv (s:Sl):Value:=.slice s.ad s.len s.cap
def mv (m:Option Nat):Value:=.map m
def Sl.nil:Sl:=⟨none,0,0,none⟩
def rd (H:Heap) (p:Nat×Nat):Option Value:=
 match H p.1 with
 | some (_, g) => match g.cells? with
  | some c=>c[p.2]?
  | none=>none
 | none=>none
def rds (H:Heap) (p:Nat×Nat):List Value→Prop
 | []=>True
 | v::r=>rd H p=some v∧rds H (p.1,p.2+1) r
theorem St.cell {C:Ctx} {w:World} {H:Heap} (h:St C w H) {p:Nat×Nat} {v:Value} (d:rd H p=some v):w.cell? (adv p)=some v:=by
 unfold rd at d
 split at d
 ·rename_i m g i
  obtain ⟨o,j,b⟩:=h.blk _ _ _ i
  split at d
  ·rename_i c f
   cases g <;> simp only [GO.cells?,Option.some.injEq,reduceCtorEq] at f <;> subst f <;> cases o <;> simp only [GO.rel] at b <;> simp [World.cell?,adv,j,b.1,d]
  ·cases d
 ·cases d
theorem Qgh (p:Nat×Nat) (k:Nat):(adv p).add k=adv (p.1,p.2+k):=by
 unfold Addr.add adv
 by_cases h:k=0
 ·simp [h]
 ·simp [h]
section
variable {P:Program} {C:Ctx} {Q:Exit→Act→World→Prop} {n:FN} {l:List (Nat×Value)} {H:Heap} {ops:Array Oper} {rest:List Oper} {d:Nat} {ty:TypeId} {pos:String} {after:Array Edge}
def Wt (ops:Array Oper) (l:List (Nat×Value)):Option (Nat×Bool)→Prop
 | none=>True
 | some (j,want)=>∃ d b,(ops[j]?).bind (·.dst)=some d∧lk l d=some (.bool b)∧b=want
def Wn (ops:Array Oper) (l:List (Nat×Value)):Option (Nat×Bool)→Prop
 | none=>False
 | some (j,want)=>∃ d,(ops[j]?).bind (·.dst)=some d∧((∃ b,lk l d=some (.bool b)∧b=!want)∨lk l d=some undef)
theorem Wt.wanted {g} (h:Wt ops l g) {o:Oper} (f:o.guard=g) {a:Act} (t:Fr n l a):Region.wanted o (yielded ops a.tmps)=true:=by
 cases g with
 | none=>simp [Region.wanted,f]
 | some x=>
  obtain ⟨j,i⟩:=x
  obtain ⟨d,b,m,q,r⟩:=h
  have:=t.get d _ q
  simp [Region.wanted,f,yielded,m,this,r]
theorem Wn.wanted {g} (h:Wn ops l g) {o:Oper} (q:o.guard=g) {a:Act} (m:Fr n l a):Region.wanted o (yielded ops a.tmps)=false:=by
 cases g with
 | none=>exact h.elim
 | some x=>
  obtain ⟨j,r⟩:=x
  obtain ⟨d,i,⟨b,f,t⟩ | f⟩:=h
  ·have:=m.get d _ f
   simp [Region.wanted,q,yielded,i,this,t]
  ·have:=m.get d _ f
   simp [Region.wanted,q,yielded,i,this,undef]
variable {g:Option (Nat×Bool)}
theorem GL.skip {op:Op} (i:Wn ops l g) (f:Nat.blt d n.n=true) (k:GL P C ops Q n rest ((d,undef)::l) H):GL P C ops Q n (⟨some d,op,ty,pos,after,g⟩::rest) l H:=by
 intro a w b h
 have hx:=i.wanted (o:=⟨some d,op,ty,pos,after,g⟩) rfl b
 simp only [wpList,hx]
 exact k _ w (b.put f) h
theorem Xay {op:Op} (f:Wn ops l g) (k:GL P C ops Q n rest l H):GL P C ops Q n (⟨none,op,ty,pos,after,g⟩::rest) l H:=by
 intro a w b d
 have hx:=f.wanted (o:=⟨none,op,ty,pos,after,g⟩) rfl b
 simp only [wpList,hx]
 exact k _ w b d
theorem GL.run {op:Op} {v:Value} (hw:Wt ops l g) (hd:Nat.blt d n.n=true)
 (hr:∀ a w,Fr n l a→St C w H→∃ v w' H',(execOp a.eval ⟨some d,op,ty,pos,after,g⟩).run P w=.ok (.value v) w'∧St C w' H'∧GL P C ops Q n rest ((d,v)::l) H') :
 GL P C ops Q n (⟨some d,op,ty,pos,after,g⟩::rest) l H:=by
 intro a w hf hs
 have hx:=hw.wanted (o:=⟨some d,op,ty,pos,after,g⟩) rfl hf
 obtain ⟨v,w',H',h1,h2,h3⟩:=hr a w hf hs
 simp only [wpList,hx,if_true]
 refine .inl ?_
 unfold Oper.wp
 rw [h1]
 exact h3 _ _ (hf.put hd) h2
def OV (P:Program) (C:Ctx) (n:FN) (l:List (Nat×Value)) (H:Heap) (o:Oper) (v:Value):Prop:=
 ∀ a w,Fr n l a→St C w H→(execOp a.eval o).run P w=.ok (.value v) w
theorem GL.val {op:Op} {v:Value} (j:Wt ops l g) (h:Nat.blt d n.n=true) (i:OV P C n l H ⟨some d,op,ty,pos,after,g⟩ v) (k:GL P C ops Q n rest ((d,v)::l) H) :
 GL P C ops Q n (⟨some d,op,ty,pos,after,g⟩::rest) l H:=by
 intro a w b f
 have hx:=j.wanted (o:=⟨some d,op,ty,pos,after,g⟩) rfl b
 simp only [wpList,hx,if_true]
 refine .inl ?_
 unfold Oper.wp
 rw [i a w b f]
 exact k _ _ (b.put h) f
theorem OV.move {x:Operand} {v:Value} (hx:opv l x=some v):OV P C n l H ⟨some d,.move x,ty,pos,after,g⟩ v:=
 (fun a w b f=>by simp [execOp,b.ev hx])
theorem OV.assign {x:Operand} {v:Value} (hx:opv l x=some v):OV P C n l H ⟨some d,.assign x,ty,pos,after,g⟩ v:=
 (fun a w b f=>by simp [execOp,b.ev hx])
theorem Xaf {c x y:Operand} {b:Bool} {v:Value} (i:opv l c=some (.bool b)) (h:b=true) (hx:opv l x=some v):OV P C n l H ⟨some d,.pick c x y,ty,pos,after,g⟩ (v):=
 (fun a w f j=>by subst h; simp [execOp,f.ev i,f.ev hx,asBool])
theorem Xai {c x y:Operand} {b:Bool} {v:Value} (i:opv l c=some (.bool b)) (h:b=false) (hx:opv l y=some v):OV P C n l H ⟨some d,.pick c x y,ty,pos,after,g⟩ (v):=
 (fun a w f j=>by subst h; simp [execOp,f.ev i,f.ev hx,asBool])
def w (k:IntKind) (x:Int):Int:=k.wrap x
def bAnd (k:IntKind) (x y:Int):Int:=k.wrap ((BitVec.ofInt k.bits x &&& BitVec.ofInt k.bits y).toNat)
def bOr (k:IntKind) (x y:Int):Int:=k.wrap ((BitVec.ofInt k.bits x ||| BitVec.ofInt k.bits y).toNat)
def bXor (k:IntKind) (x y:Int):Int:=k.wrap ((BitVec.ofInt k.bits x ^^^ BitVec.ofInt k.bits y).toNat)
def bAndNot (k:IntKind) (x y:Int):Int:=k.wrap ((BitVec.ofInt k.bits x &&& ~~~ BitVec.ofInt k.bits y).toNat)
def sShl (k:IntKind) (x y:Int):Int:=k.wrap (x*2 ^ (min y.toNat k.bits))
def sShr (k:IntKind) (x y:Int):Int:=x.fdiv (2 ^ (min y.toNat k.bits))
def ibin (op:BinOp) (k:IntKind) (x y:Int):Option Value:=
 match op with
 | .add=>some (.int k (w k (x+y)))
 | .sub=>some (.int k (w k (x - y)))
 | .mul=>some (.int k (w k (x*y)))
 | .and=>some (.int k (bAnd k x y))
 | .or=>some (.int k (bOr k x y))
 | .xor=>some (.int k (bXor k x y))
 | .andNot=>some (.int k (bAndNot k x y))
 | .eql=>some (.bool (x == y))
 | .neq=>some (.bool (x != y))
 | .lss=>some (.bool (decide (x < y)))
 | .leq=>some (.bool (decide (x≤y)))
 | .gtr=>some (.bool (decide (x > y)))
 | .geq=>some (.bool (decide (x ≥ y)))
 | _=>none
theorem Qdn (P:Program) (op:BinOp) (t:TypeId) (x y:Operand) (k d:IntKind) (a b:Int) (w:World):(eqGuard op t x y (.int k a) (.int d b)).run P w=.ok () w:=by
 unfold eqGuard; cases op <;> rfl
theorem OV.ibin {op:BinOp} {t yt:TypeId} {x y:Operand} {k0:IntKind} {a b:Int} {v:Value} (hx:opv l x=some (.int k0 a)) (hy:opv l y=some (.int k0 b))
 (h:Sx.ibin op k0 a b=some v):OV P C n l H ⟨some d,.binOp op t x y yt,ty,pos,after,g⟩ (v):=
 (fun i w f j=>by
  simp only [execOp,f.ev hx,f.ev hy]
  simp only [bind_pure_comp,Sem.run_map,Sem.run_bind,Qdn,Result.andThen_ok]
  cases op <;> simp only [Sx.ibin,Option.some.injEq,reduceCtorEq] at h <;> subst h <;> simp [Go.binOp,Op.intArith,Op.intBits,Op.intCmp,Sx.w,bAnd,bOr,bXor,bAndNot])
theorem OV.shl {t yt:TypeId} {x y:Operand} {k0 h:IntKind} {a b:Int} (hx:opv l x=some (.int k0 a)) (hy:opv l y=some (.int h b)) (j:0≤b):OV P C n l H ⟨some d,.binOp .shl t x y yt,ty,pos,after,g⟩ (.int k0 (sShl k0 a b)):=
 (fun i w f m=>by
  have:¬ b < 0:=by omega
  simp only [execOp,f.ev hx,f.ev hy,bind_pure_comp,Sem.run_map,Sem.run_bind,Qdn,Result.andThen_ok]
  simp [Go.binOp,Op.shift,this,sShl])
theorem OV.shr {t yt:TypeId} {x y:Operand} {k0 h:IntKind} {a b:Int} (hx:opv l x=some (.int k0 a)) (hy:opv l y=some (.int h b)) (j:0≤b):OV P C n l H ⟨some d,.binOp .shr t x y yt,ty,pos,after,g⟩ (.int k0 (sShr k0 a b)):=
 (fun i w f m=>by
  have:¬ b < 0:=by omega
  simp only [execOp,f.ev hx,f.ev hy,bind_pure_comp,Sem.run_map,Sem.run_bind,Qdn,Result.andThen_ok]
  simp [Go.binOp,Op.shift,this,sShr])
theorem OV.quo {t yt:TypeId} {x y:Operand} {k0:IntKind} {a b:Int} (hx:opv l x=some (.int k0 a)) (hy:opv l y=some (.int k0 b)) (h:b≠0):OV P C n l H ⟨some d,.binOp .quo t x y yt,ty,pos,after,g⟩ (.int k0 (Sx.w k0 (a.tdiv b))):=
 (fun i w f j=>by
  simp only [execOp,f.ev hx,f.ev hy,bind_pure_comp,Sem.run_map,Sem.run_bind,Qdn,Result.andThen_ok]
  simp [Go.binOp,Op.intDiv,h,Sx.w])
theorem OV.rem {t yt:TypeId} {x y:Operand} {k0:IntKind} {a b:Int} (hx:opv l x=some (.int k0 a)) (hy:opv l y=some (.int k0 b)) (h:b≠0):OV P C n l H ⟨some d,.binOp .rem t x y yt,ty,pos,after,g⟩ (.int k0 (a.tmod b)):=
 (fun i w f j=>by
  simp only [execOp,f.ev hx,f.ev hy,bind_pure_comp,Sem.run_map,Sem.run_bind,Qdn,Result.andThen_ok]
  simp [Go.binOp,Op.intDiv,h])
def iun (op:UnOp) (k:IntKind) (x:Int):Option Value:=
 match op with
 | .neg=>some (.int k (w k (0 - x)))
 | .xor=>some (.int k (bXor k (if k.signed then -1 else k.max) x))
 | _=>none
theorem OV.iun {op:UnOp} {t:TypeId} {x:Operand} {k0:IntKind} {a:Int} {v:Value} (hx:opv l x=some (.int k0 a)) (b:Sx.iun op k0 a=some v):OV P C n l H ⟨some d,.unOp op t x,ty,pos,after,g⟩ (v):=
 (fun h w f i=>by
  simp only [execOp,f.ev hx]
  cases op <;> simp only [Sx.iun,Option.some.injEq,reduceCtorEq] at b <;> subst b <;> simp [Op.unary,Op.intArith,Op.intBits,Sx.w,bXor])
theorem OV.not {t:TypeId} {x:Operand} {b:Bool} (hx:opv l x=some (.bool b)):OV P C n l H ⟨some d,.unOp .not t x,ty,pos,after,g⟩ (.bool (!b)):=
 (fun h w f i=>by simp [execOp,f.ev hx,Op.unary])
theorem Xam {s h:TypeId} {x:Operand} {k0 f:IntKind} {a:Int} (hx:opv l x=some (.int k0 a)) (m:(P.underlying s).isSome=true) (q:P.underlying h=some (.int f)):OV P C n l H ⟨some d,.convert s h x,ty,pos,after,g⟩ (.int f (Sx.w f a)):=
 (fun r w j o=>by
  obtain ⟨i,b⟩:=Option.isSome_iff_exists.1 m
  simp only [execOp,j.ev hx,convert,bind_pure_comp,Sem.run_map,Sem.run_bind,underlying,run_program,Result.andThen_ok,b,q,Sem.run_pure]
  cases i <;> simp [Conv.intToInt,Sx.w])
def slt (s t:Str):Bool:=Op.bytesLess s t
def sbin (op:BinOp) (s t:Str):Option Value:=
 match op with
 | .eql=>some (.bool (s == t))
 | .neq=>some (.bool (!(s == t)))
 | .lss=>some (.bool (slt s t))
 | .leq=>some (.bool (slt s t || (s == t)))
 | .gtr=>some (.bool (!(slt s t || (s == t))))
 | .geq=>some (.bool (!(slt s t)))
 | _=>none
theorem Qho (P:Program) (op:BinOp) (t:TypeId) (x y:Operand) (a b:ByteArray) (w:World):(eqGuard op t x y (.string a) (.string b)).run P w=.ok () w:=by
 unfold eqGuard; cases op <;> rfl
theorem OV.sbin {op:BinOp} {t yt:TypeId} {x y:Operand} {a b:Str} {v:Value} (hx:opv l x=some (sv a)) (hy:opv l y=some (sv b))
 (h:Sx.sbin op a b=some v):OV P C n l H ⟨some d,.binOp op t x y yt,ty,pos,after,g⟩ (v):=
 (fun i w f j=>by
  simp only [execOp,f.ev hx,f.ev hy,sv]
  simp only [bind_pure_comp,Sem.run_map,Sem.run_bind,Qho,Result.andThen_ok]
  cases op <;> simp only [Sx.sbin,Option.some.injEq,reduceCtorEq] at h <;> subst h <;> simp [Go.binOp,Op.stringOp,slt])
theorem Xaw {t yt:TypeId} {x y:Operand} {a b:Str} (hx:opv l x=some (sv a)) (hy:opv l y=some (sv b)) (m:a.length+b.length < 9223372036854775807):OV P C n l H ⟨some d,.binOp .add t x y yt,ty,pos,after,g⟩ (sv (a++b)):=
 (fun j w f o=>by
  simp only [execOp,f.ev hx,f.ev hy,sv]
  simp only [bind_pure_comp,Sem.run_map,Sem.run_bind,Qho,Result.andThen_ok]
  have h:¬ (((⟨a.toArray⟩:ByteArray).size+(⟨b.toArray⟩:ByteArray).size:Nat):Int) > IntKind.i64.max:=by
   simp [ByteArray.size,IntKind.max,IntKind.bits,IntKind.signed]; omega
  have i:(⟨a.toArray⟩:ByteArray)++⟨b.toArray⟩=⟨(a++b).toArray⟩:=by
   apply ByteArray.ext; simp
  simp only [Go.binOp,Op.stringOp,h,if_false,Sem.run_pure,Result.andThen_ok,i])
theorem OV.extract {x:Operand} {i:Nat} {vs:Array Value} {v:Value} (hx:opv l x=some (.tuple vs)) (f:vs[i]? = some v):OV P C n l H ⟨some d,.extract x i,ty,pos,after,g⟩ (v):=
 (fun h w b j=>by simp [execOp,b.ev hx,Instr.extract,f])
theorem OV.nilCheck {x:Operand} {p:Nat×Nat} {q:Option (Nat×Nat)} (hx:opv l x=some (pv q)) (f:q=some p):OV P C n l H ⟨some d,.nilCheck x,ty,pos,after,g⟩ (pv (some p)):=
 (fun h w b i=>by subst f; simp [execOp,b.ev hx,pv])
theorem Xac {x:Operand} {f:Nat} {fs cs:Array Value} (hx:opv l x=some (.func (.func f) fs cs)):OV P C n l H ⟨some d,.nilCheck x,ty,pos,after,g⟩ (.func (.func f) fs cs):=
 (fun h w b i=>by simp [execOp,b.ev hx])
def fieldOff (P:Program) (t:TypeId) (i:Nat):Option Nat:=
 match P.underlying t with
 | some (.struct fs) => match fs[i]? with
  | some f => match P.info? f.type with
   | some inf=>if inf.size=0 then none else some f.offset
   | none=>none
  | none=>none
 | _=>none
theorem QsC {t:TypeId} {i off:Nat} {p:Nat×Nat} (w:World) (h:fieldOff P t i=some off):(Instr.fieldAt t (pv (some p)) i).run P w=.ok (pv (some (p.1,p.2+off))) w:=by
 unfold fieldOff at h
 split at h
 ·rename_i fs d
  split at h
  ·rename_i f g
   split at h
   ·rename_i m b
    split at h
    ·cases h
    ·rename_i j
     injection h with h
     subst h
     simp [Instr.fieldAt,underlying,d,g,Instr.sureAddr,pv,fieldPlace,Go.sizeOf,typeInfo,b,j,Qgh]
   ·cases h
  ·cases h
 ·cases h
theorem OV.fieldAddr {t:TypeId} {x:Operand} {i off:Nat} {p:Nat×Nat} (hx:opv l x=some (pv (some p))) (f:fieldOff P t i=some off):OV P C n l H ⟨some d,.fieldAddr t x i,ty,pos,after,g⟩ (pv (some (p.1,p.2+off))):=
 (fun h w b j=>by simp [execOp,b.ev hx,QsC w f])
theorem OV.makeFunc {f:Fn} {fs cs:Array Operand} {vs us:List Value} (hx:opvs l fs.toList=some vs) (hy:opvs l cs.toList=some us):OV P C n l H ⟨some d,.makeFunc f fs cs,ty,pos,after,g⟩ (.func f vs.toArray us.toArray):=
 (fun b w h m=>by
  have i:fs.map b.eval=vs.toArray:=by apply Array.ext'; simp [h.evs hx]
  have j:cs.map b.eval=us.toArray:=by apply Array.ext'; simp [h.evs hy]
  simp [execOp,Instr.makeFunc,i,j])
theorem OV.field {t:TypeId} {x:Operand} {i:Nat} {u v:Value} (hx:opv l x=some u) (hr:∀ w,(Instr.field t u i).run P w=.ok v w):OV P C n l H ⟨some d,.field t x i,ty,pos,after,g⟩ (v):=
 (fun ac w hf hs=>by simp [execOp,hf.ev hx,hr])
def partVals (l:List (Nat×Value)):List (Nat×Operand)→Option (List (Nat×Value))
 | []=>some []
 | (i, x) :: xs => match opv l x, partVals l xs with
  | some v,some vs=>some ((i,v)::vs)
  | _,_=>none
theorem Fr.parts {a : Act} (h : Fr n l a) : ∀ {xs : List (Nat × Operand)} {vs : List (Nat × Value)}, partVals l xs = some vs → xs.map (fun p => (p.1, a.eval p.2)) = vs
 | [],vs,hx=>by simpa [partVals] using hx
 | (i,x)::xs,vs,hx=>by
  simp only [partVals] at hx
  split at hx
  ·rename_i v us h1 h2
   injection hx with hx
   subst hx
   simp [h.ev h1,h.parts h2]
  ·cases hx
theorem OV.build {t:TypeId} {ps:Array (Nat×Operand)} {vs:List (Nat×Value)} {v:Value} (hx:partVals l ps.toList=some vs)
 (j:∀ w,(Instr.build t vs.toArray).run P w=.ok v w):OV P C n l H ⟨some d,.build t ps,ty,pos,after,g⟩ (v):=
 (fun b w h m=>by
  have f:ps.map (fun p=>(p.1,b.eval p.2))=vs.toArray:=by apply Array.ext'; simp [h.parts hx]
  simp only [execOp]
  rw [show (ps.map fun x=>match x with | (i,x)=>(i,b.eval x))=ps.map (fun p=>(p.1,b.eval p.2)) from rfl,f]
  simp [j])
theorem Qen (P:Program) (op:BinOp) (t:TypeId) (x y:Operand) (a b:Option Addr) (w:World):(eqGuard op t x y (.pointer a) (.pointer b)).run P w=.ok () w:=by
 unfold eqGuard; cases op <;> rfl
theorem X6 {t yt e:TypeId} {x y:Operand} {p:Option (Nat×Nat)} (hx:opv l x=some (pv p)) (hy:opv l y=some (.pointer none)) (f:P.underlying t=some (.pointer e)):OV P C n l H ⟨some d,.binOp .eql t x y yt,ty,pos,after,g⟩ (.bool p.isNone):=
 (fun i w b j=>by
  simp only [execOp,b.ev hx,b.ev hy,pv]
  simp only [bind_pure_comp,Sem.run_map,Sem.run_bind,Qen,Result.andThen_ok]
  have h:P.pointee t=e:=by simp [Program.pointee,f]
  have:=run_eql_pointer_nil (P:=P) w t (p.map adv) (by rw [h]; exact f)
  rw [this]; simp)
theorem Xas {t yt e:TypeId} {x y:Operand} {p:Option (Nat×Nat)} (hx:opv l x=some (pv p)) (hy:opv l y=some (.pointer none)) (f:P.underlying t=some (.pointer e)):OV P C n l H ⟨some d,.binOp .neq t x y yt,ty,pos,after,g⟩ (.bool (!p.isNone)):=
 (fun i w b j=>by
  simp only [execOp,b.ev hx,b.ev hy,pv]
  simp only [bind_pure_comp,Sem.run_map,Sem.run_bind,Qen,Result.andThen_ok]
  have h:P.pointee t=e:=by simp [Program.pointee,f]
  have:=run_neq_pointer_nil (P:=P) w t (p.map adv) (by rw [h]; exact f)
  rw [this]; simp)
theorem Qji (P:Program) (op:BinOp) (t:TypeId) (x y:Operand) (a b:Bool) (w:World):(eqGuard op t x y (.bool a) (.bool b)).run P w=.ok () w:=by
 unfold eqGuard; cases op <;> rfl
theorem Xap {t yt:TypeId} {x y:Operand} {a b:Bool} (hx:opv l x=some (.bool a)) (hy:opv l y=some (.bool b)) (h:P.underlying t=some .bool):OV P C n l H ⟨some d,.binOp .eql t x y yt,ty,pos,after,g⟩ (.bool (a == b)):=
 (fun i w f j=>by
  simp only [execOp,f.ev hx,f.ev hy]
  simp only [bind_pure_comp,Sem.run_map,Sem.run_bind,Qji,Result.andThen_ok]
  rw [run_eql_bool (P:=P) w t a b h]; rfl)
theorem Xao {t yt:TypeId} {x y:Operand} {a b:Bool} (hx:opv l x=some (.bool a)) (hy:opv l y=some (.bool b)) (h:P.underlying t=some .bool):OV P C n l H ⟨some d,.binOp .neq t x y yt,ty,pos,after,g⟩ (.bool (!(a == b))):=
 (fun i w f j=>by
  simp only [execOp,f.ev hx,f.ev hy]
  simp only [bind_pure_comp,Sem.run_map,Sem.run_bind,Qji,Result.andThen_ok]
  rw [run_neq_bool (P:=P) w t a b h]; rfl)
end
end
section
open Go
def splice (c:List Value) (o:Nat) (vs:List Value):List Value:=c.take o++vs++c.drop (o+vs.length)
theorem Qno (c:List Value) (o:Nat):splice c o []=c:=by simp [splice]
theorem Qja {c:List Value} {o:Nat} {vs:List Value} (h:o+vs.length≤c.length):(splice c o vs).length=c.length:=by simp [splice]; omega
theorem QlY {c:List Value} {o:Nat} {v:Value} {vs:List Value} (h:o+(vs.length+1)≤c.length):splice (c.set o v) (o+1) vs=splice c o (v::vs):=by
 unfold splice
 have b:(c.set o v).take (o+1)=c.take o++[v]:=by
  rw [List.take_succ_eq_append_getElem (by simp; omega)]
  simp [List.take_set_of_le]
 have d:(c.set o v).drop (o+1+vs.length)=c.drop (o+(vs.length+1)):=by
  rw [List.drop_set_of_lt (by omega)]
  congr 1; omega
 rw [b,d]
 simp
def one (v:Value):Bool:=v.oneCell'
theorem St.setCellT {C:Ctx} {w:World} {H:Heap} (h:St C w H) {b o:Nat} {t:TypeId} {k:Nat} {c:List Value} {v:Value} (j:H b=some (true,.trow t k c)) (q:o < c.length) (B:k≤o) :
 (∃ u,w.cell? ⟨b,o,none⟩=some u)∧w.frozen? ⟨b,o,none⟩=false∧St C (w.setCell ⟨b,o,none⟩ v) (H.put b (.trow t k (c.set o v))):=by
 obtain ⟨y,d,f⟩:=h.blk _ _ _ j
 cases y <;> simp only [GO.rel] at f
 rename_i A z i
 obtain ⟨m,r,g⟩:=f
 subst m
 subst r
 refine ⟨⟨c[o],?_⟩,?_,?_⟩
 ·simp [World.cell?,d,q]
 ·have:=g trivial
  obtain ⟨lo,hi⟩:=i
  simp only [World.frozen?,d]
  simp only [] at this
  simp; omega
 ·refine h.set j (o' := .cells (c.set o v).toArray z i) ⟨rfl, rfl, ?_, ?_⟩ ⟨rfl, rfl, fun _ => by simpa using g trivial⟩
  ·have:b < w.heap.size:=(Array.getElem?_eq_some_iff.1 d).1
   simp [World.setCell,Array.getElem?_modify,d]
  ·intro x hx
   simp [World.setCell,Array.getElem?_modify,Ne.symm hx]
theorem St.setCell {C:Ctx} {w:World} {H:Heap} (h:St C w H) {b o:Nat} {c:List Value} {v:Value} (j:H b=some (true,.row c)) (q:o < c.length) :
 (∃ u,w.cell? ⟨b,o,none⟩=some u)∧w.frozen? ⟨b,o,none⟩=false∧St C (w.setCell ⟨b,o,none⟩ v) (H.put b (.row (c.set o v))):=by
 obtain ⟨r,d,f⟩:=h.blk _ _ _ j
 cases r <;> simp only [GO.rel] at f
 rename_i y t i
 obtain ⟨m,g⟩:=f
 subst m
 refine ⟨⟨c[o],?_⟩,?_,?_⟩
 ·simp [World.cell?,d,q]
 ·have:=g trivial
  obtain ⟨lo,hi⟩:=i
  simp only [World.frozen?,d]
  simp only [] at this
  simp; omega
 ·refine h.set j (o' := .cells (c.set o v).toArray t i) ⟨rfl, rfl, ?_, ?_⟩ ⟨rfl, fun _ => by simpa using g trivial⟩
  ·have:b < w.heap.size:=(Array.getElem?_eq_some_iff.1 d).1
   simp [World.setCell,Array.getElem?_modify,d]
  ·intro x hx
   simp [World.setCell,Array.getElem?_modify,Ne.symm hx]
theorem XN {P:Program} {C:Ctx} {b o:Nat}:∀ (vs:List Value) (i:Nat) (w:World) (H:Heap) (c:List Value),St C w H→H b=some (true,.row c)→o+i+vs.length≤c.length→(∀ v ∈ vs,v.oneCell' = true)→
 ∃ w',(storeCells ⟨b,o,none⟩ vs i).run P w=.ok () w'∧St C w' (H.put b (.row (splice c (o+i) vs)))
 | [],i,w,H,c,h,hb,hl,h1=>by
  refine ⟨w,rfl,?_⟩
  rw [Qno]
  have:H.put b (.row c)=H:=by
   funext x; by_cases hx:x=b
   ·subst hx; rw [Xa,hb]
   ·rw [Xb _ _ _ hx]
  rw [this]; exact h
 | v::vs,i,w,H,c,h,hb,hl,h1=>by
  simp only [Vd] at hl
  obtain ⟨⟨u,r⟩,m,g⟩:=h.setCell (v:=v) hb (o:=o+i) (by omega)
  have d:(⟨b,o,none⟩:Addr).add i=⟨b,o+i,none⟩:=Qgh (b,o) i
  obtain ⟨w',q,f⟩:=XN (P:=P) vs (i+1) _ _ (c.set (o+i) v) g (Xa ..) (show o+(i+1)+vs.length≤(c.set (o+i) v).length by rw [List.length_set]; omega) (fun t j=>h1 t (List.mem_cons_of_mem _ j))
  refine ⟨w',?_,?_⟩
  ·simp only [storeCells,Sem.run_bind,d]
   rw [run_store P w _ v _ (h1 v (List.mem_cons_self ..))]
   simp only [r,m,Bool.false_eq_true,if_false,Result.andThen_ok]
   exact q
  ·have : (Heap.put (Heap.put H b (.row (c.set (o + i) v))) b (.row (splice (c.set (o + i) v) (o + (i + 1)) vs))) = H.put b (.row (splice c (o + i) (v :: vs))) := by
    funext x; by_cases hx:x=b
    ·subst hx; rw [Xa,Xa,← QlY (by omega)]; rfl
    ·rw [Xb _ _ _ hx,Xb _ _ _ hx,Xb _ _ _ hx]
   rw [← this]; exact f
theorem XG {P:Program} {C:Ctx} {b o:Nat} {t:TypeId} {k:Nat}:∀ (vs:List Value) (i:Nat) (w:World) (H:Heap) (c:List Value),St C w H→H b=some (true,.trow t k c)→k≤o+i→o+i+vs.length≤c.length→(∀ v ∈ vs,v.oneCell' = true)→
 ∃ w',(storeCells ⟨b,o,none⟩ vs i).run P w=.ok () w'∧St C w' (H.put b (.trow t k (splice c (o+i) vs)))
 | [],i,w,H,c,h,hb,hk,hl,h1=>by
  refine ⟨w,rfl,?_⟩
  rw [Qno]
  have:H.put b (.trow t k c)=H:=by
   funext x; by_cases hx:x=b
   ·subst hx; rw [Xa,hb]
   ·rw [Xb _ _ _ hx]
  rw [this]; exact h
 | v::vs,i,w,H,c,h,hb,hk,hl,h1=>by
  simp only [Vd] at hl
  obtain ⟨⟨u,r⟩,m,g⟩:=h.setCellT (v:=v) hb (o:=o+i) (by omega) hk
  have d:(⟨b,o,none⟩:Addr).add i=⟨b,o+i,none⟩:=Qgh (b,o) i
  obtain ⟨w',q,f⟩:=XG (P:=P) vs (i+1) _ _ (c.set (o+i) v) g (Xa ..) (by omega) (show o+(i+1)+vs.length≤(c.set (o+i) v).length by rw [List.length_set]; omega) (fun y j=>h1 y (List.mem_cons_of_mem _ j))
  refine ⟨w',?_,?_⟩
  ·simp only [storeCells,Sem.run_bind,d]
   rw [run_store P w _ v _ (h1 v (List.mem_cons_self ..))]
   simp only [r,m,Bool.false_eq_true,if_false,Result.andThen_ok]
   exact q
  ·have : (Heap.put (Heap.put H b (.trow t k (c.set (o + i) v))) b (.trow t k (splice (c.set (o + i) v) (o + (i + 1)) vs))) = H.put b (.trow t k (splice c (o + i) (v :: vs))) := by
    funext x; by_cases hx:x=b
    ·subst hx; rw [Xa,Xa,← QlY (by omega)]; rfl
    ·rw [Xb _ _ _ hx,Xb _ _ _ hx,Xb _ _ _ hx]
   rw [← this]; exact f
theorem Qi7 {H:Heap}:∀ {cs:List Value} {p:Nat×Nat},rds H p cs→∀ j v,cs[j]? = some v→rd H (p.1,p.2+j)=some v
 | [],p,_,j,v,h=>by simp at h
 | c::cs,p,hr,0,v,h=>by simp at h; subst h; exact hr.1
 | c::cs,p,hr,j+1,v,h=>by
  have:=Qi7 hr.2 j v (by simpa using h)
  rw [show p.2+(j+1)=p.2+1+j by omega]; exact this
theorem Qff {H:Heap}:∀ {cs:List Value} {p:Nat×Nat},(∀ j v,cs[j]? = some v→rd H (p.1,p.2+j)=some v)→rds H p cs
 | [],p,_=>trivial
 | c::cs,p,h=>⟨by simpa using h 0 c (by simp),Qff (p:=(p.1,p.2+1)) fun j v hj=>by
  have:=h (j+1) v (by simpa using hj)
  rw [show p.2+1+j=p.2+(j+1) by omega]; exact this⟩
theorem St.loads {P:Program} {C:Ctx} {w:World} {H:Heap} (h:St C w H) {p:Nat×Nat} {cs:List Value} (d:rds H p cs) {n:Nat} (hn:n=cs.length):(loadCells (adv p) n).run P w=.ok cs.toArray w:=by
 subst hn
 refine run_loadCells_list w (adv p) cs fun j v b=>?_
 rw [Qgh]; exact h.cell (Qi7 d j v b)
def rdsl (H:Heap) (s:Sl) (cs:List Value):Prop:=cs=[]∨(s.x=none∧∃ p,s.p=some p∧rds H p cs)
theorem Xw {s:Sl} {p:Nat×Nat} (hx:s.x=none) (hp:s.p=some p):s.ad=some (adv p):=by simp [Sl.ad,hp,hx,adv]
theorem St.loadsl {P:Program} {C:Ctx} {w:World} {H:Heap} (h:St C w H) {s:Sl} {cs:List Value} (d:rdsl H s cs) {n:Nat} (hn:n=cs.length) {a:Addr} (b:s.ad=some a):(loadCells a n).run P w=.ok cs.toArray w:=by
 rcases d with rfl | ⟨hx,p,hp,d⟩
 ·subst hn; rfl
 ·rw [Xw hx hp] at b
  injection b with b; subst b
  exact h.loads d hn
theorem QsA {H d:Heap} (h:H.le d) {p:Nat×Nat} {v:Value} (b:rd H p=some v):rd d p=some v:=by
 unfold rd at *
 split at b
 ·rename_i m c f; rw [h _ _ f]; exact b
 ·cases b
theorem Qwx {H H':Heap} (h:H.le H'):∀ {cs:List Value} {p:Nat×Nat},rds H p cs→rds H' p cs
 | [],_,_=>trivial
 | _::_,_,hr=>⟨QsA h hr.1,Qwx h hr.2⟩
theorem Qgl {H d:Heap} (h:H.le d) {s:Sl} {cs:List Value} (b:rdsl H s cs):rdsl d s cs:=by
 rcases b with rfl | ⟨hx,p,hp,b⟩
 ·exact .inl rfl
 ·exact .inr ⟨hx,p,hp,Qwx h b⟩
section
variable {P:Program} {C:Ctx} {Q:Exit→Act→World→Prop} {n:FN} {l:List (Nat×Value)} {H:Heap} {ops:Array Oper} {rest:List Oper} {d:Nat} {ty:TypeId} {pos:String} {after:Array Edge} {g:Option (Nat×Bool)}
def aggB (P:Program) (t:TypeId):Bool:=
 match P.underlying t with
 | some (.struct _) | some (.array _ _) | none=>true
 | some _=>false
theorem Qkp {t:TypeId} (h:aggB P t=false) (w:World):(isAgg t).run P w=.ok false w:=by
 unfold aggB at h
 split at h
 ·cases h
 ·cases h
 ·cases h
 ·rename_i d b f g
  cases d <;> simp_all [isAgg,underlying]
def aggT (P:Program) (t:TypeId):Bool:=
 match P.underlying t with
 | some (.struct _) | some (.array _ _)=>true
 | _=>false
theorem Qlh {t:TypeId} (h:aggT P t=true) (w:World):(isAgg t).run P w=.ok true w:=by
 unfold aggT at h
 split at h
 ·rename_i b; simp [isAgg,underlying,b]
 ·rename_i b; simp [isAgg,underlying,b]
 ·cases h
theorem OV.load {t:TypeId} {x:Operand} {p:Nat×Nat} {v:Value} (hx:opv l x=some (pv (some p))) (i:aggB P t=false) (f:rd H p=some v):OV P C n l H ⟨some d,.load t x,ty,pos,after,g⟩ (v):=
 (fun j w b h=>by
  have:=h.cell f
  simp only [execOp,b.ev hx,pv,Option.map_some,Instr.loadAt,Instr.sureAddr,loadVar]
  simp only [bind_pure_comp,Sem.run_map,Sem.run_bind,Sem.run_pure,Result.andThen_ok,Qkp i]
  simp [this])
theorem Xm {t:TypeId} {x:Operand} {p:Nat×Nat} {cs:List Value} (hx:opv l x=some (pv (some p))) (m:aggT P t=true) (hi:(P.info? t).map (·.size)=some cs.length) (i:rds H p cs):OV P C n l H ⟨some d,.load t x,ty,pos,after,g⟩ (.agg cs.toArray):=
 (fun o w h j=>by
  cases hinf:P.info? t with
  | none=>rw [hinf] at hi; cases hi
  | some f=>
   rw [hinf] at hi
   have b:f.size=cs.length:=by simpa using hi
   simp only [execOp,h.ev hx,pv,Option.map_some,Instr.loadAt,Instr.sureAddr,loadVar]
   simp only [bind_pure_comp,Sem.run_map,Sem.run_bind,Sem.run_pure,Result.andThen_ok,Qlh m]
   simp [Go.sizeOf,typeInfo,hinf,j.loads (P:=P) i b])
def ldI (H:Heap) (k:IntKind) (p:Nat×Nat) (K:Int→Prop):Prop:=∃ x,rd H p=some (.int k x)∧K x
def ldB (H:Heap) (p:Nat×Nat) (K:Bool→Prop):Prop:=∃ x,rd H p=some (.bool x)∧K x
def ldS (H:Heap) (p:Nat×Nat) (K:Str→Prop):Prop:=∃ x,rd H p=some (sv x)∧K x
def ldP (H:Heap) (p:Nat×Nat) (K:Option (Nat×Nat)→Prop):Prop:=∃ x,rd H p=some (pv x)∧K x
def ldL (H:Heap) (p:Nat×Nat) (K:Sl→Prop):Prop:=∃ x,rd H p=some (slv x)∧K x
def ldM (H:Heap) (p:Nat×Nat) (K:Option Nat→Prop):Prop:=∃ x,rd H p=some (mv x)∧K x
def ldV (H:Heap) (p:Nat×Nat) (K:Value→Prop):Prop:=∃ x,rd H p=some x∧K x
def ldT {α:Type} (H:Heap) (c:α→List Value) (p:Nat×Nat) (K:α→Prop):Prop:=∃ x,rds H p (c x)∧K x
def st (p:Nat×Nat) (v:Value) (K:HP) (H:Heap):Prop:=∃ c,H p.1=some (true,.row c)∧p.2 < c.length∧K (H.put p.1 (.row (c.set p.2 v)))
def stT (p:Nat×Nat) (vs:List Value) (K:HP) (H:Heap):Prop:=∃ c,H p.1=some (true,.row c)∧p.2+vs.length≤c.length∧K (H.put p.1 (.row (splice c p.2 vs)))
theorem X3 {op:Op} (m:Wt ops l g)
 (i:∀ a w,Fr n l a→St C w H→∃ w' H',(execOp a.eval ⟨none,op,ty,pos,after,g⟩).run P w=.ok .skip w'∧St C w' H'∧GL P C ops Q n rest l H') :
 GL P C ops Q n (⟨none,op,ty,pos,after,g⟩::rest) l H:=by
 intro a w b j
 have hx:=m.wanted (o:=⟨none,op,ty,pos,after,g⟩) rfl b
 obtain ⟨w',H',d,f,h⟩:=i a w b j
 simp only [wpList,hx,if_true]
 refine .inl ?_
 unfold Oper.wp
 rw [d]
 exact h _ _ b f
theorem QnD {t:TypeId} {w:World} {H:Heap} (q:St C w H) {p:Nat×Nat} {v:Value} {vs:List Value} {c:List Value} (r:v.cells=vs.toArray) (hi:(P.info? t).map (·.size)=some vs.length)
 (g:∀ u ∈ vs,u.oneCell' = true) (j:H p.1=some (true,.row c)) (m:p.2+vs.length≤c.length) :
 ∃ w',(storeVar t (adv p) v).run P w=.ok () w'∧St C w' (H.put p.1 (.row (splice c p.2 vs))):=by
 cases hinf:P.info? t with
 | none=>rw [hinf] at hi; cases hi
 | some f=>
  rw [hinf] at hi
  have d:f.size=vs.length:=by simpa using hi
  obtain ⟨w',h,i⟩:=XN (P:=P) (b:=p.1) (o:=p.2) vs 0 w H c q j (by simpa using m) g
  refine ⟨w',?_,by simpa using i⟩
  simp [storeVar,r,Go.sizeOf,typeInfo,hinf,d]
  exact h
theorem Qp7 {c:List Value} {o:Nat} {v:Value} (h:o < c.length):splice c o [v]=c.set o v:=by
 rw [← QlY (by simp; omega),Qno]
theorem GL.store {t:TypeId} {x y:Operand} {p:Nat×Nat} {v:Value} {K:HP} (h:st p v K H) (u:Wt ops l g) (hx:opv l x=some (pv (some p))) (hy:opv l y=some v) (f:v.oneCell' = true)
 (hi:(P.info? t).map (·.size)=some 1) (k:∀ H',K H'→GL P C ops Q n rest l H'):GL P C ops Q n (⟨none,.store t x y,ty,pos,after,g⟩::rest) l H:=by
 obtain ⟨c,j,o,m⟩:=h
 refine X3 u fun a w d q=>?_
 have r:v.cells=[v].toArray:=by cases v <;> simp_all [Value.cells,Value.oneCell']
 obtain ⟨z,i,b⟩:=QnD (P:=P) (t:=t) q (p:=p) r hi (by simpa using f) j (by simp; omega)
 rw [Qp7 o] at b
 refine ⟨z,_,?_,b,k _ m⟩
 simp only [execOp,d.ev hx,d.ev hy,pv,Option.map_some,Instr.storeAt,Instr.sureAddr]
 simp [i]
theorem Xl {t:TypeId} {x y:Operand} {p:Nat×Nat} {vs:List Value} {K:HP} (h:stT p vs K H) (r:Wt ops l g) (hx:opv l x=some (pv (some p))) (hy:opv l y=some (.agg vs.toArray)) (d:vs.all Value.oneCell' = true)
 (hi:(P.info? t).map (·.size)=some vs.length) (k:∀ H',K H'→GL P C ops Q n rest l H'):GL P C ops Q n (⟨none,.store t x y,ty,pos,after,g⟩::rest) l H:=by
 obtain ⟨c,j,o,m⟩:=h
 refine X3 r fun a w b q=>?_
 obtain ⟨u,f,i⟩:=QnD (P:=P) (t:=t) q (p:=p) (v:=.agg vs.toArray) rfl hi (by simpa using d) j o
 refine ⟨u,_,?_,i,k _ m⟩
 simp only [execOp,b.ev hx,b.ev hy,pv,Option.map_some,Instr.storeAt,Instr.sureAddr]
 simp [f]
def nw (cs:List Value) (K:Nat→HP) (H:Heap):Prop:=∀ b,H b=none→K b (H.put b (.row cs))
theorem St.newRow {w:World} {H:Heap} (b:St C w H) (e:TypeId) (cs:Array Value):St C { w with heap:=w.heap.push (.cells cs e) } (H.put w.heap.size (.row cs.toList)):=
 b.push ⟨by simp,fun _=>.inl rfl⟩
theorem GL.alloc {e:TypeId} {cs:List Value} {z:Value} {K:Nat→HP} (h:nw cs K H) (o:Wt ops l g) (m:Nat.blt d n.n=true) (f:(P.info? e).bind (·.zero)=some z) (j:z.cells=cs.toArray)
 (k:∀ b H',K b H'→GL P C ops Q n rest ((d,pv (some (b,0)))::l) H'):GL P C ops Q n (⟨some d,.alloc e,ty,pos,after,g⟩::rest) l H:=by
 cases hinf:P.info? e with
 | none=>rw [hinf] at f; cases f
 | some q=>
  rw [hinf] at f
  simp only [Option.bind_some] at f
  refine GL.run (v:=z) o m fun a w r i=>⟨pv (some (w.heap.size,0)),_,_,?_,i.newRow e cs.toArray,k _ _ (by simpa using h _ i.fresh)⟩
  simp only [execOp,Instr.alloc]
  simp [zeroValue,typeInfo,hinf,f,newVar,Go.newRow,j,pv,adv]
theorem GL.box {e:TypeId} {x:Operand} {v:Value} {cs:List Value} {K:Nat→HP} (h:nw cs K H) (o:Wt ops l g) (j:Nat.blt d n.n=true) (hx:opv l x=some v) (i:v.cells=cs.toArray)
 (k:∀ b H',K b H'→GL P C ops Q n rest ((d,pv (some (b,0)))::l) H'):GL P C ops Q n (⟨some d,.box e x,ty,pos,after,g⟩::rest) l H:=by
 refine GL.run (v:=v) o j fun a w m f=>⟨pv (some (w.heap.size,0)),_,_,?_,f.newRow e cs.toArray,k _ _ (by simpa using h _ f.fresh)⟩
 simp only [execOp,m.ev hx,Instr.box]
 simp [newVar,Go.newRow,i,pv,adv]
def litRun (P:Program) (t:TypeId) (m:Nat) (vs:List (Nat×Value)) (cs:List Value):Prop:=
 ∃ e,∀ w,(Instr.buildSlice t m vs.toArray).run P w=.ok (.slice (some ⟨w.heap.size,0,none⟩) m m) { w with heap:=w.heap.push (.cells cs.toArray e) }
theorem GL.buildSlice {t:TypeId} {m:Nat} {ps:Array (Nat×Operand)} {vs:List (Nat×Value)} {cs:List Value} {K:Nat→HP} (h:nw cs K H) (u:Wt ops l g) (q:Nat.blt d n.n=true) (hx:partVals l ps.toList=some vs)
 (f:litRun P t m vs cs) (k:∀ b H',K b H'→GL P C ops Q n rest ((d,slv (Sl.of (some (b,0)) m m))::l) H'):GL P C ops Q n (⟨some d,.buildSlice t m ps,ty,pos,after,g⟩::rest) l H:=by
 obtain ⟨e,f⟩:=f
 refine GL.run (v:=undef) u q fun a w r j=>⟨slv (Sl.of (some (w.heap.size,0)) m m),_,_,?_,j.newRow e cs.toArray,k _ _ (by simpa using h _ j.fresh)⟩
 have o:ps.map (fun p=>(p.1,a.eval p.2))=vs.toArray:=by apply Array.ext'; simp [r.parts hx]
 simp only [execOp]
 rw [show (ps.map fun x=>match x with | (i,x)=>(i,a.eval x))=ps.map (fun p=>(p.1,a.eval p.2)) from rfl,o]
 simp [f,slv,Sl.ad]
theorem XM {x:Operand} {t:TypeId} {s:Str} (hx:opv l x=some (sv s)) (h:P.underlying t=some .string):OV P C n l H ⟨some d,.call { callee:=.builtin .len,args:=#[x],argTypes:=#[t] },ty,pos,after,g⟩ (.int .i64 (s.length:Int)):=
 (fun i w f j=>by
  have b:(⟨s.toArray⟩:ByteArray).size=s.length:=rfl
  simp only [execOp,resolve,invoke,builtin,List.map_toArray,List.map_cons,List.map_nil,f.ev hx,sv]
  simp [Builtin.len_,underlying,h,goInt,b])
theorem XX {x:Operand} {t e:TypeId} {s:Sl} (hx:opv l x=some (slv s)) (f:P.underlying t=some (.slice e)):OV P C n l H ⟨some d,.call { callee:=.builtin .len,args:=#[x],argTypes:=#[t] },ty,pos,after,g⟩ (.int .i64 (s.len:Int)):=
 (fun h w b i=>by
  simp only [execOp,resolve,invoke,builtin,List.map_toArray,List.map_cons,List.map_nil,b.ev hx,slv]
  simp [Builtin.len_,underlying,f,goInt])
def ixa (s:Sl) (i:Int) (K:Nat×Nat→Prop):Prop:=∃ p,s.p=some p∧s.x=none∧0≤i∧i < s.len∧K p
theorem OV.indexAddr {x y:Operand} {t e:TypeId} {s:Sl} {i:Int} {k0:IntKind} {m:Nat} {p:Nat×Nat} (hx:opv l x=some (slv s)) (hy:opv l y=some (.int k0 i))
 (r:P.underlying t=some (.slice e)) (b:(P.info? e).map (·.size)=some m) (hp:s.p=some p) (h:s.x=none) (h0:0≤i) (q:i < s.len) :
 OV P C n l H ⟨some d,.indexAddr t x y,ty,pos,after,g⟩ (pv (some (p.1,p.2+i.toNat*m))):=by
 cases hinf:P.info? e with
 | none=>rw [hinf] at b; cases b
 | some j=>
  rw [hinf] at b
  have f:j.size=m:=by simpa using b
  intro u w o z
  simp only [execOp,o.ev hx,o.ev hy,slv,Xw h hp,Instr.indexAt]
  simp [asIntOf,underlying,r,h0,q,Go.sizeOf,typeInfo,hinf,f,pv,Qgh]
def ixs (s:Str) (i:Int) (K:UInt8→Prop):Prop:=∃ c:UInt8,0≤i∧s[i.toNat]? = some c∧K c
theorem Xq {x y:Operand} {t:TypeId} {s:Str} {i:Int} {k0:IntKind} {c:UInt8} (hx:opv l x=some (sv s)) (hy:opv l y=some (.int k0 i))
 (o:P.underlying t=some .string) (h0:0≤i) (h:s[i.toNat]? = some c):OV P C n l H ⟨some d,.index t x y,ty,pos,after,g⟩ (.int .u8 (c.toNat:Int)):=by
 intro q w f r
 have j:(⟨s.toArray⟩:ByteArray)[i.toNat]? = some c:=by
  obtain ⟨b,m⟩:=List.getElem?_eq_some_iff.1 h
  rw [getElem?_pos _ _ (by simpa [ByteArray.size] using b)]
  simp [ByteArray.getElem_eq_getElem_data,m]
 simp [execOp,f.ev hx,f.ev hy,sv,Instr.index,asIntOf,underlying,o,h0,j]
def slS (s:Str) (lo hi:Int) (K:Str→Prop):Prop:=0≤lo∧lo≤hi∧hi≤s.length∧∃ t,t=(s.take hi.toNat).drop lo.toNat∧K t
theorem Qi0 (s:Str) (a b:Nat):(⟨s.toArray⟩:ByteArray).extract a b=⟨((s.take b).drop a).toArray⟩:=by
 apply ByteArray.ext
 rw [ByteArray.data_extract]
 apply Array.ext'
 rw [Array.toList_extract,List.drop_take]
def optInt (l:List (Nat×Value)):Option Operand→Option (Option (IntKind×Int))
 | none=>some none
 | some x=>match opv l x with | some (.int k i)=>some (some (k,i)) | _=>none
theorem Fr.optInt {a:Act} (h:Fr n l a) {x:Option Operand} {r:Option (IntKind×Int)} (hx:Sx.optInt l x=some r):x.map a.eval=r.map fun p=>Value.int p.1 p.2:=by
 cases x with
 | none=>simp [Sx.optInt] at hx; subst hx; rfl
 | some x=>
  simp only [Sx.optInt] at hx
  split at hx
  ·rename_i k i b
   injection hx with hx; subst hx
   simp [h.ev b]
  ·cases hx
theorem Xt {x:Operand} {lo hi:Option Operand} {t:TypeId} {s:Str} {j i:Option (IntKind×Int)} {a b:Int} (h0:0≤a) (z:a≤b) (A:b≤s.length) {G:Str} (y:G=(s.take b.toNat).drop a.toNat) (hx:opv l x=some (sv s))
 (u:Sx.optInt l lo=some j) (r:Sx.optInt l hi=some i) (B:a=(j.map fun p=>p.2).getD 0) (D:b=(i.map fun p=>p.2).getD (s.length:Int))
 (m:P.underlying t=some .string):OV P C n l H ⟨some d,.slice t x lo hi none,ty,pos,after,g⟩ (sv G):=by
 subst y
 intro I w q J
 simp only [execOp,q.ev hx,q.optInt u,q.optInt r,Option.map_none,Instr.sliceAt,sv]
 have h:(⟨s.toArray⟩:ByteArray).size=s.length:=by simp [ByteArray.size]
 rcases j with _ | ⟨F,L⟩ <;> rcases i with _ | ⟨E,K⟩ <;> simp only [Option.map_none,Option.map_some,Option.getD_none,Option.getD_some] at B D <;> subst B <;> subst D
 ·simp [underlying,m,Instr.slice,Instr.sliceBounds]
 ·have f:=run_sliceBound (P:=P) w E b s.length .sliceAlen z A
  simp [underlying,m,Instr.slice,Instr.sliceBounds,f,h,Qi0]
 ·have f:=run_sliceBound (P:=P) w F a s.length .sliceB h0 z
  simp [underlying,m,Instr.slice,Instr.sliceBounds,f,h,Qi0]
 ·have f := run_sliceBound (P := P) w E b s.length .sliceAlen (by omega) A
  have o:=run_sliceBound (P:=P) w F a b.toNat .sliceB h0 (by omega)
  simp [underlying,m,Instr.slice,Instr.sliceBounds,f,o,h,Qi0]
def slL (s:Sl) (lo hi mx:Int) (sz:Nat) (K:Sl→Prop):Prop:=
 0≤lo∧lo≤hi∧hi≤mx∧mx≤s.cap∧∃ t,t=⟨if mx=lo then s.p else s.p.map (fun p=>(p.1,p.2+lo.toNat*sz)),(hi - lo).toNat,(mx - lo).toNat,if mx=lo∨lo.toNat*sz=0 then s.x else none⟩∧K t
theorem XU {x : Operand} {lo hi mx : Option Operand} {t e : TypeId} {s : Sl} {m : Nat} {j h i : Option (IntKind × Int)} {a b c : Int} (h0 : 0 ≤ a) (T : a ≤ b) (U : b ≤ c) (W : c ≤ s.cap) {I : Sl} (B : I = ⟨if c = a then s.p else s.p.map (fun p => (p.1, p.2 + a.toNat * m)), (b - a).toNat, (c - a).toNat, if c = a ∨ a.toNat * m = 0 then s.x else none⟩)
 (hx:opv l x=some (slv s)) (u:Sx.optInt l lo=some j) (r:Sx.optInt l hi=some h) (y:Sx.optInt l mx=some i) (E:a=(j.map fun p=>p.2).getD 0) (F:b=(h.map fun p=>p.2).getD (s.len:Int)) (G:c=(i.map fun p=>p.2).getD (s.cap:Int))
 (z:i.isSome=true→h.isSome=true)
 (M:P.underlying t=some (.slice e)) (o:(P.info? e).map (·.size)=some m):OV P C n l H ⟨some d,.slice t x lo hi mx,ty,pos,after,g⟩ (slv I):=by
 subst B
 cases hinf:P.info? e with
 | none=>rw [hinf] at o; cases o
 | some D=>
  rw [hinf] at o
  have A:D.size=m:=by simpa using o
  intro N w q X
  simp only [execOp,q.ev hx,q.optInt u,q.optInt r,q.optInt y,Instr.sliceAt,slv]
  have f:(Instr.sliceBounds true s.len s.cap (j.map fun p=>Value.int p.1 p.2) (h.map fun p=>Value.int p.1 p.2) (i.map fun p=>Value.int p.1 p.2)).run P w=.ok (a.toNat,b.toNat,c.toNat) w:=by
   have O:0≤b:=by omega
   have Q:0≤c:=by omega
   have R:b≤(c.toNat:Int):=by omega
   have S:a≤(b.toNat:Int):=by omega
   rcases j with _ | ⟨kl,Z⟩ <;> rcases h with _ | ⟨kh,Y⟩ <;> rcases i with _ | ⟨km,im⟩ <;> simp only [Option.map_none,Option.map_some,Option.getD_none,Option.getD_some] at E F G <;> simp only [Option.isSome_some,Option.isSome_none,forall_const,Bool.false_eq_true] at z <;> subst E <;> subst F <;> subst G
   all_goals simp_all [Instr.sliceBounds,Instr.sliceBound,asIntOf]
   all_goals (try omega)
   all_goals (rw [if_pos (by omega)]; simp; try (rw [if_pos (by omega)]; simp))
  have J:(c.toNat=a.toNat)↔c=a:=by omega
  have K:b.toNat - a.toNat=(b - a).toNat:=by omega
  have L:c.toNat - a.toNat=(c - a).toNat:=by omega
  simp only [Sem.run_bind,underlying,run_program,M,Sem.run_pure,Result.andThen_ok,Instr.slice,f]
  simp [Go.sizeOf,typeInfo,hinf,A,J,K,L]
  simp only [Sl.ad]
  by_cases hca:c=a
  ·simp [hca]
  ·cases hp:s.p with
   | none=>simp [hca]
   | some p=>
    by_cases hz:a.toNat*m=0
    ·simp [hca,hz,Addr.add]
    ·simp [hca,hz,Addr.add]
structure CallOk (P:Program) (f:FuncId):Prop where
 ok : ∃ fn, P.funcs[f]? = some fn ∧ fn.body.isSome = true ∧ (fn.name == "runtime.NumGoroutine") = false
theorem Qhm {f:FuncId} (h:CallOk P f) (args:Array Value) (w:World):(callFunc f args).run P w=.ok (.enter f args) w:=by
 obtain ⟨b,d,j,g⟩:=h.ok
 have i:b.body.isNone=false:=by cases hb:b.body <;> simp_all
 simp only [callFunc,Sem.run_bind,run_program,Result.andThen_ok,d,g,i,Bool.false_eq_true,if_false]
 rfl
theorem X7 {o:Oper} {f:FuncId} {vs:List Value} {Φ:Value→HP} (q:Spec P C f vs H Φ) (h:o.dst=some d) (x:Wt ops l g) (hg:o.guard=g) (r:Nat.blt d n.n=true)
 (b:∀ a w,Fr n l a→(execOp a.eval o).run P w=.ok (.enter f vs.toArray) w)
 (k:∀ v H',Φ v H'→GL P C ops Q n rest ((d,v)::l) H'):GL P C ops Q n (o::rest) l H:=by
 intro a w i u
 have hx:=x.wanted (o:=o) hg i
 simp only [wpList,hx,if_true]
 refine .inl ?_
 unfold Oper.wp
 rw [b a w i]
 refine (q w u).mono fun e y t=>?_
 obtain ⟨v,H',rfl,j,m⟩:=t
 simp only [h]
 exact k v H' m _ _ (i.put r) j
theorem GL.call {f:FuncId} {xs:Array Operand} {ats:Array TypeId} {vs:List Value} {Φ:Value→HP} (hc:Spec P C f vs H Φ) (hw:Wt ops l g) (hd:Nat.blt d n.n=true) (hok:CallOk P f) (hx:opvs l xs.toList=some vs)
 (k:∀ v H',Φ v H'→GL P C ops Q n rest ((d,v)::l) H'):GL P C ops Q n (⟨some d,.call { callee:=.value (.func f),args:=xs,argTypes:=ats },ty,pos,after,g⟩::rest) l H:=
 X7 hc rfl hw rfl hd (fun a w hf=>by
  have h1:xs.map a.eval=vs.toArray:=by apply Array.ext'; simp [hf.evs hx]
  simp [execOp,resolve,invoke,Deferred.ofValue,Act.eval,h1,Qhm hok]) k
theorem Xag {f:FuncId} {x:Operand} {fs cs:List Value} {xs:Array Operand} {ats:Array TypeId} {vs:List Value} {Φ:Value→HP} (hc:Spec P C f (fs++vs++cs) H Φ) (hw:Wt ops l g) (hd:Nat.blt d n.n=true) (hok:CallOk P f)
 (hfx:opv l x=some (.func (.func f) fs.toArray cs.toArray)) (hx:opvs l xs.toList=some vs)
 (k:∀ v H',Φ v H'→GL P C ops Q n rest ((d,v)::l) H'):GL P C ops Q n (⟨some d,.call { callee:=.value x,args:=xs,argTypes:=ats },ty,pos,after,g⟩::rest) l H:=
 X7 hc rfl hw rfl hd (fun a w hf=>by
  have h1:xs.map a.eval=vs.toArray:=by apply Array.ext'; simp [hf.evs hx]
  simp [execOp,resolve,invoke,Deferred.ofValue,hf.ev hfx,h1,Qhm hok]) k
def bytesV (s:Str):List Value:=s.map fun b=>.int .u8 (b.toNat:Int)
end
end
section
open Go
def zeros (zc:List Value):Nat→List Value
 | 0=>[]
 | k+1=>zc++zeros zc k
theorem QeT (zc:List Value):∀ k,(zeros zc k).length=k*zc.length
 | 0=>by simp [zeros]
 | k+1=>by simp [zeros,QeT zc k]; rw [Nat.add_mul]; omega
theorem Qsa (zc:List Value):∀ (k i:Nat),i < k*zc.length→(zeros zc k)[i]? = zc[i % zc.length]?
 | 0,i,h=>by omega
 | k+1,i,h=>by
  rw [Nat.add_mul] at h
  simp only [zeros]
  by_cases hi:i < zc.length
  ·rw [List.getElem?_append_left hi,Nat.mod_eq_of_lt hi]
  ·rw [List.getElem?_append_right (by omega), Qsa zc k (i - zc.length) (by omega)]
   congr 1
   rw [Nat.mod_eq_sub_mod (a:=i) (by omega)]
theorem QkO (zc:List Value) (k:Nat):Builtin.zeroCells zc.toArray k=(zeros zc k).toArray:=by
 apply Array.ext'
 apply List.ext_getElem?
 intro i
 simp only [Builtin.zeroCells,List.size_toArray,Array.toList_map,Array.toList_range,List.getElem?_map]
 by_cases hi:i < k*zc.length
 ·have f:=Qsa zc k i hi
  have b:0 < zc.length:=by
   rcases Nat.eq_zero_or_pos zc.length with h | h
   ·rw [h] at hi; omega
   ·exact h
  have hm:i % zc.length < zc.length:=Nat.mod_lt _ b
  simp [hi,f,hm]
 ·have d : (zeros zc k)[i]? = none := by rw [List.getElem?_eq_none]; rw [QeT]; omega
  simp [hi,d]
def apd (zc:List Value) (bytes:Nat) (s:Sl) (ys:List Value) (m:Nat) (K:Sl→HP) (H:Heap):Prop:=
 ∃ xs,rdsl H s xs∧xs.length=s.len*zc.length∧ys.length=m*zc.length∧(s.len+m)*bytes≤140737488355328∧s.len+m≤9223372036854775807∧
  (s.len+m≤s.cap→(ys=[]∧K ⟨s.p,s.len+m,s.cap,s.x⟩ H)∨
   (∃ p c,s.p=some p∧s.x=none∧H p.1=some (true,.row c)∧p.2+s.len*zc.length+ys.length≤c.length∧K ⟨s.p,s.len+m,s.cap,s.x⟩ (H.put p.1 (.row (splice c (p.2+s.len*zc.length) ys)))))∧
  (s.cap < s.len+m→∀ b cap,H b=none→s.len+m≤cap→K (Sl.of (some (b,0)) (s.len+m) cap) (H.put b (.row (xs++ys++zeros zc (cap - (s.len+m))))))
structure Src (P:Program) (C:Ctx) (H:Heap) (x:Value) (sz:Nat) (ys:List Value) (m:Nat):Prop where
 len:∀ w,(Builtin.lenOf x).run P w=.ok m w
 cells:∀ w,St C w H→(Builtin.firstCells sz m x).run P w=.ok ys.toArray w
theorem Src.slice {P:Program} {C:Ctx} {H:Heap} {t:Sl} {d:Nat} {ys:List Value} (b:rdsl H t ys) (f:ys.length=t.len*d):Src P C H (slv t) d ys t.len:=by
 refine ⟨fun w=>by simp [Builtin.lenOf,slv],fun w g=>?_⟩
 simp only [Builtin.firstCells,slv]
 cases ha:t.ad with
 | none=>
  rcases b with rfl | ⟨hx,p,hp,b⟩
  ·rfl
  ·rw [Xw hx hp] at ha; cases ha
 | some a=>exact g.loadsl b f.symm ha
theorem Src.str {P:Program} {C:Ctx} {H:Heap} {s:Str}:Src P C H (sv s) 1 (bytesV s) s.length:=by
 refine ⟨fun w=>by simp [Builtin.lenOf,sv,ByteArray.size],fun w b=>?_⟩
 simp only [Builtin.firstCells,sv,Sem.run_pure]
 congr 1
 rw [Qi0]
 simp [bytesV]
section
variable {P:Program} {C:Ctx} {Q:Exit→Act→World→Prop} {n:FN} {l:List (Nat×Value)} {H:Heap} {ops:Array Oper} {rest:List Oper} {d:Nat} {ty:TypeId} {pos:String} {after:Array Edge} {g:Option (Nat×Bool)}
structure Elem (P:Program) (t:TypeId) (zc:List Value) (bytes:Nat):Prop where
 ok:∃ e i z,P.underlying t=some (.slice e)∧P.info? e=some i∧i.size=zc.length∧i.bytes=bytes∧i.zero=some z∧z.cells=zc.toArray
theorem QtP {t X:TypeId} {s:Sl} {x:Value} {ys:List Value} {m:Nat} {zc:List Value} {bytes:Nat} {K:Sl→HP} {w:World}
 (h:apd zc bytes s ys m K H) (A:St C w H) (he:Elem P t zc bytes) (Z:∃ u,P.underlying X=some u∧∀ k,u≠.int k) (hx:Src P C H x zc.length ys m) (Y:∀ u ∈ ys,u.oneCell' = true) :
 ∃ r w' H',(Builtin.append_ #[t,X] ty #[slv s,x]).run P w=.ok (slv r) w'∧St C w' H'∧K r H':=by
 obtain ⟨e,i,z,G,hi,g,I,hz,U⟩:=he.ok
 obtain ⟨u2,j,a5⟩:=Z
 obtain ⟨xs,S,R,a6,hb,a0,D,y⟩:=h
 by_cases hle:s.len+m≤s.cap
 ·rcases D hle with ⟨T,L⟩ | ⟨p,c,hp,Q,hc,W,L⟩
  ·subst T
   refine ⟨_,w,H,?_,A,L⟩
   have d:=hx.cells w A
   have f:slv ⟨s.p,s.len+m,s.cap,s.x⟩=.slice s.ad (s.len+m) s.cap:=rfl
   rw [f]
   cases hp:s.ad with
   | none=>
    simp [Builtin.append_,underlying,G,j,Go.sizeOf,typeInfo,hi,slv,hp,hx.len w,hle,g,d]
   | some p=>
    simp [Builtin.append_,underlying,G,j,Go.sizeOf,typeInfo,hi,slv,hp,hx.len w,hle,g,d,storeCells]
  ·have d:=hx.cells w A
   obtain ⟨w',O,M⟩:=XN (P:=P) (C:=C) (b:=p.1) (o:=p.2+s.len*zc.length) ys 0 w H c A hc (by omega) Y
   refine ⟨_,w',_,?_,M,L⟩
   have ha:(adv p).add (s.len*zc.length)=⟨p.1,p.2+s.len*zc.length,none⟩:=Qgh p _
   have f:slv ⟨s.p,s.len+m,s.cap,s.x⟩=.slice s.ad (s.len+m) s.cap:=rfl
   rw [f]
   simp [Builtin.append_,underlying,G,j,Go.sizeOf,typeInfo,hi,slv,Xw Q hp,hx.len w,hle,g,d,ha,O]
 ·have E : s.cap < s.len + m := by omega
  have J:St C w.drew H:=A.drew
  have d:=hx.cells w.drew J
  have h63':¬ (9223372036854775807 < ((s.len:Int)+(m:Int))):=by omega
  have h48':¬ (281474976710656 < Builtin.nextslicecap (s.len+m) s.cap*bytes):=by have:=growslice_fits (bytes:=bytes) E hb; omega
  have q:(Builtin.firstCells zc.length s.len (slv s)).run P w.drew=.ok xs.toArray w.drew:=(Src.slice (P:=P) (C:=C) S R).cells w.drew J
  have B:=grownCap_ge w (s.len+m) s.cap e
  have F:xs.toArray++ys.toArray++Builtin.zeroCells z.cells (grownCap w (s.len+m) s.cap e - (s.len+m))=(xs++ys++zeros zc (grownCap w (s.len+m) s.cap e - (s.len+m))).toArray:=by
   rw [U,QkO]; simp
  refine ⟨Sl.of (some (w.heap.size,0)) (s.len+m) (grownCap w (s.len+m) s.cap e),w.drew.alloc (.cells (xs++ys++zeros zc (grownCap w (s.len+m) s.cap e - (s.len+m))).toArray e),_,?_,?_,y E w.heap.size (grownCap w (s.len+m) s.cap e) A.fresh B⟩
  ·rw [← F]
   have f:slv s=.slice s.ad s.len s.cap:=rfl
   have N:∀ a c:Nat,slv (Sl.of (some (w.heap.size,0)) a c)=.slice (some ⟨w.heap.size,0,none⟩) a c:=fun _ _=>rfl
   rw [N]
   rw [f] at q ⊢
   simp [Builtin.append_,underlying,G,j,Go.sizeOf,typeInfo,zeroValue,hi,hz,I,g,hx.len w,hle,h63',h48',Question.forced,d,q,Go.newRow,grownCap]
   refine congrArg (fun a:Array Value=>w.drew.alloc (.cells a e)) ?_
   apply Array.ext'
   simp
  ·exact J.push ⟨rfl,fun _=>.inl rfl⟩
theorem GL.append {x y:Operand} {t o:TypeId} {s:Sl} {yv:Value} {ys:List Value} {m:Nat} {zc:List Value} {bytes:Nat} {K:Sl→HP} (h:apd zc bytes s ys m K H) (F:Wt ops l g) (A:Nat.blt d n.n=true)
 (hx:opv l x=some (slv s)) (hy:opv l y=some yv) (B:Elem P t zc bytes) (z:∃ u,P.underlying o=some u∧∀ k,u≠.int k) (b:Src P C H yv zc.length ys m) (q:∀ u ∈ ys,u.oneCell' = true)
 (k:∀ r H',K r H'→GL P C ops Q n rest ((d,slv r)::l) H'):GL P C ops Q n (⟨some d,.call { callee:=.builtin .append,args:=#[x,y],argTypes:=#[t,o] },ty,pos,after,g⟩::rest) l H:=by
 refine GL.run (v:=undef) F A fun a w j i=>?_
 obtain ⟨r,G,H',E,f,D⟩:=QtP (P:=P) (ty:=ty) h i B z b q
 refine ⟨slv r,G,H',?_,f,k _ _ D⟩
 simp only [execOp,resolve,invoke,builtin,List.map_toArray,List.map_cons,List.map_nil,j.ev hx,j.ev hy]
 simp [E]
def apS (zc:List Value) (bytes:Nat) (s t:Sl) (K:Sl→HP) (H:Heap):Prop:=
 ∃ ys,rdsl H t ys∧(∀ u ∈ ys,u.oneCell' = true)∧apd zc bytes s ys t.len K H
theorem XW {x y:Operand} {t i j:TypeId} {s s2:Sl} {zc:List Value} {bytes:Nat} {K:Sl→HP} (h:apS zc bytes s s2 K H) (B:Wt ops l g) (u:Nat.blt d n.n=true)
 (hx:opv l x=some (slv s)) (hy:opv l y=some (slv s2)) (z:Elem P t zc bytes) (m:P.underlying i=some (.slice j))
 (k:∀ r H',K r H'→GL P C ops Q n rest ((d,slv r)::l) H'):GL P C ops Q n (⟨some d,.call { callee:=.builtin .append,args:=#[x,y],argTypes:=#[t,i] },ty,pos,after,g⟩::rest) l H:=by
 obtain ⟨ys,o,q,f⟩:=h
 have A:=f
 obtain ⟨_,_,_,b,_⟩:=A
 exact GL.append f B u hx hy z ⟨_,m,fun _ h=>by cases h⟩ (Src.slice o b) q k
theorem Xaa {x y:Operand} {t t2:TypeId} {s:Sl} {u:Str} {bytes:Nat} {K:Sl→HP} (h:apd [.int .u8 0] bytes s (bytesV u) u.length K H) (hw:Wt ops l g) (hd:Nat.blt d n.n=true)
 (hx:opv l x=some (slv s)) (hy:opv l y=some (sv u)) (he:Elem P t [.int .u8 0] bytes) (h2:P.underlying t2=some .string)
 (k:∀ r H',K r H'→GL P C ops Q n rest ((d,slv r)::l) H'):GL P C ops Q n (⟨some d,.call { callee:=.builtin .append,args:=#[x,y],argTypes:=#[t,t2] },ty,pos,after,g⟩::rest) l H:=
 GL.append h hw hd hx hy he ⟨_,h2,fun _ h=>by cases h⟩ Src.str (by simp [bytesV,Value.oneCell']) k
theorem Qo1 {b:Nat} {cs:List Value} {m:Bool}:rds (H.put b (.row cs) m) (b,0) cs:=
 Qff fun j v d=>by simp [rd,Xa,GO.cells?,d]
theorem Heap.le.puts {A B:Heap} (h:A.le B) (b:Nat) (g:GO) (m:Bool):(A.put b g m).le (B.put b g m):=fun x e hx=>by
 by_cases hxb:x=b
 ·subst hxb; rw [Xa] at hx ⊢; exact hx
 ·rw [Xb _ _ _ hxb] at hx ⊢; exact h x e hx
theorem apd.frame {zc:List Value} {bytes:Nat} {s:Sl} {ys:List Value} {m:Nat} {K:Sl→HP} {i:Heap} (h:apd zc bytes s ys m K H) (hle:H.le i) :
 apd zc bytes s ys m (fun r H2=>∃ H0,K r H0∧H0.le H2) i:=by
 obtain ⟨xs,t,u,x,y,z,A,B⟩:=h
 refine ⟨xs,Qgl hle t,u,x,y,z,fun f=>?_,fun f b cap C d=>⟨_,B f b cap (hle.none C) d,hle.puts _ _ _⟩⟩
 rcases A f with ⟨e,g⟩ | ⟨p,c,j,e0,o,q,g⟩
 ·exact .inl ⟨e,_,g,hle⟩
 ·exact .inr ⟨p,c,j,e0,hle _ _ o,q,_,g,hle.puts _ _ _⟩
theorem GL.weaken {b:Heap} (hle:H.le b) (k:GL P C ops Q n rest l H):GL P C ops Q n rest l b:=fun a w d f=>k a w d (f.weaken hle)
theorem X9 {x y:Operand} {t t2 e2 t3 ty2:TypeId} {d2 m:Nat} {s:Sl} {ps:Array (Nat×Operand)} {vs:List (Nat×Value)} {ys:List Value} {zc:List Value} {bytes:Nat} {K:Sl→HP} {pos2:String} {after2:Array Edge} {g2:Option (Nat×Bool)}
 (h:apd zc bytes s ys m K H) (hw:Wt ops l g) (hd:Nat.blt d n.n=true) (hw2:∀ v,Wt ops ((d,v)::l) g2) (hd2:Nat.blt d2 n.n=true)
 (hx:∀ v,opv ((d,v)::l) x=some (slv s)) (hy:∀ v,opv ((d,v)::l) y=some v) (hp:partVals l ps.toList=some vs) (hr:litRun P t3 m vs ys) (he:Elem P t zc bytes) (h2:P.underlying t2=some (.slice e2)) (h1:ys.all Value.oneCell' = true)
 (k:∀ v r H',K r H'→GL P C ops Q n rest ((d2,slv r)::(d,v)::l) H') :
 GL P C ops Q n (⟨some d,.buildSlice t3 m ps,ty,pos,after,g⟩::⟨some d2,.call { callee:=.builtin .append,args:=#[x,y],argTypes:=#[t,t2] },ty2,pos2,after2,g2⟩::rest) l H:=by
 refine GL.buildSlice (K:=fun b H'=>H' = H.put b (.row ys)∧H b=none) (fun b hb=>⟨rfl,hb⟩) hw hd hp hr ?_
 rintro b H' ⟨rfl,hb⟩
 refine XW (s2:=Sl.of (some (b,0)) m m) ⟨ys,.inr ⟨rfl,_,rfl,Qo1⟩,by simpa using h1,h.frame ((Heap.le.refl H).put _ _ hb)⟩ (hw2 _) hd2 (hx _) (hy _) he h2 ?_
 rintro r H2 ⟨H0,hk,hle⟩
 exact GL.weaken hle (k _ r H0 hk)
end
end
section
open Go
section
variable {P:Program} {C:Ctx} {Q:Exit→Act→World→Prop} {n:FN} {l:List (Nat×Value)} {H:Heap} {ops:Array Oper} {rest tl:List Oper} {d:Nat} {ty:TypeId} {pos:String} {after:Array Edge} {g:Option (Nat×Bool)}
theorem GC.sub {c:Code} (b:List (Nat×Value)) (f:Sub l b) (k:GC P C Q n c b H):GC P C Q n c l H:=fun a w d g=>k a w (d.sub f) g
theorem QkM {K:Act→World→Prop}:∀ (x:List Oper) {y:List Oper} {a:Act} {w:World},wpList P ops (Exit.then K Q) x a w→(∀ a w,K a w→wpList P ops Q y a w)→wpList P ops Q (x++y) a w
 | [],y,a,w,h,hk=>hk a w h
 | o::x,y,a,w,h,hk=>by
  simp only [List.cons_append,wpList] at h ⊢
  split
  ·rename_i hw
   rw [if_pos hw] at h
   rcases h with h | ⟨h1,a0,w0,h2⟩
   ·refine .inl ?_
    have hm:∀ a w,wpList P ops (Exit.then K Q) x a w→wpList P ops Q (x++y) a w:=fun a w h=>QkM x h hk
    unfold Oper.wp at h ⊢
    generalize (execOp a.eval o).run P w=r at *
    cases r with
    | ok nx w'=>
     cases nx <;> simp only [Oper.upon] at h ⊢ <;>
      first
       | exact hm _ _ h
       | exact Calls.mono h (fun e w'' he=>by
        cases e with
        | returned v=>exact hm _ _ he
        | panicked c=>exact he
        | outgrown=>obtain ⟨a0,w0,h3⟩:=he; exact ⟨a0,w0,h3⟩)
       | exact Rows.mono h (fun _ _ he=>hm _ _ he)
    | halt hh w'=>cases hh <;> simp only [Oper.upon] at h ⊢ <;> exact h
   ·exact .inr ⟨h1,a0,w0,h2⟩
  ·rename_i hw
   rw [if_neg hw] at h
   exact QkM x h hk
theorem GL.split {α:Type} (x:List Oper) {y:List Oper} (J:α→HP) (e:α→List (Nat×Value)) (g:GL P C ops (Exit.then (Meet C n J e) Q) n x l H) (h:∀ v H',J v H'→GL P C ops Q n y (e v) H') :
 GL P C ops Q n (x++y) l H:=
 fun a w i m=>QkM x (g a w i m) fun f o ⟨v,H',j,b,d⟩=>h v H' j f o b d
theorem GL.cut {α:Type} (k:Nat) {r:List Oper} (J:α→HP) (e:α→List (Nat×Value)) (h1:GL P C ops (Exit.then (Meet C n J e) Q) n (r.take k) l H) (h2:∀ v H',J v H'→GL P C ops Q n (r.drop k) (e v) H') :
 GL P C ops Q n r l H:=by
 have:=GL.split (r.take k) J e h1 h2
 rwa [List.take_append_drop] at this
theorem GL.cut0 (k : Nat) {r : List Oper} (b : List (Nat × Value)) (d : GL P C ops (Exit.then (Meet C n (fun (_ : Unit) H2 => H2 = H) (fun _ => b)) Q) n (r.take k) l H) (f : GL P C ops Q n (r.drop k) b H) :
 GL P C ops Q n r l H:=GL.cut k _ _ d fun _ _ e=>by subst e; exact f
theorem XaF {α:Type} {c:Code} (J:α→HP) (e:α→List (Nat×Value)) (h1:GC P C (Exit.then (Meet C n J e) Q) n c l H) (h2:∀ x H',J x H'→GL P C #[] Q n [] (e x) H'):GC P C Q n c l H:=
 fun a w hf hs=>wp_mono (h1 a w hf hs) fun ex a' w' hq=>by
  cases ex with
  | normal=>obtain ⟨x,H',hj,hf',hs'⟩:=hq; exact h2 x H' hj a' w' hf' hs'
  | _=>exact hq
def GQ (P:Program) (C:Ctx) (ops:Array Oper) (Q:Exit→Act→World→Prop) (n:FN) (rest:List Oper) (l:List (Nat×Value)) (H:Heap):Prop:=
 ∀ a w,Fr n l a→St C w H→wpQuiet P ops (fun w=>St C w H) (fun a'=>∀ w',St C w' H→Q .normal a' w') rest a
theorem XaC {g:Nat} {ops:List Oper} (hm:P.follows .mixedOrders=true) (d:Region.lexB .any ops.toArray=true) (k:GQ P C ops.toArray Q n ops l H):GC P C Q n (.region g ops.toArray true) l H:=
 fun a w f b=>wp_region_quiet (C:=fun w=>St C w H) hm d b.drew (by simpa using k a w f b)
theorem GQ.val {op:Op} {v:Value} (m:Wt ops l g) (h:Nat.blt d n.n=true) (i:OV P C n l H ⟨some d,op,ty,pos,after,g⟩ v) (k:GQ P C ops Q n rest ((d,v)::l) H) :
 GQ P C ops Q n (⟨some d,op,ty,pos,after,g⟩::rest) l H:=by
 intro a q b f
 have hx:=m.wanted (o:=⟨some d,op,ty,pos,after,g⟩) rfl b
 simp only [wpQuiet,hx,if_true]
 refine ⟨v,fun w j=>?_,k _ q (b.put h) f⟩
 unfold Oper.quietAt
 rw [i a w b j]
 exact ⟨rfl,rfl⟩
theorem GQ.skip {op:Op} (i:Wn ops l g) (h:Nat.blt d n.n=true) (k:GQ P C ops Q n rest ((d,undef)::l) H):GQ P C ops Q n (⟨some d,op,ty,pos,after,g⟩::rest) l H:=by
 intro a j f b
 have hx:=i.wanted (o:=⟨some d,op,ty,pos,after,g⟩) rfl f
 simp only [wpQuiet,hx]
 exact k _ j (f.put h) b
theorem GQ.nil (k:GL P C ops Q n [] l H):GQ P C ops Q n [] l H:=fun a _ b _ w d=>k a w b d
end
end
section
open Go
def nck (q:Option (Nat×Nat)) (K:Nat×Nat→Prop):Prop:=∃ p,q=some p∧K p
def catOk (a b:Str):Prop:=a.length+b.length < 9223372036854775807
def mkS (zc:List Value) (bytes:Nat) (len cap:Int) (K:Nat→HP) (H:Heap):Prop:=
 0≤len∧len≤cap∧(bytes:Int)*cap≤281474976710656∧cap≤9223372036854775807∧∀ b,H b=none→K b (H.put b (.row (zeros zc cap.toNat)))
section
variable {P:Program} {C:Ctx} {Q Q':Exit→Act→World→Prop} {n:FN} {l:List (Nat×Value)} {H:Heap} {ops:Array Oper} {rest tl:List Oper} {d:Nat} {ty:TypeId} {pos:String} {after:Array Edge} {g:Option (Nat×Bool)}
theorem Xr {b:Nat} {y:Code} (f:∀ a w,y.wp P Q' a w→Q (.exit b) a w) (k:GC P C Q' n y l H):GC P C Q n (.exit b) l H:=fun a w d g=>wp_exit (f a w (k a w d g))
theorem XH {b:Nat} (h:∀ a w,Fr n l a→St C w H→Q (.exit b) a w):GC P C Q n (.exit b) l H:=fun a w d f=>wp_exit (h a w d f)
theorem XF {y:Code} (d:∀ a w,y.wp P Q' a w→Q .normal a w) (k:GC P C Q' n y l H):GC P C Q n .skip l H:=fun a w b f=>wp_skip (d a w (k a w b f))
theorem Xy {y:Code} (d:∀ a w,y.wp P Q' a w→Q .normal a w) (k:GC P C Q' n y l H):GL P C ops Q n [] l H:=fun a w b f=>d a w (k a w b f)
theorem Xi {α:Type} {J:α→HP} {e:α→List (Nat×Value)} (d:∀ a w,Meet C n J e a w→Q .normal a w) (x:α) (b:J x H) (f:Sub l (e x)):GL P C ops Q n [] l H:=GL.jump d x b f
theorem Qjb {b : World → Prop} {d : Act → Prop} : ∀ (x : List Oper) {y : List Oper} {a : Act}, wpQuiet P ops b (fun a' => wpQuiet P ops b d y a') x a → wpQuiet P ops b d (x ++ y) a
 | [],y,a,h=>h
 | o::x,y,a,h=>by
  simp only [List.cons_append,wpQuiet] at h ⊢
  split
  ·rename_i hw
   rw [if_pos hw] at h
   obtain ⟨v,h1,h2⟩:=h
   exact ⟨v,h1,Qjb x h2⟩
  ·rename_i hw
   rw [if_neg hw] at h
   exact Qjb x h
theorem QkN {d:World→Prop} {f g:Act→Prop} (b:∀ a,f a→g a):∀ (x:List Oper) {a:Act},wpQuiet P ops d f x a→wpQuiet P ops d g x a
 | [],a,h=>b a h
 | o::x,a,h=>by
  simp only [wpQuiet] at h ⊢
  split
  ·rename_i hw
   rw [if_pos hw] at h
   obtain ⟨v,h1,h2⟩:=h
   exact ⟨v,h1,QkN b x h2⟩
  ·rename_i hw
   rw [if_neg hw] at h
   exact QkN b x h
theorem GQ.cut (k : Nat) {r : List Oper} (e : Unit → List (Nat × Value)) (g : GQ P C ops (Exit.then (Meet C n (fun (_ : Unit) H2 => H2 = H) e) Q) n (r.take k) l H) (i : ∀ (v : Unit) H', H' = H → GQ P C ops Q n (r.drop k) (e v) H') :
 GQ P C ops Q n r l H:=by
 intro a w o f
 have j:=g a w o f
 have m:wpQuiet P ops (fun w=>St C w H) (fun b=>wpQuiet P ops (fun w=>St C w H) (fun b=>∀ w',St C w' H→Q .normal b w') (r.drop k) b) (r.take k) a:=
  QkN (fun b h=>by
   obtain ⟨x,H',rfl,d,_⟩:=h w f
   exact i () H' rfl b w d f) _ j
 have:=Qjb _ m
 rwa [List.take_append_drop] at this
theorem GQ.cut0 (k : Nat) {r : List Oper} (b : List (Nat × Value)) (d : GQ P C ops (Exit.then (Meet C n (fun (_ : Unit) H2 => H2 = H) (fun _ => b)) Q) n (r.take k) l H) (f : GQ P C ops Q n (r.drop k) b H) :
 GQ P C ops Q n r l H:=GQ.cut k _ d fun _ _ e=>by subst e; exact f
theorem Xan {s b:TypeId} {x:Operand} {f:Str} (hx:opv l x=some (sv f)) (i:(P.underlying s)=some .string) (m:P.underlying b=some .string) :
 OV P C n l H ⟨some d,.convert s b x,ty,pos,after,g⟩ (sv f):=fun o w h j=>by
 simp only [execOp,h.ev hx,convert,bind_pure_comp,Sem.run_map,Sem.run_bind,underlying,run_program,Result.andThen_ok,i,m,Sem.run_pure,sv]
theorem XaG {x y:Operand} {f:Array TypeId} {k0:IntKind} {a b:Int} (hx:opv l x=some (.int k0 a)) (hy:opv l y=some (.int k0 b)) :
 OV P C n l H ⟨some d,.call { callee:=.builtin .max,args:=#[x,y],argTypes:=f },ty,pos,after,g⟩ (.int k0 (if b > a then b else a)):=fun i w h j=>by
 simp only [execOp,resolve,invoke,builtin,List.map_toArray,List.map_cons,List.map_nil,h.ev hx,h.ev hy]
 simp [Builtin.max_,Builtin.max2]
theorem XaD {x y:Operand} {f:Array TypeId} {k0:IntKind} {a b:Int} (hx:opv l x=some (.int k0 a)) (hy:opv l y=some (.int k0 b)) :
 OV P C n l H ⟨some d,.call { callee:=.builtin .min,args:=#[x,y],argTypes:=f },ty,pos,after,g⟩ (.int k0 (if b < a then b else a)):=fun i w h j=>by
 simp only [execOp,resolve,invoke,builtin,List.map_toArray,List.map_cons,List.map_nil,h.ev hx,h.ev hy]
 simp [Builtin.min_,Builtin.min2]
theorem QrN (zc:List Value) (k:Nat):madeCells zc.toArray (k*zc.length)=(zeros zc k).toArray:=by
 rw [← QkO]
 simp [madeCells,Builtin.zeroCells]
theorem GL.makeSlice {t:TypeId} {x y:Operand} {u r:IntKind} {a b:Int} {zc:List Value} {bytes:Nat} {K:Nat→HP} (h:mkS zc bytes a b K H) (L:Wt ops l g) (E:Nat.blt d n.n=true)
 (hx:opv l x=some (.int u a)) (hy:opv l y=some (.int r b)) (F:Elem P t zc bytes)
 (k:∀ b' H',K b' H'→GL P C ops Q n rest ((d,slv (Sl.of (some (b',0)) a.toNat b.toNat))::l) H'):GL P C ops Q n (⟨some d,.makeSlice t x y,ty,pos,after,g⟩::rest) l H:=by
 obtain ⟨e,i,z,J,hi,m,j,M,o⟩:=F.ok
 obtain ⟨h0,A,B,D,G⟩:=h
 refine GL.run (v:=undef) L E fun N w q f=>?_
 have I:=run_make (P:=P) w t e i z J hi M u r a b h0 A (by rw [j]; exact B) D
 refine ⟨slv (Sl.of (some (w.heap.size,0)) a.toNat b.toNat),w.alloc (.cells (madeCells z.cells (b.toNat*i.size)) e),_,?_,?_,k _ _ (G w.heap.size f.fresh)⟩
 ·simp only [execOp,q.ev hx,q.ev hy]
  simp [I,slv,Sl.ad]
 ·rw [o,m,QrN]
  exact f.push ⟨rfl,fun _=>.inl rfl⟩
end
end
section
open Go
def dr (H:Heap) (K:HP):Prop:=∃ Hs,Heap.le Hs H∧K Hs
def GA (P:Program) (C:Ctx) (ops:Array Oper) (Q:Exit→Act→World→Prop) (n:FN) (fuel:Nat) (listed:Array Bool) (l:List (Nat×Value)) (H Hs:Heap):Prop:=
 ∀ a w,Fr n l a→St C w H→St C w Hs→wpAnyH P .any ops Q (fun w=>St C w Hs) fuel listed a w
section
variable {P:Program} {C:Ctx} {Q:Exit→Act→World→Prop} {n:FN} {l:List (Nat×Value)} {H Hs:Heap} {ops:Array Oper} {fuel:Nat} {listed:Array Bool} {d:Nat} {op:Op} {ty:TypeId} {pos:String} {after:Array Edge} {g:Option (Nat×Bool)}
theorem GC.any {f:Nat} {ops:List Oper} (hm:P.follows .mixedOrders=true) (hle:Hs.le H) (k:GA P C ops.toArray Q n ops.toArray.size (Array.replicate ops.toArray.size false) l H Hs):GC P C Q n (.region f ops.toArray true) l H:=
 fun a w d b=>wp_region_held hm (k a _ d b.drew (b.drew.weaken hle))
theorem GA.take (i:Nat) {v:Value} (hi:ops[i]? = some ⟨some d,op,ty,pos,after,g⟩) (x:Region.noSelect ops=true) (t:Region.free .any ops listed i=true) (u:(Region.ready .any ops listed).contains i=true)
 (q:∀ c a w,Q (.panic c) a w→False) (z:Wt ops l g) (r:Nat.blt d n.n=true) (y:OV P C n l Hs ⟨some d,op,ty,pos,after,g⟩ v)
 (k:GA P C ops Q n fuel (listed.setIfInBounds i true) ((d,v)::l) H Hs):GA P C ops Q n (fuel+1) listed l H Hs:=by
 intro a w b j f
 exact wpAnyH_take hi x t u (fun c a w h=>(q c _ w h).elim) (.inl ⟨z.wanted (o:=⟨some d,op,ty,pos,after,g⟩) rfl b,fun A m=>y a A b m⟩) f (k _ w (b.put r) j f)
theorem GA.eff (i:Nat) {o:Oper} (hi:ops[i]? = some o) (A:Region.ready .any ops listed=[i])
 (k:GL P C ops (Exit.then (fun a w=>St C w Hs∧wpAnyH P .any ops Q (fun w=>St C w Hs) fuel (listed.setIfInBounds i true) a w) Q) n [o] l H):GA P C ops Q n (fuel+1) listed l H Hs:=by
 intro a w f m B
 refine wpAnyH_all A (by simp) fun j z=>?_
 have g:j=i:=by simpa using z
 subst g
 have h:=k a w f m
 unfold wpOp
 simp only [hi]
 simp only [wpList] at h
 split
 ·rename_i q
  rw [if_pos q] at h
  rcases h with h | ⟨u,b,t,x⟩
  ·refine .inl ?_
   unfold Oper.wp at h ⊢
   generalize (execOp a.eval o).run P w=r at *
   cases r with
   | ok D E=>
    cases D <;> simp only [Oper.upon] at h ⊢ <;>
     first
      | exact h
      | exact Calls.mono h (fun e F d=>by
       cases e with
       | returned v=>exact d
       | panicked c=>exact d
       | outgrown=>obtain ⟨b,t,y⟩:=d; exact ⟨b,t,y⟩)
   | halt hh E=>cases hh <;> simp only [Oper.upon] at h ⊢ <;> exact h
  ·exact .inr ⟨u,b,t,x⟩
 ·rename_i q
  rw [if_neg q] at h
  exact h
theorem Qr9 {K:Act→World→Prop} {i:Nat} {o:Oper} {a:Act} {w:World} (hi:ops[i]? = some o) (h:wpList P ops (Exit.then K Q) [o] a w):wpOp P ops Q i K a w:=by
 unfold wpOp
 simp only [hi]
 simp only [wpList] at h
 split
 ·rename_i f
  rw [if_pos f] at h
  rcases h with h | ⟨j,b,g,m⟩
  ·refine .inl ?_
   unfold Oper.wp at h ⊢
   generalize (execOp a.eval o).run P w=r at *
   cases r with
   | ok t u=>
    cases t <;> simp only [Oper.upon] at h ⊢ <;>
     first
      | exact h
      | exact Calls.mono h (fun e x d=>by
       cases e with
       | returned v=>exact d
       | panicked c=>exact d
       | outgrown=>obtain ⟨b,g,q⟩:=d; exact ⟨b,g,q⟩)
   | halt hh u=>cases hh <;> simp only [Oper.upon] at h ⊢ <;> exact h
  ·exact .inr ⟨j,b,g,m⟩
 ·rename_i f
  rw [if_neg f] at h
  exact h
theorem GA.effs (L:List Nat) (hr:Region.ready .any ops listed=L) (hne:L≠[])
 (k:∀ i ∈ L,∃ o,ops[i]? = some o∧GL P C ops (Exit.then (fun a w=>St C w Hs∧wpAnyH P .any ops Q (fun w=>St C w Hs) fuel (listed.setIfInBounds i true) a w) Q) n [o] l H):GA P C ops Q n (fuel+1) listed l H Hs:=by
 intro a w hfr hst hss
 refine wpAnyH_all hr hne fun j hj=>?_
 obtain ⟨o,ho,h⟩:=k j hj
 exact Qr9 ho (h a w hfr hst)
theorem GA.back {d:Nat} {b:Array Bool} (hle:Hs.le H) (k:GA P C ops Q n d b l H Hs) :
 GL P C ops (Exit.then (fun a w=>St C w Hs∧wpAnyH P .any ops Q (fun w=>St C w Hs) d b a w) Q) n [] l H:=
 fun a w g f=>⟨f.weaken hle,k a w g f (f.weaken hle)⟩
theorem GA.done (d:Region.ready .any ops listed=[]) (k:GL P C ops Q n [] l H):GA P C ops Q n fuel listed l H Hs:=
 fun a w b f _=>wpAnyH_done d (k a w b f) fuel
def wpHd (P:Program) (ops:Array Oper) (Q:Exit→Act→World→Prop) (S:World→Prop) (t:Nat):Nat→Array Bool→Act→World→Prop
 | 0,listed,a,w=>Region.seqB .any ops (ops.size - t) t listed=true∧wpList P ops Q (ops.toList.drop t) a w
 | f+1,listed,a,w=>Region.ready .any ops listed≠[]∧∀ i ∈ Region.ready .any ops listed,i < t∧wpOp P ops Q i (fun a' w'=>S w'∧wpHd P ops Q S t f (listed.setIfInBounds i true) a' w') a w
theorem Qpc {S:World→Prop} {t:Nat}:∀ (f:Nat) (listed:Array Bool) (a:Act) (w:World),wpHd P ops Q S t f listed a w→wpAny P .any ops Q (f+(ops.size - t)) listed a w
 | 0,listed,a,w,h=>by
  rw [Nat.zero_add]
  have h2:=wpAny_of_seq (P:=P) (ops:=ops) (md:=.any) (Q':=Q) (ops.toList.drop t) t listed a w (fun j=>by simp) (by simpa using h.1) h.2
  simpa using h2
 | f+1,listed,a,w,h=>by
  rw [show f+1+(ops.size - t)=(f+(ops.size - t))+1 by omega]
  exact ⟨fun h0=>absurd h0 h.1,fun i hi=>wpOp_mono (fun b g d=>Qpc f _ b g d.2) (h.2 i hi).2⟩
theorem Qr8 {S:World→Prop} {t i:Nat} {C:Oper} {v:Value} (hi:ops[i]? = some C) (y:∀ (j:Nat) (o:Oper) cs b,ops[j]? = some o→o.op≠.select cs b)
 (N:Region.sinkB .any ops t=true) (M:Region.chainB .any ops t=true) (O:t < ops.size) (F:i < t)
 (T:∀ c a w,Q (.panic c) (a.put C.dst v) w→Q (.panic c) a w):∀ (f:Nat) (listed:Array Bool) (a:Act) (w:World),HeadInv .any ops t listed→
  (∀ j oj,ops[j]? = some oj→j≠i→listed.getD j true=false→(∀ e ∈ oj.after,Region.binds .any e=true→e.on≠i)→C.apart ops oj=true)→
  i ∈ Region.ready .any ops listed→YieldsIf P ops S C v a→S w→
  wpHd P ops Q S t f (listed.setIfInBounds i true) (a.put C.dst v) w→wpHd P ops Q S t (f+1) listed a w:=by
 intro f
 induction f with
 | zero=>
  intro listed a w r _ x hy D h
  have q:=(mem_ready.1 x).1
  refine ⟨fun h0=>(by rw [h0] at x; cases x),fun j A=>?_⟩
  have m:j < t:=by
   rcases Nat.lt_or_ge j t with g | g
   ·exact g
   ·exact absurd A (tail_waits N M O r _ i rfl F q j g)
  refine ⟨m,?_⟩
  by_cases hji:j=i
  ·subst hji; exact hy.wpOp hi D ⟨D,h⟩
  ·have:=seqB_ready h.1 j (ready_mono A hji)
   omega
 | succ f Y=>
  intro listed a w r d x hy D h
  have q:=(mem_ready.1 x).1
  refine ⟨fun h0=>(by rw [h0] at x; cases x),fun j A=>?_⟩
  have m:j < t:=by
   rcases Nat.lt_or_ge j t with g | g
   ·exact g
   ·exact absurd A (tail_waits N M O r _ i rfl F q j g)
  refine ⟨m,?_⟩
  by_cases hji:j=i
  ·subst hji; exact hy.wpOp hi D ⟨D,h⟩
  ·have g:=(h.2 j (ready_mono A hji)).2
   obtain ⟨u,oj,B,E⟩:=mem_ready.1 A
   have G:∀ e ∈ oj.after,Region.binds .any e=true→e.on≠i:=fun e W U J=>by
    have H:=E e W U
    rw [J,getD_both q] at H
    cases H
   have H:=wpOp_putIf B (d j oj B hji u G) (fun cs b=>y i C cs b hi) (fun cs b=>y j oj cs b B) T hy g
   have hfree':∀ k ok,ops[k]? = some ok→k≠i→(listed.setIfInBounds j true).getD k true=false→(∀ e ∈ ok.after,Region.binds .any e=true→e.on≠i)→C.apart ops ok=true:=fun k ok X K z L=>by
    refine d k ok X K ?_ L
    by_cases hjk:j=k
    ·subst hjk; exact u
    ·rw [getD_set_ne true hjk] at z; exact z
   refine wpOp_mono (fun R Z I=>⟨I.2.1,Y (listed.setIfInBounds j true) R Z (r.set A m) hfree' (ready_mono x (Ne.symm hji)) I.1 I.2.1 ?_⟩) H
   rw [Array.setIfInBounds_comm _ _ hji]
   exact I.2.2
def GT (P:Program) (C:Ctx) (ops:Array Oper) (Q:Exit→Act→World→Prop) (n:FN) (t:Nat) (fuel:Nat) (listed:Array Bool) (l:List (Nat×Value)) (H Hs:Heap):Prop:=
 ∀ a w,Fr n l a→St C w H→St C w Hs→HeadInv .any ops t listed→wpHd P ops Q (fun w=>St C w Hs) t fuel listed a w
def tailOk (ops:Array Oper) (t:Nat):Bool:=Region.noSelect ops && decide (t < ops.size) && Region.sinkB .any ops t && Region.chainB .any ops t
theorem GC.tail {m:Nat} {ops:List Oper} (t:Nat) (hm:P.follows .mixedOrders=true) (hle:Hs.le H) (d:tailOk ops.toArray t=true) (k:GT P C ops.toArray Q n t t (Array.replicate ops.toArray.size false) l H Hs) :
 GC P C Q n (.region m ops.toArray true) l H:=by
 intro a w h g
 simp only [tailOk,Ve,Vj] at d
 obtain ⟨⟨⟨o,q⟩,r⟩,u⟩:=d
 have b:HeadInv .any ops.toArray t (Array.replicate ops.toArray.size false):=
  ⟨by simp,fun j x _ f=>(by rw [getD_replicate_false] at f; cases f),fun t _ i=>getD_in (by simpa using i) (getD_replicate_false _ _)⟩
 have:=Qpc _ _ _ _ (k a _ h g.drew (g.drew.weaken hle) b)
 rw [show t+(ops.toArray.size - t)=ops.toArray.size by omega] at this
 exact wp_region_any hm this
theorem Qpd {K:Act→World→Prop} {i:Nat} {o:Oper} {a:Act} {w:World} (hi:ops[i]? = some o) (h:wpList P ops (Exit.then K Q) [o] a w):wpOp P ops Q i K a w:=by
 unfold wpOp
 simp only [hi]
 simp only [wpList] at h
 split
 ·rename_i f
  rw [if_pos f] at h
  rcases h with h | ⟨j,b,g,m⟩
  ·refine .inl ?_
   unfold Oper.wp at h ⊢
   generalize (execOp a.eval o).run P w=r at *
   cases r with
   | ok t u=>
    cases t <;> simp only [Oper.upon] at h ⊢ <;>
     first
      | exact h
      | exact Calls.mono h (fun e x d=>by
       cases e with
       | returned v=>exact d
       | panicked c=>exact d
       | outgrown=>obtain ⟨b,g,q⟩:=d; exact ⟨b,g,q⟩)
   | halt hh u=>cases hh <;> simp only [Oper.upon] at h ⊢ <;> exact h
  ·exact .inr ⟨j,b,g,m⟩
 ·rename_i f
  rw [if_neg f] at h
  exact h
theorem GT.eff {t:Nat} (i:Nat) {o:Oper} (hi:ops[i]? = some o) (r:Region.ready .any ops listed=[i]) (d:Nat.blt i t=true)
 (k:GL P C ops (Exit.then (fun a w=>St C w Hs∧(HeadInv .any ops t (listed.setIfInBounds i true)→wpHd P ops Q (fun w=>St C w Hs) t fuel (listed.setIfInBounds i true) a w)) Q) n [o] l H):GT P C ops Q n t (fuel+1) listed l H Hs:=by
 intro a w b m u q
 have hit':i < t:=by simpa using d
 refine ⟨by rw [r]; simp,fun j f=>?_⟩
 have g:j=i:=by rw [r] at f; simpa using f
 subst g
 exact ⟨hit',wpOp_mono (fun x y h=>⟨h.1,h.2 (q.set f hit')⟩) (Qpd hi (k a w b m))⟩
theorem GT.effs {t:Nat} (L:List Nat) (r:Region.ready .any ops listed=L) (f:L≠[])
 (k:∀ i ∈ L,∃ o,ops[i]? = some o∧Nat.blt i t=true∧GL P C ops (Exit.then (fun a w=>St C w Hs∧(HeadInv .any ops t (listed.setIfInBounds i true)→wpHd P ops Q (fun w=>St C w Hs) t fuel (listed.setIfInBounds i true) a w)) Q) n [o] l H):GT P C ops Q n t (fuel+1) listed l H Hs:=by
 intro a w b g x m
 refine ⟨by rw [r]; exact f,fun j q=>?_⟩
 obtain ⟨o,u,d,h⟩:=k j (by rw [← r]; exact q)
 have hit':j < t:=by simpa using d
 exact ⟨hit',wpOp_mono (fun y z h=>⟨h.1,h.2 (m.set q hit')⟩) (Qpd u (h a w b g))⟩
theorem GT.back {t d:Nat} {b:Array Bool} (hle:Hs.le H) (k:GT P C ops Q n t d b l H Hs) :
 GL P C ops (Exit.then (fun a w=>St C w Hs∧(HeadInv .any ops t b→wpHd P ops Q (fun w=>St C w Hs) t d b a w)) Q) n [] l H:=
 fun a w h f=>⟨f.weaken hle,fun g=>k a w h f (f.weaken hle) g⟩
theorem GT.done {t:Nat} (d:Region.seqB .any ops (ops.size - t) t listed=true) (k:GL P C ops Q n (ops.toList.drop t) l H):GT P C ops Q n t 0 listed l H Hs:=
 fun a w b f _ _=>⟨d,k a w b f⟩
end
end
section
open Go
def heapOf (W:World):Heap:=fun b=>(W.heap[b]?).map fun o=>(false,match o with | .cells c _ _=>.row c.toList | o=>.obj o)
def ctxOf (W:World):Ctx:=⟨W.heap,W.output,W.os,W.tape,W.drawn⟩
theorem Qu7 (W:World):St (ctxOf W) W (heapOf W):=by
 refine ⟨fun b m g h=>?_,fun b g h=>?_,fun _ _=>rfl,rfl,⟨rfl,Nat.le_refl _⟩,fun _=>none,fun b m T e bs h=>?_,fun b j g m T e bs r i q f _ _ h=>by cases h⟩
 rotate_left 2
 ·simp only [heapOf,Option.map_eq_some_iff,Prod.mk.injEq] at h
  obtain ⟨o,d,hm,hg⟩:=h
  cases o <;> cases hg
 ·simp only [heapOf,Option.map_eq_some_iff,Prod.mk.injEq] at h
  obtain ⟨o,d,hm,hg⟩:=h
  refine ⟨o,d,?_⟩
  subst hm
  cases o <;> simp only at hg <;> subst hg
  ·exact ⟨by simp,fun h=>by cases h⟩
  all_goals exact ⟨rfl,fun _ _ _ h=>by cases h⟩
 ·simp only [heapOf,Option.map_eq_some_iff,Prod.mk.injEq] at h
  obtain ⟨o,d,hm,hg⟩:=h
  cases hm
theorem St.sameAt {W W':World} {H:Heap} (h:St (ctxOf W) W' H) {p:MemPlace} (hp:p.block < W.heap.size):W.sameAt W' p:=by
 have d:W'.heap[p.block]? = W.heap[p.block]?:=h.old p.block hp
 cases p with
 | cell b o=>exact World.cell?_of_block (w:=W) d
 | map b=>exact d
theorem St.frame {W W':World} {H:Heap} (h:St (ctxOf W) W' H) (b:MemPlace→Prop):W.keptBut W' b:=by
 refine ⟨congrArg (fun q:Os×(Nat→Question→Nat)=>q.1) h.os.1,h.out,fun i hi=>?_⟩
 rw [show W'.heap[i]? = W.heap[i]? from h.old i hi]
 split <;> simp_all
section
variable {H:Type} {enc:TypeId×Value→H} {P:Program}
theorem Qr3 (j : laidOutB P = true) {W i : World} {G : Heap} (g : St (ctxOf W) i G) : ∀ {ts : List TypeId} {vs : List Value} {f : List (DataW H)} {ps : List MemPlace}, ts.all (fun t => P.readableRec t && decide (t < P.types.size)) = true →
 DataW.TrodAll enc P W 0 (fun _=>true) true ts vs f ps→(∀ x ∈ ps,x.block < W.heap.size)→DataW.TrodAll enc P i 0 (fun b=>decide (b < W.heap.size)) true ts vs f ps
 | [],vs,f,ps,_,h,_=>by
  cases vs <;> cases f <;> simp_all [DataW.TrodAll]
 | t::ts,vs,f,ps,ht,h,hlt=>by
  obtain ⟨v,vs',d,ds',p,q,rfl,rfl,rfl,h1,h2⟩:=ChangeShapes.trodAll_cons h
  simp only [List.all_cons,Ve,Vj] at ht
  exact trodAll_cons_mk (WideElems.Trod_stays j ht.1.1 ht.1.2 h1 (fun x hx => g.sameAt (hlt x (Vi _ hx))) (fun x hx => by simpa using hlt x (Vi _ hx)))
   (Qr3 j g ht.2 h2 (fun x hx=>hlt x (Vh _ hx)))
mutual
def sizeD {H:Type}:DataW H→Nat
 | .lit (.string bytes)=>bytes.length+1
 | .lit _=>1
 | .nil=>1
 | .ptr d=>sizeD d+1
 | .slice elems spare=>sizeDs elems+sizeDs spare+1
 | .agg parts=>sizeDs parts+1
 | .iface _ d=>sizeD d+1
 | .map _=>1
 | .held _=>1
def sizeDs {H:Type}:List (DataW H)→Nat
 | []=>0
 | d::r=>sizeD d+sizeDs r
end
theorem QmX {H:Type} (d:DataW H):1≤sizeD d:=by
 cases d <;> try (simp [sizeD]; done)
 rename_i l
 cases l <;> simp [sizeD]
theorem QiB {H:Type}:∀ {l:List (DataW H)} {d:DataW H},d ∈ l→sizeD d≤sizeDs l
 | e::l,d,h=>by
  rcases List.mem_cons.1 h with rfl | h
  ·simp [sizeDs]
  ·have:=QiB h; simp only [sizeDs]; omega
theorem Qnn {H:Type}:∀ (l:List (DataW H)),l.length≤sizeDs l
 | []=>by simp [sizeDs]
 | d::l=>by have:=Qnn l; have:=QmX d; simp only [sizeDs,Vd]; omega
def Tr (P:Program) (W:World) (B:Nat) (n:Nat) (t:TypeId) (cs:List Value):Prop:=
 ∃ (H:Type) (enc:TypeId×Value→H) (x:DataW H×List MemPlace),DataW.trod enc P W 0 (fun _=>true) true n t cs=some x∧sizeD x.1≤B
theorem Tr.of {W:World} {t:TypeId} {v:Value} {d:DataW H} {p:List MemPlace} (h:DataW.Trod enc P W 0 (fun _=>true) true t v d p):∃ n,Tr P W (sizeD d) n t v.cells.toList:=by
 obtain ⟨n,hn⟩:=h
 exact ⟨n,H,enc,_,hn,Nat.le_refl _⟩
theorem Tr.int {W:World} {B n:Nat} {t:TypeId} {cs:List Value} {k:IntKind} (h:Tr P W B n t cs) (f:P.underlying t=some (.int k)):∃ x,cs=[.int k x]∧(Lit.int k x).wf=true:=by
 obtain ⟨H,enc,x,h,g⟩:=h
 obtain ⟨n,b,_,d⟩:=DataW.trod_int f h
 exact ⟨n,b,d⟩
theorem Tr.bool {W:World} {B n:Nat} {t:TypeId} {cs:List Value} (h:Tr P W B n t cs) (f:P.underlying t=some .bool):∃ x,cs=[.bool x]:=by
 obtain ⟨H,enc,x,h,g⟩:=h
 obtain ⟨b,d,_⟩:=DataW.trod_bool f h
 exact ⟨b,d⟩
theorem Tr.str {W:World} {B n:Nat} {t:TypeId} {cs:List Value} (h:Tr P W B n t cs) (g:P.underlying t=some .string):∃ s:Str,cs=[sv s]∧s.length≤maxLen∧s.length≤B:=by
 obtain ⟨H,enc,x,h,b⟩:=h
 obtain ⟨s,d,hx,f⟩:=DataW.trod_string g h
 refine ⟨s.data.toList,?_,by rw [Array.length_toList]; exact f,?_⟩
 ·rw [d]; simp [sv]
 ·rw [hx] at b; simp only [sizeD] at b; omega
theorem QrW {W:World} {p:Nat×Nat} {v:Value} (h:W.cell? (adv p)=some v):rd (heapOf W) p=some v:=by
 simp only [World.cell?,adv] at h
 simp only [rd,heapOf]
 cases hb:W.heap[p.1]? with
 | none=>simp [hb] at h
 | some o=>cases o <;> simp_all [GO.cells?]
theorem Qp3 {H:Heap}:∀ {a b:List Value} {p:Nat×Nat},rds H p (a++b)↔rds H p a∧rds H (p.1,p.2+a.length) b
 | [],b,p=>by simp [rds]
 | x::a,b,p=>by
  simp only [List.cons_append,rds,Vd,Qp3 (a:=a) (p:=(p.1,p.2+1)),and_assoc]
  rw [show p.2+(a.length+1)=p.2+1+a.length by omega]
theorem Qq9 {H:Heap} {z:Nat}:∀ {b:List (List Value)} {p:Nat×Nat},(∀ c ∈ b,c.length=z)→(∀ i c,b[i]? = some c→rds H (p.1,p.2+i*z) c)→rds H p b.flatten
 | [],p,_,_=>trivial
 | c::b,p,hz,h=>by
  rw [List.flatten_cons,Qp3]
  have hc:=hz c (List.mem_cons_self ..)
  refine ⟨by simpa using h 0 c (by simp),Qq9 (p:=(p.1,p.2+c.length)) (fun c hc=>hz c (List.mem_cons_of_mem _ hc)) fun i d f=>?_⟩
  have:=h (i+1) d (by simpa using f)
  rw [show p.2+c.length+i*z=p.2+(i+1)*z by rw [hc,Nat.add_mul]; omega]
  exact this
theorem Qoy {W:World} {a:Addr} {v:Value} (h:W.cell? a=some v):a.spot=none:=by
 obtain ⟨b,o,s⟩:=a
 cases s with
 | none=>rfl
 | some s=>simp only [World.cell?] at h; split at h <;> simp_all
theorem listOf {α:Type} {n:Nat} {p:Nat→α→Prop}:(∀ i,i < n→∃ x,p i x)→∃ l:List α,l.length=n∧∀ i x,l[i]? = some x→p i x:=by
 induction n with
 | zero=>intro _; exact ⟨[],rfl,fun i x h=>by simp at h⟩
 | succ n g=>
  intro h
  obtain ⟨l,b,f⟩:=g fun i hi=>h i (by omega)
  obtain ⟨x,hx⟩:=h n (by omega)
  refine ⟨l++[x],by simp [b],fun i y hy=>?_⟩
  by_cases hi:i < n
  ·rw [List.getElem?_append_left (by omega)] at hy; exact f i y hy
  ·have d : i = n := by
    have:=(List.getElem?_eq_some_iff.1 hy).1
    simp [b] at this; omega
   subst d
   rw [List.getElem?_append_right (by omega),b] at hy
   simp at hy; subst hy; exact hx
theorem Tr.slice {W:World} {B n:Nat} {t e:TypeId} {cs:List Value} {z:Nat} (h:Tr P W B n t cs) (ht:P.underlying t=some (.slice e)) (hz:P.cellsOf e=z) (hz0:0 < z) :
 ∃ (s:Sl) (css:List (List Value)) (m:Nat),m < n∧cs=[slv s]∧s.len≤s.cap∧s.cap≤maxLen∧s.len≤B∧css.length=s.len∧rdsl (heapOf W) s css.flatten∧∀ c ∈ css,c.length=z∧Tr P W B m e c:=by
 obtain ⟨H,enc,x,h,hB⟩:=h
 rcases DataW.trod_slice ht h with ⟨h0,_⟩ | ⟨a,len,cap,elems,rest,m,rfl,hcs,hx,hb,hl,hm,hlen,hel,hsp,hns⟩
 ·have : 0 < n := by cases n with
   | zero=>simp [DataW.trod] at h
   | succ n=>omega
  exact ⟨Sl.nil,[],0,this,h0,Nat.le_refl _,by simp [Sl.nil],by simp [Sl.nil],rfl,.inl rfl,fun c hc=>by cases hc⟩
 ·subst hz
  have hB2:sizeDs (elems.map (·.1))+1≤B:=by rw [hx] at hB; simp only [sizeD] at hB; omega
  have hBl:=Qnn (elems.map (·.1))
  rw [List.length_map] at hBl
  have hall:∀ i,i < len→∃ c,W.cells? 0 (a.add (i*P.cellsOf e)) (P.cellsOf e)=some c∧Tr P W B m e c:=by
   intro i hi
   have h1:=hel i hi
   have h2:i < elems.length:=by omega
   rw [Vf h2] at h1
   rw [Option.bind_eq_some_iff] at h1
   obtain ⟨c,hc,ht⟩:=h1
   have:=QiB (List.mem_map_of_mem (f:=(·.1)) (Vg h2))
   exact ⟨c,hc,H,enc,_,ht,by omega⟩
  obtain ⟨css,hcl,hcss⟩:=listOf hall
  obtain ⟨b,o,sp⟩:=a
  refine ⟨⟨some (b,o),len,cap,sp⟩,css,m,Nat.lt_succ_self _,by rw [hcs]; rfl,hl,hm,by dsimp only; omega,hcl,?_,fun c hc=>?_⟩
  ·rcases Nat.eq_zero_or_pos len with h0 | h0
   ·left
    have:css=[]:=List.length_eq_zero_iff.1 (by omega)
    simp [this]
   ·obtain ⟨c0,hc0,_⟩:=hall 0 h0
    obtain ⟨_,hl0,hcell0⟩:=World.cells?_some hc0
    have hsp0:sp=none:=by
     have h1:=hcell0 0 hz0
     rw [Vf (by omega)] at h1
     have:=Qoy h1
     simpa [Addr.add] using this
    subst hsp0
    right
    refine ⟨rfl,(b,o),rfl,Qq9 (z:=P.cellsOf e) (fun c hc=>?_) fun i c hc=>?_⟩
    ·obtain ⟨i,hi,rfl⟩:=List.getElem_of_mem hc
     obtain ⟨h1,_⟩:=hcss i _ (Vf hi)
     exact (World.cells?_some h1).2.1
    ·obtain ⟨h1,_⟩:=hcss i c hc
     obtain ⟨_,hcl1,hcell⟩:=World.cells?_some h1
     refine Qff fun j v hj=>QrW ?_
     have hjl:j < P.cellsOf e:=by rw [← hcl1]; exact (List.getElem?_eq_some_iff.1 hj).1
     have h2:=hcell j hjl
     rw [hj] at h2
     rw [← h2]
     have e1:(⟨b,o,none⟩:Addr)=adv (b,o):=rfl
     rw [e1,Qgh,Qgh]
  ·obtain ⟨i,hi,rfl⟩:=List.getElem_of_mem hc
   obtain ⟨h1,h2⟩:=hcss i _ (Vf hi)
   exact ⟨(World.cells?_some h1).2.1,h2⟩
theorem Tr.struct {W:World} {B n:Nat} {t:TypeId} {fs:Array Field} {cs:List Value} (h:Tr P W B n t cs) (ht:P.underlying t=some (.struct fs)) :
 cs.length=P.cellsOf t∧∃ m,n=m+1∧∀ (i:Nat) (f:Field),fs[i]? = some f→Tr P W B m f.type ((cs.drop f.offset).take (P.cellsOf f.type)):=by
 obtain ⟨H,enc,x,h,hB⟩:=h
 obtain ⟨xs,m,rfl,hx,hl,hxl,hf⟩:=DataW.trod_struct ht h
 refine ⟨hl,m,rfl,fun i f hi=>?_⟩
 have h1:=hf i f hi
 have h2:i < fs.size:=(Array.getElem?_eq_some_iff.1 hi).1
 rw [Vf (by omega)] at h1
 have:=QiB (List.mem_map_of_mem (f:=(·.1)) (Vg (show i < xs.length by omega)))
 exact ⟨H,enc,_,h1,by rw [hx] at hB; simp only [sizeD] at hB; omega⟩
end
end
section
open Go
theorem Qu {x:Int} (h0:-9223372036854775808≤x) (b:x≤9223372036854775807):w .i64 x=x:=IntWalk.i64_in x ⟨h0,b⟩
def Gh (C:Ctx) (A B:Heap):Prop:=∀ w,St C w A→St C w B
theorem Gh.refl {C:Ctx} (A:Heap):Gh C A A:=fun _ h=>h
theorem Gh.trans {C:Ctx} {A B D:Heap} (h:Gh C A B) (b:Gh C B D):Gh C A D:=fun w d=>b w (h w d)
theorem Gh.le {C:Ctx} {A B:Heap} (h:B.le A):Gh C A B:=fun _ b=>b.weaken h
theorem Spec.gh {P:Program} {C:Ctx} {f:FuncId} {args:List Value} {H:Heap} {Φ:Value→HP} (h:Spec P C f args H (fun v H2=>∃ H0,Gh C H2 H0∧Φ v H0)):Spec P C f args H Φ:=
 fun w j=>(h w j).mono fun e o ⟨v,m,b,d,H0,g,i⟩=>⟨v,H0,b,g _ d,i⟩
theorem Xc {H:Heap} {b:Nat} {g:GO} {m:Bool} (d:H b=none):H.le (H.put b g m):=(Heap.le.refl H).put g m d
theorem Xh (H:Heap) (b:Nat) (g d:GO) (m f:Bool):(H.put b g m).put b d f=H.put b d f:=by
 funext x; by_cases hx:x=b
 ·subst hx; rw [Xa,Xa]
 ·rw [Xb _ _ _ hx,Xb _ _ _ hx,Xb _ _ _ hx]
theorem Heap.put_id {H:Heap} {b:Nat} {g:GO} {m:Bool} (d:H b=some (m,g)):H.put b g m=H:=by
 funext x; by_cases hx:x=b
 ·subst hx; rw [Xa,d]
 ·rw [Xb _ _ _ hx]
def Heap.but (b:Nat) (H H':Heap):Prop:=∀ x e,x≠b→H x=some e→H' x=some e
theorem Heap.but.trans {b:Nat} {A B D:Heap} (h:Heap.but b A B) (d:Heap.but b B D):Heap.but b A D:=fun x e hx f=>d x e hx (h x e hx f)
theorem Heap.but.put (b:Nat) (H:Heap) (g:GO) (m:Bool):Heap.but b H (H.put b g m):=fun x e hx h=>by rw [Xb _ _ _ hx]; exact h
theorem Qaq {H:Heap} {b o:Nat} {c:List Value} {m:Bool} (h:H b=some (m,.row c)):rd H (b,o)=c[o]?:=by simp [rd,h,GO.cells?]
theorem QhT {H:Heap} {b o:Nat} {c cs:List Value} {m:Bool} (h:H b=some (m,.row c)) (d:∀ j v,cs[j]? = some v→c[o+j]? = some v):rds H (b,o) cs:=
 Qff fun j v f=>by rw [Qaq h]; exact d j v f
theorem QvT {H:Heap} {cs:List Value} {p:Nat×Nat} (k:Nat) (h:rds H p cs):rds H p (cs.take k):=
 Qff fun j v b=>Qi7 h j v (by rw [List.getElem?_take] at b; split at b <;> simp_all)
theorem QvS {H:Heap} {cs:List Value} {p:Nat×Nat} (k:Nat) (h:rds H p cs):rds H (p.1,p.2+k) (cs.drop k):=
 Qff fun j v b=>by
  rw [List.getElem?_drop] at b
  have:=Qi7 h (k+j) v b
  rw [show p.2+k+j=p.2+(k+j) by omega]; exact this
theorem QiO (s:Str):(bytesV s).length=s.length:=by simp [bytesV]
theorem QqK (a b:Str):bytesV (a++b)=bytesV a++bytesV b:=by simp [bytesV]
theorem Qnf (s:Str) (i:Nat):(bytesV s)[i]? = (s[i]?).map fun b=>.int .u8 (b.toNat:Int):=by simp [bytesV]
def Own (H:Heap) (z:Nat) (s:Sl) (cs:List Value):Prop:=
 cs.length=s.len*z∧s.x=none∧s.len≤s.cap∧((s.p=none∧s.cap=0)∨∃ b sp,s.p=some (b,0)∧H b=some (true,.row (cs++sp))∧s.cap*z≤(cs++sp).length)
theorem Own.rdsl {H:Heap} {z:Nat} {s:Sl} {cs:List Value} (h:Own H z s cs):Sx.rdsl H s cs:=by
 obtain ⟨f,hx,i,⟨hp,h0⟩ | ⟨b,m,hp,g,_⟩⟩:=h
 ·left
  have:s.len=0:=by omega
  rw [this] at f
  exact List.length_eq_zero_iff.1 (by simpa using f)
 ·exact .inr ⟨hx, _, hp, QhT g fun j v d => by
   have:=(List.getElem?_eq_some_iff.1 d).1
   rw [Nat.zero_add,List.getElem?_append_left this]; exact d⟩
theorem Own.nil (H:Heap) (z:Nat):Own H z Sl.nil []:=⟨by simp [Sl.nil],rfl,Nat.le_refl _,.inl ⟨rfl,rfl⟩⟩
def Fresh (H:Heap) (s:Sl):Prop:=∀ p,s.p=some p→H p.1=none
theorem Fresh.nil (H:Heap):Fresh H Sl.nil:=fun _ h=>by cases h
theorem Fresh.le {A B:Heap} {s:Sl} (h:Fresh B s) (hle:A.le B):Fresh A s:=fun p hp=>hle.none (h p hp)
theorem Own.le {A B:Heap} {z:Nat} {s:Sl} {cs:List Value} (h:Own A z s cs) (hle:A.le B):Own B z s cs:=by
 obtain ⟨f,hx,d,h0 | ⟨b,j,hp,i,g⟩⟩:=h
 ·exact ⟨f,hx,d,.inl h0⟩
 ·exact ⟨f,hx,d,.inr ⟨b,j,hp,hle _ _ i,g⟩⟩
theorem Own.but {A B:Heap} {z:Nat} {s:Sl} {cs:List Value} {k:Nat} (h:Own A z s cs) (hle:Heap.but k A B) (j:∀ p,s.p=some p→p.1≠k):Own B z s cs:=by
 obtain ⟨f,hx,d,h0 | ⟨b,m,hp,i,g⟩⟩:=h
 ·exact ⟨f,hx,d,.inl h0⟩
 ·exact ⟨f,hx,d,.inr ⟨b,m,hp,hle _ _ (j _ hp) i,g⟩⟩
structure OwnF (H0 H:Heap) (z:Nat) (s:Sl) (cs:List Value):Prop where
 le:H0.le H
 own:Own H z s cs
 fresh:Fresh H0 s
theorem OwnF.nil (H:Heap) (z:Nat):OwnF H H z Sl.nil []:=⟨Heap.le.refl H,Own.nil H z,Fresh.nil H⟩
theorem OwnF.up {H0 H H2:Heap} {z:Nat} {s:Sl} {cs:List Value} (h:OwnF H0 H z s cs) (hle:H.le H2):OwnF H0 H2 z s cs:=⟨h.le.trans hle,h.own.le hle,h.fresh⟩
theorem Qmb {H0 H:Heap} {zc:List Value} {bytes:Nat} {s:Sl} {cs ys:List Value} {m:Nat} {K:Sl→HP} (h:OwnF H0 H zc.length s cs) (hy:ys.length=m*zc.length)
 (E:(s.len+m)*bytes≤140737488355328) (t:s.len+m≤9223372036854775807) (k:∀ r H2,OwnF H0 H2 zc.length r (cs++ys)→r.len=s.len+m→K r H2):apd zc bytes s ys m K H:=by
 obtain ⟨hle,C,z⟩:=h
 have ho':=C
 obtain ⟨j,hx,G,g⟩:=C
 refine ⟨cs,ho'.rdsl,j,hy,E,t,fun d=>?_,fun A b cap f o=>?_⟩
 ·rcases g with ⟨hp,h0⟩ | ⟨b,F,hp,u,y⟩
  ·left
   have hm:m=0:=by omega
   subst hm
   have B:ys=[]:=List.length_eq_zero_iff.1 (by simpa using hy)
   subst B
   refine ⟨rfl,k _ _ ⟨hle,⟨?_,hx,d,.inl ⟨hp,h0⟩⟩,z⟩ rfl⟩
   simpa using j
  ·right
   have q:(s.len+m)*zc.length≤s.cap*zc.length:=Nat.mul_le_mul_right _ d
   rw [Nat.add_mul] at q
   refine ⟨_,_,hp,hx,u,?_,k _ _ ⟨fun x e i=>?_,⟨?_,hx,d,.inr ⟨b,F.drop ys.length,hp,?_,?_⟩⟩,z⟩ rfl⟩
   ·simp only [Nat.zero_add]; rw [hy]; omega
   ·have : x ≠ b := fun D => by subst D; have := z _ hp; simp only at this; rw [this] at i; cases i
    rw [Xb _ _ _ this]; exact hle _ _ i
   ·simp only [Va,j,hy,Nat.add_mul]
   ·rw [Xa]
    simp only [Nat.zero_add,splice,← j]
    rw [List.take_append_of_le_length (Nat.le_refl _),Vl,List.drop_append,List.drop_eq_nil_of_le (by omega)]
    simp
   ·simp only [Va,List.length_drop] at y ⊢
    omega
 ·refine k _ _ ⟨hle.put _ _ (hle.none f), ⟨by simp only [Va, j, hy, Nat.add_mul], rfl, o, .inr ⟨b, zeros zc (cap - (s.len + m)), rfl, by rw [Xa], ?_⟩⟩, ?_⟩ rfl
  ·simp only [Va,QeT,j,hy]
   rw [← Nat.add_mul,← Nat.add_mul]
   exact Nat.mul_le_mul_right _ (by omega)
  ·intro p hp
   simp only [Option.some.injEq] at hp
   subst hp
   exact hle.none f
theorem Qs7 {H:Heap} {s:Sl} {cs:List Value} {i:Int} {K:Nat×Nat→Prop} (d:Sx.rdsl H s cs) (h0:0≤i) (f:i < s.len) (b:cs≠[]) (k:∀ p,s.p=some p→rds H p cs→K p):ixa s i K:=by
 rcases d with rfl | ⟨hx,p,hp,d⟩
 ·exact absurd rfl b
 ·exact ⟨p,hp,hx,h0,f,k p hp d⟩
theorem QtM {H:Heap} {s:Sl} {cs:List Value} (b:Sx.rdsl H s cs) {lo hi mx:Int} {z:Nat} (h0:0≤lo) (d:lo≤hi) (f:hi≤mx) (g:lo.toNat*z≤cs.length) :
 Sx.rdsl H ⟨if mx=lo then s.p else s.p.map (fun p=>(p.1,p.2+lo.toNat*z)),(hi - lo).toNat,(mx - lo).toNat,if mx=lo∨lo.toNat*z=0 then s.x else none⟩ ((cs.drop (lo.toNat*z)).take ((hi - lo).toNat*z)):=by
 by_cases hm:mx=lo
 ·left
  have:(hi - lo).toNat=0:=by omega
  simp [this]
 ·rcases b with rfl | ⟨hx,p,hp,b⟩
  ·left; simp
  ·right
   refine ⟨by simp [hx],(p.1,p.2+lo.toNat*z),by simp [hm,hp],QvT _ (QvS _ b)⟩
theorem QaK {c:Bool} {A B:Prop} (d:c=true) (h:A):ift c A B:=⟨fun _=>h,fun b=>by rw [d] at b; cases b⟩
theorem Qaw {c:Bool} {A B:Prop} (d:c=false) (h:B):ift c A B:=⟨fun b=>(by rw [d] at b; cases b),fun _=>h⟩
end
section
open Go
section
variable {P:Program} {C:Ctx} {Q Q':Exit→Act→World→Prop} {n:FN} {l:List (Nat×Value)} {H:Heap} {ops:Array Oper} {rest:List Oper} {d:Nat} {ty:TypeId} {pos:String} {after:Array Edge} {g:Option (Nat×Bool)}
theorem Qin (P:Program) (op:BinOp) (t:TypeId) (x y:Operand) (a b:Option Addr) (n c f d:Nat) (w:World):(eqGuard op t x y (.slice a n c) (.slice b f d)).run P w=.ok () w:=by
 unfold eqGuard; cases op <;> rfl
def Sl.isNil (s:Sl):Bool:=s.p.isNone
theorem XI (s:Sl):s.ad.isNone=s.isNil:=by unfold Sl.ad Sl.isNil; cases s.p <;> rfl
theorem Xaz {t yt e:TypeId} {x y:Operand} {s:Sl} (hx:opv l x=some (slv s)) (hy:opv l y=some (slv Sl.nil)) (f:P.underlying t=some (.slice e)):OV P C n l H ⟨some d,.binOp .eql t x y yt,ty,pos,after,g⟩ (.bool s.isNil):=
 (fun h w b i=>by
  simp only [execOp,b.ev hx,b.ev hy]
  have h0:slv Sl.nil=.slice none 0 0:=rfl
  rw [h0]
  simp only [slv,bind_pure_comp,Sem.run_map,Sem.run_bind,Qin,Result.andThen_ok]
  rw [Lib.run_eql_slice_nil (P:=P) w t e s.ad s.len s.cap 0 0 f,XI]; rfl)
theorem Xax {t yt e:TypeId} {x y:Operand} {s:Sl} (hx:opv l x=some (slv s)) (hy:opv l y=some (slv Sl.nil)) (f:P.underlying t=some (.slice e)):OV P C n l H ⟨some d,.binOp .neq t x y yt,ty,pos,after,g⟩ (.bool (!s.isNil)):=
 (fun h w b i=>by
  simp only [execOp,b.ev hx,b.ev hy]
  have h0:slv Sl.nil=.slice none 0 0:=rfl
  rw [h0]
  simp only [slv,bind_pure_comp,Sem.run_map,Sem.run_bind,Qin,Result.andThen_ok]
  rw [run_neq_slice_nil_any (P:=P) w t e s.ad s.len s.cap 0 0 f,XI]; rfl)
theorem OV.cap {x:Operand} {b:Array TypeId} {t e:TypeId} {s:Sl} (hx:opv l x=some (slv s)) (f:b[0]? = some t) (i:P.underlying t=some (.slice e)) :
 OV P C n l H ⟨some d,.call { callee:=.builtin .cap,args:=#[x],argTypes:=b },ty,pos,after,g⟩ (.int .i64 (s.cap:Int)):=fun j w h m=>by
 simp only [execOp,resolve,invoke,builtin,List.map_toArray,List.map_cons,List.map_nil,h.ev hx,slv]
 simp [Builtin.cap_,f,underlying,i,goInt]
def callU (P:Program) (C:Ctx) (x:Value) (vs:List Value) (H:Heap) (Φ:Value→HP):Prop:=
 ∃ f fs cs,x=.func (.func f) (List.toArray fs) (List.toArray cs)∧CallOk P f∧Spec P C f (fs++vs++cs) H Φ
theorem callU.mono {x:Value} {vs:List Value} {Φ Ψ:Value→HP} (h:callU P C x vs H Φ) (i:∀ v H',Φ v H'→Ψ v H'):callU P C x vs H Ψ:=by
 obtain ⟨f,fs,cs,b,d,g⟩:=h
 exact ⟨f,fs,cs,b,d,g.mono i⟩
theorem GL.callU {x:Operand} {xv:Value} {xs:Array Operand} {b:Array TypeId} {vs:List Value} {Φ:Value→HP} (o:Sx.callU P C xv vs H Φ) (r:Wt ops l g) (q:Nat.blt d n.n=true)
 (h:opv l x=some xv) (hx:opvs l xs.toList=some vs)
 (k:∀ v H',Φ v H'→GL P C ops Q n rest ((d,v)::l) H'):GL P C ops Q n (⟨some d,.call { callee:=.value x,args:=xs,argTypes:=b },ty,pos,after,g⟩::rest) l H:=by
 obtain ⟨f,fs,cs,i,j,m⟩:=o
 exact Xag m r q j (by rw [h,i]) hx k
structure ExtOk (P:Program) (f:FuncId) (e:Array Value→Sem Value):Prop where
 ok : ∃ fn, P.funcs[f]? = some fn ∧ (fn.name == "runtime.NumGoroutine") = false ∧ fn.body.isNone = true ∧ Extern.findNext fn = none ∧ Extern.find fn = some e
theorem Qxo {f:FuncId} {e:Array Value→Sem Value} (h:ExtOk P f e) (args:Array Value) (w:World):(callFunc f args).run P w=((e args).run P w).andThen fun v w'=>.ok (.value v) w':=by
 obtain ⟨m,b,d,g,i,j⟩:=h.ok
 exact run_callFunc_extern b d g i j args w
theorem OV.ext {f:FuncId} {e:Array Value→Sem Value} {xs:Array Operand} {ats:Array TypeId} {vs:List Value} {v:Value} (hok:ExtOk P f e) (hx:opvs l xs.toList=some vs) (hr:∀ w,(e vs.toArray).run P w=.ok v w) :
 OV P C n l H ⟨some d,.call { callee:=.value (.func f),args:=xs,argTypes:=ats },ty,pos,after,g⟩ v:=fun a w hf hs=>by
 have h1:xs.map a.eval=vs.toArray:=by apply Array.ext'; simp [hf.evs hx]
 simp [execOp,resolve,invoke,Deferred.ofValue,Act.eval,h1,Qxo hok,hr]
def idxB (s:Str) (c:Int):Int:=Lib.indexByte s c.toNat.toUInt8
theorem QvY (s:Str) (c:Int) (w:World):(Extern.BytealgIndexByte.indexByte #[sv s,.int .u8 c]).run P w=.ok (.int .i64 (idxB s c)) w:=Lib.run_indexByteString _ _ _
theorem QvZ (x:Value) (w:World):(Extern.AbiNoEscape.same #[x]).run P w=.ok x w:=rfl
theorem XZ {c:Code} (h:False):GC P C Q n c l H:=h.elim
theorem Xal {t yt f:TypeId} {x y:Operand} {p q:Option (Nat×Nat)} {a:Nat×Nat} (hx:opv l x=some (pv p)) (hy:opv l y=some (pv q)) (hp:p=some a) (i:q=some a) (m:P.underlying t=some (.pointer f)) (hi:(P.info? f).isSome=true) :
 OV P C n l H ⟨some d,.binOp .neq t x y yt,ty,pos,after,g⟩ (.bool false):=
 (fun o w b r=>by
  subst hp; subst i
  obtain ⟨j,h⟩:=Option.isSome_iff_exists.1 hi
  simp only [execOp,b.ev hx,b.ev hy,pv]
  simp only [bind_pure_comp,Sem.run_map,Sem.run_bind,Qen,Result.andThen_ok]
  have:=Lib.run_neq_ptr_same (P:=P) w (adv a) m h
  rw [Option.map_some,this]; rfl)
def sttG (p:Nat×Nat) (v:Value) (K:HP) (H:Heap):Prop:=∃ t k c,H p.1=some (true,.trow t k c)∧k≤p.2∧p.2 < c.length∧K (H.put p.1 (.trow t k (c.set p.2 v)))
theorem XO {t:TypeId} {x y:Operand} {p:Nat×Nat} {v:Value} {K:HP} (h:sttG p v K H) (F:Wt ops l g) (hx:opv l x=some (pv (some p))) (hy:opv l y=some v) (r:v.oneCell' = true)
 (hi:(P.info? t).map (·.size)=some 1) (k:∀ H',K H'→GL P C ops Q n rest l H'):GL P C ops Q n (⟨none,.store t x y,ty,pos,after,g⟩::rest) l H:=by
 obtain ⟨I,G,c,z,d,B,A⟩:=h
 refine X3 F fun a w m D=>?_
 have E:v.cells=[v].toArray:=by cases v <;> simp_all [Value.cells,Value.oneCell']
 cases hinf:P.info? t with
 | none=>rw [hinf] at hi; cases hi
 | some i=>
  rw [hinf] at hi
  have f:i.size=1:=by simpa using hi
  obtain ⟨q,u,j⟩:=XG (P:=P) (b:=p.1) (o:=p.2) [v] 0 w H c D z (by simpa using d) (by simp; omega) (by simpa using r)
  rw [Nat.add_zero,Qp7 B] at j
  refine ⟨q,_,?_,j,k _ A⟩
  simp only [execOp,m.ev hx,m.ev hy,pv,Option.map_some,Instr.storeAt,Instr.sureAddr]
  have h2':(storeCells (adv p) [v]).run P w=.ok () q:=u
  simp [storeVar,E,Go.sizeOf,typeInfo,hinf,f,h2']
def apdG (e:TypeId) (zc:List Value) (bytes:Nat) (s:Sl) (ys:List Value) (m:Nat) (K:Sl→HP) (H:Heap):Prop:=
 ∃ xs,rdsl H s xs∧xs.length=s.len*zc.length∧ys.length=m*zc.length∧(s.len+m)*bytes≤140737488355328∧s.len+m≤9223372036854775807∧
  (s.len+m≤s.cap→(ys=[]∧K ⟨s.p,s.len+m,s.cap,s.x⟩ H)∨
   (∃ p t k c,s.p=some p∧s.x=none∧H p.1=some (true,.trow t k c)∧k≤p.2+s.len*zc.length∧p.2+s.len*zc.length+ys.length≤c.length∧K ⟨s.p,s.len+m,s.cap,s.x⟩ (H.put p.1 (.trow t k (splice c (p.2+s.len*zc.length) ys)))))∧
  (s.cap < s.len+m→∀ b cap,H b=none→s.len+m≤cap→K (Sl.of (some (b,0)) (s.len+m) cap) (H.put b (.trow e 0 (xs++ys++zeros zc (cap - (s.len+m))))))
structure ElemG (P:Program) (t e:TypeId) (zc:List Value) (bytes:Nat):Prop where
 ok:∃ i z,P.underlying t=some (.slice e)∧P.info? e=some i∧i.size=zc.length∧i.bytes=bytes∧i.zero=some z∧z.cells=zc.toArray
theorem QsB {t X e:TypeId} {s:Sl} {x:Value} {ys:List Value} {m:Nat} {zc:List Value} {bytes:Nat} {K:Sl→HP} {w:World}
 (h:apdG e zc bytes s ys m K H) (A:St C w H) (he:ElemG P t e zc bytes) (Z:∃ u,P.underlying X=some u∧∀ k,u≠.int k) (hx:Src P C H x zc.length ys m) (Y:∀ u ∈ ys,u.oneCell' = true) :
 ∃ r w' H',(Builtin.append_ #[t,X] ty #[slv s,x]).run P w=.ok (slv r) w'∧St C w' H'∧K r H':=by
 obtain ⟨i,z,G,hi,g,I,hz,U⟩:=he.ok
 obtain ⟨u2,j,a6⟩:=Z
 obtain ⟨xs,S,R,a7,hb,a0,D,y⟩:=h
 by_cases hle:s.len+m≤s.cap
 ·rcases D hle with ⟨T,L⟩ | ⟨p,tt,kk,c,hp,Q,hc,a5,W,L⟩
  ·subst T
   refine ⟨_,w,H,?_,A,L⟩
   have d:=hx.cells w A
   have f:slv ⟨s.p,s.len+m,s.cap,s.x⟩=.slice s.ad (s.len+m) s.cap:=rfl
   rw [f]
   cases hp:s.ad with
   | none=>
    simp [Builtin.append_,underlying,G,j,Go.sizeOf,typeInfo,hi,slv,hp,hx.len w,hle,g,d]
   | some p=>
    simp [Builtin.append_,underlying,G,j,Go.sizeOf,typeInfo,hi,slv,hp,hx.len w,hle,g,d,storeCells]
  ·have d:=hx.cells w A
   obtain ⟨w',O,M⟩:=XG (P:=P) (C:=C) (b:=p.1) (o:=p.2+s.len*zc.length) ys 0 w H c A hc (by omega) (by omega) Y
   refine ⟨_,w',_,?_,M,L⟩
   have ha:(adv p).add (s.len*zc.length)=⟨p.1,p.2+s.len*zc.length,none⟩:=Qgh p _
   have f:slv ⟨s.p,s.len+m,s.cap,s.x⟩=.slice s.ad (s.len+m) s.cap:=rfl
   rw [f]
   simp [Builtin.append_,underlying,G,j,Go.sizeOf,typeInfo,hi,slv,Xw Q hp,hx.len w,hle,g,d,ha,O]
 ·have E : s.cap < s.len + m := by omega
  have J:St C w.drew H:=A.drew
  have d:=hx.cells w.drew J
  have h63':¬ (9223372036854775807 < ((s.len:Int)+(m:Int))):=by omega
  have h48':¬ (281474976710656 < Builtin.nextslicecap (s.len+m) s.cap*bytes):=by have:=growslice_fits (bytes:=bytes) E hb; omega
  have q:(Builtin.firstCells zc.length s.len (slv s)).run P w.drew=.ok xs.toArray w.drew:=(Src.slice (P:=P) (C:=C) S R).cells w.drew J
  have B:=grownCap_ge w (s.len+m) s.cap e
  have F:xs.toArray++ys.toArray++Builtin.zeroCells z.cells (grownCap w (s.len+m) s.cap e - (s.len+m))=(xs++ys++zeros zc (grownCap w (s.len+m) s.cap e - (s.len+m))).toArray:=by
   rw [U,QkO]; simp
  refine ⟨Sl.of (some (w.heap.size,0)) (s.len+m) (grownCap w (s.len+m) s.cap e),w.drew.alloc (.cells (xs++ys++zeros zc (grownCap w (s.len+m) s.cap e - (s.len+m))).toArray e),_,?_,?_,y E w.heap.size (grownCap w (s.len+m) s.cap e) A.fresh B⟩
  ·rw [← F]
   have f:slv s=.slice s.ad s.len s.cap:=rfl
   have N:∀ a c:Nat,slv (Sl.of (some (w.heap.size,0)) a c)=.slice (some ⟨w.heap.size,0,none⟩) a c:=fun _ _=>rfl
   rw [N]
   rw [f] at q ⊢
   simp [Builtin.append_,underlying,G,j,Go.sizeOf,typeInfo,zeroValue,hi,hz,I,g,hx.len w,hle,h63',h48',Question.forced,d,q,Go.newRow,grownCap]
   refine congrArg (fun a:Array Value=>w.drew.alloc (.cells a e)) ?_
   apply Array.ext'
   simp
  ·exact J.push ⟨rfl,rfl,fun _=>.inl rfl⟩
theorem XR {x y:Operand} {t o e:TypeId} {s:Sl} {yv:Value} {ys:List Value} {m:Nat} {zc:List Value} {bytes:Nat} {K:Sl→HP} (h:apdG e zc bytes s ys m K H) (F:Wt ops l g) (A:Nat.blt d n.n=true)
 (hx:opv l x=some (slv s)) (hy:opv l y=some yv) (B:ElemG P t e zc bytes) (z:∃ u,P.underlying o=some u∧∀ k,u≠.int k) (b:Src P C H yv zc.length ys m) (q:∀ u ∈ ys,u.oneCell' = true)
 (k:∀ r H',K r H'→GL P C ops Q n rest ((d,slv r)::l) H'):GL P C ops Q n (⟨some d,.call { callee:=.builtin .append,args:=#[x,y],argTypes:=#[t,o] },ty,pos,after,g⟩::rest) l H:=by
 refine GL.run (v:=undef) F A fun a w j i=>?_
 obtain ⟨r,G,H',E,f,D⟩:=QsB (P:=P) (ty:=ty) h i B z b q
 refine ⟨slv r,G,H',?_,f,k _ _ D⟩
 simp only [execOp,resolve,invoke,builtin,List.map_toArray,List.map_cons,List.map_nil,j.ev hx,j.ev hy]
 simp [E]
theorem apdG.frame {e:TypeId} {zc:List Value} {bytes:Nat} {s:Sl} {ys:List Value} {m:Nat} {K:Sl→HP} {i:Heap} (h:apdG e zc bytes s ys m K H) (hle:H.le i) :
 apdG e zc bytes s ys m (fun r H2=>∃ H0,K r H0∧H0.le H2) i:=by
 obtain ⟨xs,x,y,z,A,B,C,D⟩:=h
 refine ⟨xs,Qgl hle x,y,z,A,B,fun f=>?_,fun f b cap E d=>⟨_,D f b cap (hle.none E) d,hle.puts _ _ _⟩⟩
 rcases C f with ⟨e,g⟩ | ⟨p,t,F,c,j,e0,o,u,q,g⟩
 ·exact .inl ⟨e,_,g,hle⟩
 ·exact .inr ⟨p,t,F,c,j,e0,hle _ _ o,u,q,_,g,hle.puts _ _ _⟩
theorem XY {x y:Operand} {t b e:TypeId} {s:Sl} {u:Str} {bytes:Nat} {K:Sl→HP} (h:apdG e [.int .u8 0] bytes s (bytesV u) u.length K H) (m:Wt ops l g) (i:Nat.blt d n.n=true)
 (hx:opv l x=some (slv s)) (hy:opv l y=some (sv u)) (j:ElemG P t e [.int .u8 0] bytes) (f:P.underlying b=some .string)
 (k:∀ r H',K r H'→GL P C ops Q n rest ((d,slv r)::l) H'):GL P C ops Q n (⟨some d,.call { callee:=.builtin .append,args:=#[x,y],argTypes:=#[t,b] },ty,pos,after,g⟩::rest) l H:=
 XR h m i hx hy j ⟨_,f,fun _ h=>by cases h⟩ Src.str (by simp [bytesV,Value.oneCell']) k
theorem X5 {x y:Operand} {t D e F E A:TypeId} {j m:Nat} {s:Sl} {ps:Array (Nat×Operand)} {vs:List (Nat×Value)} {ys:List Value} {zc:List Value} {bytes:Nat} {K:Sl→HP} {i:String} {f:Array Edge} {B:Option (Nat×Bool)}
 (h:apdG e zc bytes s ys m K H) (R:Wt ops l g) (J:Nat.blt d n.n=true) (u:∀ v,Wt ops ((d,v)::l) B) (q:Nat.blt j n.n=true)
 (hx:∀ v,opv ((d,v)::l) x=some (slv s)) (hy:∀ v,opv ((d,v)::l) y=some v) (hp:partVals l ps.toList=some vs) (O:litRun P E m vs ys) (L:ElemG P t e zc bytes) (I:P.underlying D=some (.slice F)) (G:ys.all Value.oneCell' = true)
 (k:∀ v r H',K r H'→GL P C ops Q n rest ((j,slv r)::(d,v)::l) H') :
 GL P C ops Q n (⟨some d,.buildSlice E m ps,ty,pos,after,g⟩::⟨some j,.call { callee:=.builtin .append,args:=#[x,y],argTypes:=#[t,D] },A,i,f,B⟩::rest) l H:=by
 refine GL.buildSlice (K:=fun b H'=>H' = H.put b (.row ys)∧H b=none) (fun b o=>⟨rfl,o⟩) R J hp O ?_
 rintro b H' ⟨rfl,o⟩
 have N:=h
 obtain ⟨_,_,_,z,_⟩:=N
 refine XR (yv:=slv (Sl.of (some (b,0)) m m)) (h.frame ((Heap.le.refl H).put _ _ o)) (u _) q (hx _) (hy _) L ⟨_,I,fun _ h=>by cases h⟩ (Src.slice (.inr ⟨rfl,_,rfl,Qo1⟩) z) (by simpa using G) ?_
 rintro r H2 ⟨H0,M,hle⟩
 exact GL.weaken hle (k _ r H0 M)
def cvU (p:Nat×Nat) (K:Prop) (H:Heap):Prop:=(∃ m t k c,H p.1=some (m,.trow t k c)∧p.2 < c.length)∧K
theorem OV.cvU {x:Operand} {i f t:TypeId} {q:Option (Nat×Nat)} {p:Nat×Nat} (I:q=some p) (h:∃ m t k c,H p.1=some (m,.trow t k c)∧p.2 < c.length) (hx:opv l x=some (pv q)) (J:P.underlying i=some (.pointer t)) (D:P.underlying f=some .unsafePointer) (K:∃ j,P.info? t=some j∧j.size≠0) :
 OV P C n l H ⟨some d,.convert i f x,ty,pos,after,g⟩ (pv (some p)):=fun M w E z=>by
 subst I
 obtain ⟨m,Q,k,c,A,u⟩:=h
 obtain ⟨j,F,r⟩:=K
 obtain ⟨o,G,b⟩:=z.blk _ _ _ A
 cases o <;> simp only [GO.rel] at b
 rename_i N L O
 obtain ⟨B,_⟩:=b
 subst B
 have y:w.shape? (adv p).block=some (L,c.length):=by simp [World.shape?,adv,G]
 simp only [execOp,E.ev hx,pv,Option.map_some,bind_pure_comp,Sem.run_map]
 rw [Lib.run_to_unsafe (P:=P) w (adv p) J D F r y u]; rfl
theorem XaI {x:Operand} {q f u T:TypeId} {len:Nat} {p:Nat×Nat} (h:∃ m k c,H p.1=some (m,.trow T k c)∧c.length=len∧p.2=0) (hx:opv l x=some (pv (some p))) (I:P.underlying q=some .unsafePointer) (B:P.underlying f=some (.pointer u)) (y:∃ j,P.info? u=some j)
 (F:liesAt P P.depth T (len / P.cellsOf T) 0 u 1=true):OV P C n l H ⟨some d,.convert q f x,ty,pos,after,g⟩ (pv (some p)):=fun K w D t=>by
 obtain ⟨m,k,c,z,i,h0⟩:=h
 obtain ⟨j,E⟩:=y
 obtain ⟨o,G,b⟩:=t.blk _ _ _ z
 cases o <;> simp only [GO.rel] at b
 rename_i L J M
 obtain ⟨A,y,_⟩:=b
 subst A
 subst y
 have r:w.shape? (adv p).block=some (J,c.length):=by simp [World.shape?,adv,G]
 simp only [execOp,D.ev hx,pv,Option.map_some,bind_pure_comp,Sem.run_map]
 rw [Lib.run_from_unsafe (P:=P) w (adv p) I B E r (by rw [i,show (adv p).off=0 from h0]; exact F)]; rfl
theorem XaH {x:Operand} {ats:Array TypeId} {s:Sl} (h:s.p=none∨s.cap≠0) (hx0:s.x=none) (hx:opv l x=some (slv s)) :
 OV P C n l H ⟨some d,.call { callee:=.builtin .unsafeSliceData,args:=#[x],argTypes:=ats },ty,pos,after,g⟩ (pv s.p):=fun ac w hf hst=>by
 simp only [execOp,resolve,invoke,builtin,List.map_toArray,List.map_cons,List.map_nil,hf.ev hx]
 have e1:slv s=.slice (s.p.map adv) s.len s.cap:=by unfold slv Sl.ad; rw [hx0]; rfl
 rw [e1]
 cases hp:s.p with
 | none=>simp [Lib.run_unsafeSliceData_nil,pv]
 | some p=>
  rcases h with h | h
  ·rw [hp] at h; cases h
  ·simp [Lib.run_unsafeSliceData_row (P:=P) w ats ty (adv p) s.len s.cap h,pv]
theorem St.freezeT {w:World} {H:Heap} (h:St C w H) {b:Nat} {t:TypeId} {k m:Nat} {c:List Value} (i:H b=some (true,.trow t k c)) (hm:m≠0):St C (w.freeze ⟨b,0,none⟩ m) (H.put b (.trow t (max k m) c)):=by
 obtain ⟨r,g,d⟩:=h.blk _ _ _ i
 cases r <;> simp only [GO.rel] at d
 rename_i y u j
 obtain ⟨o,q,f⟩:=d
 subst o
 subst q
 obtain ⟨lo,hi⟩:=j
 refine h.set i (o':=.cells c.toArray u (if lo == hi then (0,m) else (min lo 0,max hi m))) ⟨?_,?_,?_,?_⟩ ⟨rfl,rfl,fun _=>?_⟩
 ·simp [World.freeze,hm]
 ·simp [World.freeze,hm]
 ·simp [World.freeze,hm,Array.getElem?_modify,g]
 ·intro x hx
  simp [World.freeze,hm,Array.getElem?_modify,Ne.symm hx]
 ·have:=f trivial
  simp only [] at this
  by_cases h1:lo=hi
  ·simp [h1]; omega
  ·simp [h1]; omega
def ust (e:TypeId) (p:Option (Nat×Nat)) (n:Int) (K:Str→HP) (H:Heap):Prop:=
 (n=0∧K [] H)∨∃ (b k:Nat) (c:List Value) (s:Str),p=some (b,0)∧H b=some (true,.trow e k c)∧n=s.length∧s≠[]∧s.length≤9223372036854775807∧(∀ (j:Nat) (x:UInt8),s[j]? = some x→c[j]? = some (Value.int .u8 (x.toNat:Int)))∧K s (H.put b (.trow e (max k s.length) c))
theorem GL.ust {x y:Operand} {t M e:TypeId} {p:Option (Nat×Nat)} {m:Int} {K:Str→HP} (h:Sx.ust e p m K H) (W:Wt ops l g) (R:Nat.blt d n.n=true) (hx:opv l x=some (pv p)) (hy:opv l y=some (.int .i64 m))
 (U:P.underlying t=some (.pointer e)) (O:P.cellsOf e=1) (k:∀ s H',K s H'→GL P C ops Q n rest ((d,sv s)::l) H'):GL P C ops Q n (⟨some d,.call { callee:=.builtin .unsafeString,args:=#[x,y],argTypes:=#[t,M] },ty,pos,after,g⟩::rest) l H:=by
 refine GL.run (v:=undef) W R fun a w z i=>?_
 rcases h with ⟨h0,D⟩ | ⟨b,Z,c,s,hp,I,hn,u,A,q,D⟩
 ·subst h0
  refine ⟨sv [],w,H,?_,i,k _ _ D⟩
  simp only [execOp,resolve,invoke,builtin,List.map_toArray,List.map_cons,List.map_nil,z.ev hx,z.ev hy,pv]
  simp [Lib.run_unsafeString_none,sv]; rfl
 ·subst hp
  subst hn
  obtain ⟨o,J,f⟩:=i.blk _ _ _ I
  cases o <;> simp only [GO.rel] at f
  rename_i X L Y
  obtain ⟨B,G,_⟩:=f
  subst B
  subst G
  have F:w.shape? b=some (L,c.length):=by simp [World.shape?,J]
  have r:s.length≤c.length:=by
   rcases Nat.lt_or_ge c.length s.length with h | h
   ·have N := q c.length s[c.length] (by simp [h])
    simp at N
   ·exact h
  have E:s.length≠0:=by simpa using u
  refine ⟨sv s,_,_,?_,i.freezeT I E,k _ _ D⟩
  have T:=Lib.run_unsafeString_row (P:=P) w t M ty L U O b c.length F s u r A (fun j x S=>by
   have:(⟨b,0,none⟩:Addr).add j=⟨b,0+j,none⟩:=Qgh (b,0) j
   rw [this]
   simp [World.cell?,J,q j x S])
  simp only [execOp,resolve,invoke,builtin,List.map_toArray,List.map_cons,List.map_nil,z.ev hx,z.ev hy,pv,Option.map_some,adv]
  simp [T,sv]
end
end
section
open Go
section
variable {P:Program} {C:Ctx} {Q:Exit→Act→World→Prop} {n:FN} {l:List (Nat×Value)} {H:Heap} {ops:Array Oper} {rest:List Oper} {d:Nat} {ty:TypeId} {pos:String} {after:Array Edge} {g:Option (Nat×Bool)}
def ixr (p:Nat×Nat) (n:Nat) (i:Int) (K:Prop):Prop:=0≤i∧i < n∧K
theorem Xx {x y:Operand} {t e:TypeId} {m:Nat} {p:Nat×Nat} {i:Int} {k0:IntKind} {j:Nat} (hx:opv l x=some (pv (some p))) (hy:opv l y=some (.int k0 i))
 (r:P.underlying t=some (.array m e)) (b:(P.info? e).map (·.size)=some j) (h0:0≤i) (q:i < m) :
 OV P C n l H ⟨some d,.indexAddr t x y,ty,pos,after,g⟩ (pv (some (p.1,p.2+i.toNat*j))):=by
 cases hinf:P.info? e with
 | none=>rw [hinf] at b; cases b
 | some h=>
  rw [hinf] at b
  have f:h.size=j:=by simpa using b
  intro u w o z
  simp only [execOp,o.ev hx,o.ev hy,pv,Option.map_some,Instr.indexAt]
  simp [asIntOf,underlying,r,Instr.sureAddr,h0,q,Go.sizeOf,typeInfo,hinf,f,adv,Addr.add]
def ldC (H:Heap) (m:Nat) (p:Nat×Nat) (K:List Value→Prop):Prop:=∃ x:List Value,x.length=m∧rds H p x∧K x
def stC (m:Nat) (p:Nat×Nat) (vs:List Value) (K:HP) (H:Heap):Prop:=vs.length=m∧vs.all Value.oneCell' = true∧stT p vs K H
theorem QsD {t:TypeId} {p:Nat×Nat} {v:Value} {w:World} (f:aggB P t=false) (b:rd H p=some v) (d:St C w H):(loadVar t (adv p)).run P w=.ok v w:=by
 have:=d.cell b
 simp only [loadVar]
 simp only [bind_pure_comp,Sem.run_map,Sem.run_bind,Sem.run_pure,Result.andThen_ok,Qkp f]
 simp [this]
theorem QrZ {t:TypeId} {p:Nat×Nat} {cs:List Value} {w:World} (h:aggT P t=true) (hi:(P.info? t).map (·.size)=some cs.length) (f:rds H p cs) (g:St C w H):(loadVar t (adv p)).run P w=.ok (.agg cs.toArray) w:=by
 cases hinf:P.info? t with
 | none=>rw [hinf] at hi; cases hi
 | some d=>
  rw [hinf] at hi
  have b:d.size=cs.length:=by simpa using hi
  simp only [loadVar]
  simp only [bind_pure_comp,Sem.run_map,Sem.run_bind,Sem.run_pure,Result.andThen_ok,Qlh h]
  simp [Go.sizeOf,typeInfo,hinf,g.loads (P:=P) f b]
def RV (P:Program) (C:Ctx) (l:List (Nat×Value)) (H:Heap):ResultVar→Value→Prop
 | .tmp t,v=>lk l t=some v
 | .cell a t,v=>∃ p,lk l a=some (pv (some p))∧∀ w,St C w H→(loadVar t (adv p)).run P w=.ok v w
theorem RV.tmp {t:Nat} {v:Value} (h:lk l t=some v):RV P C l H (.tmp t) v:=h
theorem RV.cell {a:Nat} {t:TypeId} {p:Nat×Nat} {v:Value} (h:lk l a=some (pv (some p))) (f:aggB P t=false) (b:rd H p=some v):RV P C l H (.cell a t) v:=⟨p,h,fun w d=>QsD f b d⟩
theorem Xn {a:Nat} {t:TypeId} {p:Nat×Nat} {cs:List Value} (h:lk l a=some (pv (some p))) (f:aggT P t=true) (hi:(P.info? t).map (·.size)=some cs.length) (b:rds H p cs):RV P C l H (.cell a t) (.agg cs.toArray):=⟨p,h,fun w d=>QrZ f hi b d⟩
theorem RV.run {r:ResultVar} {v:Value} {a:Act} {w:World} (h:RV P C l H r v) (b:Fr n l a) (g:St C w H) :
 (∃ t,r=.tmp t∧a.tmps[t]?.getD undef=v)∨(∃ x t p,r=.cell x t∧a.tmps[x]?.getD undef=pv (some p)∧(loadVar t (adv p)).run P w=.ok v w):=by
 cases r with
 | tmp t=>
  have:=b.get t v h
  exact .inl ⟨t,rfl,by rw [this]; rfl⟩
 | cell x t=>
  obtain ⟨p,d,f⟩:=h
  have:=b.get x _ d
  exact .inr ⟨x,t,p,rfl,by rw [this]; rfl,f w g⟩
theorem QrU {b:Func} {Φ:Value→HP} {r:ResultVar} {v:Value} {a:Act} {w:World} (f:b.results = #[r]) (j:RV P C l H r v) {m:Nat} (d:Fr ⟨m,[]⟩ l a) (g:St C w H) (h:Φ v H):SpecPost P C b Φ .ret a w:=by
 refine Qcq (v:=v) ?_ d.defers ⟨v,H,rfl,g,h⟩
 rcases j.run d g with ⟨t,rfl,e⟩ | ⟨x,t,p,rfl,e,i⟩
 ·simp [results,f,e]
 ·simp [results,f,e,pv,asAddr,i]
theorem QoZ {f:Func} {Φ:Value→HP} {r s:ResultVar} {x y:Value} {a:Act} {w:World} (z:f.results = #[r,s]) (j:RV P C l H r x) (o:RV P C l H s y) {m:Nat} (b:Fr ⟨m,[]⟩ l a) (d:St C w H) (h:Φ (.tuple #[x,y]) H):SpecPost P C f Φ .ret a w:=by
 refine Qcq (v:=.tuple #[x,y]) ?_ b.defers ⟨_,H,rfl,d,h⟩
 rcases j.run b d with ⟨t,rfl,e⟩ | ⟨_,t,p,rfl,e,u⟩ <;> rcases o.run b d with ⟨q,rfl,g⟩ | ⟨_,q,A,rfl,g,i⟩ <;>
  simp_all [results,pv,asAddr]
end
end
section
open Go
def Heap.del (H:Heap) (g:Nat):Heap:=fun x=>if x=g then none else H x
theorem Xg (H:Heap) (g:Nat):H.del g g=none:=by simp [Heap.del]
theorem Xd (H:Heap) {g x:Nat} (h:x≠g):H.del g x=H x:=by simp [Heap.del,h]
theorem Xf (H:Heap) (g:Nat):(H.del g).le H:=fun x e h=>by
 by_cases hx:x=g
 ·subst hx; rw [Xg] at h; cases h
 ·rwa [Xd _ hx] at h
def Buf (H:Heap) (b:Nat) (e:TypeId) (s:Sl) (bs:Str):Prop:=
 (s=Sl.nil∧bs=[])∨∃ g k row,g≠b∧s=⟨some (g,0),bs.length,row.length,none⟩∧H g=some (true,.trow e k row)∧k≤bs.length∧row.length≠0∧bs.length≤row.length∧∀ (j:Nat) (c:UInt8),bs[j]? = some c→row[j]? = some (Value.int .u8 (c.toNat:Int))
structure OpenB (H0 H:Heap) (b:Nat) (T e:TypeId) (bs:Str) (p:Option (Nat×Nat)) (s:Sl):Prop where
 self:p=none∨p=some (b,0)
 row:H b=some (true,.trow T 0 [pv p,slv s])
 buf:Buf H b e s bs
 gnot:∀ q,s.p=some q→H0 q.1=none
 but:∀ x v,x≠b→H0 x=some v→H x=some v
theorem St.openB {C:Ctx} {w:World} {H:Heap} (h:St C w H) {b:Nat} {T e:TypeId} {bs:Str} {m:Bool} (G:H b=some (m,.bld T e bs)) :
 ∃ p s H',St C w H'∧OpenB H H' b T e bs p s:=by
 obtain ⟨B,F⟩:=h.bld
 obtain ⟨hm,O⟩:=F.at_ b m T e bs G
 subst hm
 have M:=h.wri b _ G
 cases hBb:B b with
 | none=>
  rw [hBb] at O
  obtain ⟨p,fr,U,W,X,E⟩:=O
  subst E
  obtain ⟨j,z,A⟩:∃ j:Option (Nat×Nat),(j=none∨j=some (b,0))∧.pointer p=pv j:=by
   rcases W with rfl | rfl
   ·exact ⟨none,.inl rfl,rfl⟩
   ·exact ⟨some (b,0),.inr rfl,rfl⟩
  refine ⟨j,Sl.nil,H.put b (.trow T 0 [pv j,slv Sl.nil]),?_,z,Xa ..,.inl ⟨rfl,rfl⟩,fun q K=>(by cases K),fun x v hx L=>by rw [Xb _ _ _ hx]; exact L⟩
  refine ⟨fun x m g hx=>?_,fun x g hx=>?_,h.old,h.out,h.os,B,fun x m I y r hx=>?_,fun x x' g m T e bs m' I y r hx i=>?_⟩
  ·by_cases hxb:x=b
   ·subst hxb; rw [Xa] at hx; injection hx with hx; injection hx with o d; subst o; subst d
    exact ⟨_,U,by rw [← A]; rfl,rfl,fun _=>X⟩
   ·rw [Xb _ _ _ hxb] at hx; exact h.blk x m g hx
  ·by_cases hxb:x=b
   ·subst hxb; exact M
   ·rw [Xb _ _ _ hxb] at hx; exact h.wri x g hx
  ·by_cases hxb:x=b
   ·subst hxb; rw [Xa] at hx; cases hx
   ·rw [Xb _ _ _ hxb] at hx
    obtain ⟨Y,N⟩:=F.at_ x m I y r hx
    obtain ⟨_,Z⟩:=N.at_
    refine ⟨Y,N.stays rfl fun g hg=>⟨rfl,?_⟩⟩
    obtain ⟨D,_⟩:=Z g hg
    rw [Xb _ _ _ (fun e=>by subst e; rw [G] at D; cases D)]; exact D
  ·have o : x ≠ b := fun e => by subst e; rw [Xa] at hx; cases hx
   have d:x' ≠ b:=fun e=>by subst e; rw [Xa] at i; cases i
   rw [Xb _ _ _ o] at hx; rw [Xb _ _ _ d] at i
   exact F.inj _ _ _ _ _ _ _ _ _ _ _ hx i
 | some g=>
  rw [hBb] at O
  obtain ⟨p,fr,cap,row,a3,U,W,X,E,h7,h8,h9,Q,R,h12,S⟩:=O
  subst Q
  have J:g≠b:=fun e=>by subst e; rw [G] at E; cases E
  obtain ⟨j,z,A⟩:∃ j:Option (Nat×Nat),(j=none∨j=some (b,0))∧.pointer p=pv j:=by
   rcases W with rfl | rfl
   ·exact ⟨none,.inl rfl,rfl⟩
   ·exact ⟨some (b,0),.inr rfl,rfl⟩
  refine ⟨j,⟨some (g,0),bs.length,row.size,none⟩,(H.put b (.trow T 0 [pv j,slv ⟨some (g,0),bs.length,row.size,none⟩])).put g (.trow e bs.length row.toList),?_,z,?_,.inr ⟨g,bs.length,row.toList,J,by simp,Xa ..,Nat.le_refl _,by simpa using R,by simpa using h12,by simpa using h9⟩,fun q K=>?_,fun x v hx L=>?_⟩
  ·refine ⟨fun x m t hx => ?_, fun x t hx => ?_, h.old, h.out, h.os, B, fun x m I y r hx => ?_, fun x x' t m T e bs m' I y r hx i => ?_⟩
   ·by_cases hxg:x=g
    ·subst hxg; rw [Xa] at hx; injection hx with hx; injection hx with o d; subst o; subst d
     exact ⟨_,h8,by simp,rfl,fun _=>S⟩
    ·rw [Xb _ _ _ hxg] at hx
     by_cases hxb:x=b
     ·subst hxb; rw [Xa] at hx; injection hx with hx; injection hx with o d; subst o; subst d
      exact ⟨_,U,by rw [← A]; rfl,rfl,fun _=>X⟩
     ·rw [Xb _ _ _ hxb] at hx; exact h.blk x m t hx
   ·by_cases hxg:x=g
    ·subst hxg; exact h7
    ·rw [Xb _ _ _ hxg] at hx
     by_cases hxb:x=b
     ·subst hxb; exact M
     ·rw [Xb _ _ _ hxb] at hx; exact h.wri x t hx
   ·have e0 : x ≠ g := fun e => by subst e; rw [Xa] at hx; cases hx
    rw [Xb _ _ _ e0] at hx
    have o:x≠b:=fun e=>by subst e; rw [Xa] at hx; cases hx
    rw [Xb _ _ _ o] at hx
    obtain ⟨Y,N⟩:=F.at_ x m I y r hx
    obtain ⟨_,Z⟩:=N.at_
    refine ⟨Y,N.stays rfl fun t hg=>⟨rfl,?_⟩⟩
    obtain ⟨D,_⟩:=Z t hg
    have d:t≠g:=fun y=>by subst y; exact o (F.inj x b t _ _ _ _ _ _ _ _ hx G hg hBb)
    rw [Xb _ _ _ d,Xb _ _ _ (fun e=>by subst e; rw [G] at D; cases D)]; exact D
   ·have f : ∀ {x : Nat} {m : Bool} {P d : TypeId} {u : Str} {G1 G2 : GO}, G1.isBld = false → G2.isBld = false → ((H.put b G1).put g G2) x = some (m, .bld P d u) → H x = some (m, .bld P d u) := fun {x m P d u G1 G2} k1 k2 hx => by
     have e0:x≠g:=fun e=>by subst e; rw [Xa] at hx; injection hx with hx; injection hx with _ hx; rw [hx] at k2; cases k2
     rw [Xb _ _ _ e0] at hx
     have o:x≠b:=fun e=>by subst e; rw [Xa] at hx; injection hx with hx; injection hx with _ hx; rw [hx] at k1; cases k1
     rwa [Xb _ _ _ o] at hx
    exact F.inj _ _ _ _ _ _ _ _ _ _ _ (f rfl rfl hx) (f rfl rfl i)
  ·rw [Xb _ _ _ (Ne.symm J),Xa]
  ·injection K with K; subst K; exact E
  ·rw [Xb _ _ _ (fun e=>by subst e; rw [E] at L; cases L),Xb _ _ _ hx]; exact L
def Heap.hide (H:Heap) (s:Sl):Heap:=fun x=>match s.p with | some q=>if x=q.1 then none else H x | none=>H x
theorem Xp (H:Heap) (s:Sl):(H.hide s).le H:=fun x e h=>by
 unfold Heap.hide at h
 split at h
 ·split at h
  ·cases h
  ·exact h
 ·exact h
theorem St.hideB {C:Ctx} {w:World} {H:Heap} (h:St C w H) {b:Nat} {T e:TypeId} {bs:Str} {p:Option (Nat×Nat)} {s:Sl} (hb:H b=some (true,.trow T 0 [pv p,slv s])) (hp:p=none∨p=some (b,0)) (J:Buf H b e s bs) :
 St C w ((H.hide s).put b (.bld T e bs)):=by
 have Q:=h.weaken (Xp H s)
 obtain ⟨o,M,A⟩:=h.blk _ _ _ hb
 cases o <;> simp only [GO.rel] at A
 rename_i c' Y U
 obtain ⟨hc,ht,i⟩:=A
 subst ht
 subst hc
 have i:=i trivial
 have b1:pv p=.pointer none∨pv p=.pointer (some ⟨b,0,none⟩):=by
  rcases hp with rfl | rfl
  ·exact .inl rfl
  ·exact .inr rfl
 have a6:=h.wri b _ hb
 obtain ⟨B,W⟩:=h.bld
 have r:∀ x m D j f,H.hide s x=some (m,.bld D j f)→H x=some (m,.bld D j f):=fun x m D j f hx=>(Xp H s) _ _ hx
 have S:∀ X,BufAt C w ((H.hide s).put b (.bld Y e bs)) b Y e bs X→(∀ g,X=some g→∃ F,H g=some F)→St C w ((H.hide s).put b (.bld Y e bs)):=fun X a4 L=>by
  refine ⟨fun x m g hx=>?_,fun x g hx=>?_,Q.old,Q.out,Q.os,fun x=>if x=b then X else B x,fun x m D j f hx=>?_,fun x x' g m D j f m' T3 e3 Z hx t hg d=>?_⟩
  ·by_cases hxb:x=b
   ·subst hxb; rw [Xa] at hx; injection hx with hx; injection hx with e1 j; subst e1; subst j
    exact ⟨_,M,trivial⟩
   ·rw [Xb _ _ _ hxb] at hx; exact Q.blk x m g hx
  ·by_cases hxb:x=b
   ·subst hxb; exact a6
   ·rw [Xb _ _ _ hxb] at hx; exact Q.wri x g hx
  ·by_cases hxb:x=b
   ·subst hxb
    rw [Xa] at hx; injection hx with hx; injection hx with e1 j; injection j with e3 e4 e5; subst e1; subst e3; subst e4; subst e5
    simp only [if_true]
    exact ⟨trivial,a4⟩
   ·rw [Xb _ _ _ hxb] at hx
    obtain ⟨q1,G⟩:=W.at_ x m D j f (r _ _ _ _ _ hx)
    obtain ⟨_,q3⟩:=G.at_
    simp only [if_neg hxb]
    refine ⟨q1,G.stays rfl fun F hg=>⟨rfl,?_⟩⟩
    obtain ⟨u,_⟩:=q3 F hg
    rw [Xb _ _ _ (fun e'=>by subst e'; rw [hb] at u; cases u)]
    exact (Xp H s).none u
  ·by_cases hxb:x=b
   ·subst hxb
    by_cases hxb':x' = x
    ·exact hxb'.symm
    ·rw [Xb _ _ _ hxb'] at t
     simp only [if_true] at hg
     simp only [if_neg hxb'] at d
     obtain ⟨_,G⟩:=W.at_ x' m' T3 e3 Z (r _ _ _ _ _ t)
     obtain ⟨u,_⟩:=G.at_.2 g d
     obtain ⟨F,E⟩:=L g hg
     rw [E] at u; cases u
   ·rw [Xb _ _ _ hxb] at hx
    simp only [if_neg hxb] at hg
    by_cases hxb':x' = b
    ·subst hxb'
     simp only [if_true] at d
     obtain ⟨_,G⟩:=W.at_ x m D j f (r _ _ _ _ _ hx)
     obtain ⟨u,_⟩:=G.at_.2 g hg
     obtain ⟨F,E⟩:=L g d
     rw [E] at u; cases u
    ·rw [Xb _ _ _ hxb'] at t
     simp only [if_neg hxb'] at d
     exact W.inj _ _ _ _ _ _ _ _ _ _ _ (r _ _ _ _ _ hx) (r _ _ _ _ _ t) hg d
 rcases J with ⟨rfl,rfl⟩ | ⟨g,k,row,a3,rfl,hg,hk,O,P,K⟩
 ·refine S none ?_ (fun g hg => by cases hg)
  rcases hp with rfl | rfl
  ·exact ⟨none,U,M,.inl rfl,i,rfl⟩
  ·exact ⟨some ⟨b,0,none⟩,U,M,.inr rfl,i,rfl⟩
 ·refine S (some g) ?_ (fun F d => by injection d with d; subst d; exact ⟨_, hg⟩)
  obtain ⟨o2,N,q⟩:=h.blk _ _ _ hg
  cases o2 <;> simp only [GO.rel] at q
  rename_i c2 t2 I
  obtain ⟨a2,a5,y⟩:=q
  subst a5
  subst a2
  have y:=y trivial
  have z:((H.hide ⟨some (g,0),bs.length,row.length,none⟩).put b (.bld Y t2 bs)) g=none:=by
   rw [Xb _ _ _ a3]; simp [Heap.hide]
  have R:=h.wri g _ hg
  rcases hp with rfl | rfl
  ·exact ⟨none,U,row.length,row.toArray,I,M,.inl rfl,i,z,R,N,by simpa using K,by simp,O,P,by omega⟩
  ·exact ⟨some ⟨b,0,none⟩,U,row.length,row.toArray,I,M,.inr rfl,i,z,R,N,by simpa using K,by simp,O,P,by omega⟩
theorem Spec.openB {P:Program} {C:Ctx} {f:FuncId} {args:List Value} {H:Heap} {Φ:Value→HP} {b:Nat} {T e:TypeId} {bs:Str} {m:Bool} (i:H b=some (m,.bld T e bs))
 (h:∀ p s H',OpenB H H' b T e bs p s→Spec P C f args H' Φ):Spec P C f args H Φ:=fun w j=>by
 obtain ⟨p,s,H',d,g⟩:=j.openB i
 exact h p s H' g w d
theorem Gh.hideB {C:Ctx} {H0 H:Heap} {b:Nat} {T e:TypeId} {bs:Str} {p:Option (Nat×Nat)} {s:Sl} (ho:OpenB H0 H b T e bs p s):Gh C H (H0.put b (.bld T e bs)):=fun w hw=>by
 have h:=hw.hideB ho.row ho.self ho.buf
 refine h.weaken fun x v hx=>?_
 by_cases hxb:x=b
 ·subst hxb; rw [Xa] at hx ⊢; exact hx
 ·rw [Xb _ _ _ hxb] at hx ⊢
  unfold Heap.hide
  cases hs:s.p with
  | none=>exact ho.but x v hxb hx
  | some q=>
   simp only
   have:=ho.gnot q hs
   have hne:x≠q.1:=fun e'=>by rw [e',this] at hx; cases hx
   rw [if_neg hne]; exact ho.but x v hxb hx
theorem OpenB.apd {H0 H:Heap} {b:Nat} {T e:TypeId} {bs:Str} {p:Option (Nat×Nat)} {s:Sl} (ho:OpenB H0 H b T e bs p s) (hH0:∃ v,H0 b=some v) {ys:Str} {K:Sl→HP} (hl:bs.length+ys.length≤140737488355328)
 (k:∀ r H',OpenB H0 (H'.put b (.trow T 0 [pv p,slv r])) b T e (bs++ys) p r→H' b=some (true,.trow T 0 [pv p,slv s])→K r H'):apdG e [.int .u8 0] 1 s (bytesV ys) ys.length K H:=by
 obtain ⟨hself,hrow,hbuf,hgnot,hbut⟩:=ho
 have hlen:s.len=bs.length:=by rcases hbuf with ⟨rfl,rfl⟩ | ⟨g,kk,row,_,rfl,_⟩ <;> rfl
 have hsx:s.x=none:=by rcases hbuf with ⟨rfl,rfl⟩ | ⟨g,kk,row,_,rfl,_⟩ <;> rfl
 refine ⟨bytesV bs,?_,by simp [bytesV,hlen],by simp [bytesV],by omega,by omega,fun hfit=>?_,fun hgrow b2 cap hb2 hcap=>?_⟩
 ·rcases hbuf with ⟨rfl,rfl⟩ | ⟨g,kk,row,hgb,rfl,hg,hk,hr0,hrl,hcs⟩
  ·exact .inl rfl
  ·refine .inr ⟨rfl, (g, 0), rfl, Qff fun j v hj => ?_⟩
   rw [Qnf] at hj
   obtain ⟨c,hc,rfl⟩:=Option.map_eq_some_iff.1 hj
   simp [rd,hg,GO.cells?,hcs j c hc]
 ·rcases hbuf with ⟨rfl,rfl⟩ | ⟨g,kk,row,hgb,rfl,hg,hk,hr0,hrl,hcs⟩
  ·left
   have h0:ys=[]:=by
    have:ys.length=0:=by have e1:Sl.nil.len=0:=rfl; have e2:Sl.nil.cap=0:=rfl; omega
    exact List.length_eq_zero_iff.1 this
   subst h0
   refine ⟨rfl,?_⟩
   refine k _ H ⟨hself,Xa ..,.inl ⟨rfl,rfl⟩,fun q hq=>(by cases hq),fun x v hx hv=>?_⟩ hrow
   rw [Xb _ _ _ hx]; exact hbut x v hx hv
  ·right
   simp only at hfit
   refine ⟨(g,0),e,kk,row,rfl,rfl,hg,by simp; omega,by simp [bytesV]; omega,?_⟩
   have hb':b≠g:=Ne.symm hgb
   refine k _ _ ⟨hself,Xa ..,.inr ⟨g,kk,splice row (0+bs.length*1) (bytesV ys),hgb,?_,?_,by simp; omega,?_,?_,fun j c hj=>?_⟩,fun q hq=>?_,fun x v hx hv=>?_⟩ ?_
   ·rw [Qja (by simp [bytesV]; omega)]; simp
   ·rw [Xb _ _ _ hgb]; simp [Xa]
   ·rw [Qja (by simp [bytesV]; omega)]; exact hr0
   ·rw [Qja (by simp [bytesV]; omega)]; simp; omega
   ·simp only [splice,Nat.mul_one,Nat.zero_add]
    by_cases hjb:j < bs.length
    ·rw [List.getElem?_append_left hjb] at hj
     rw [List.getElem?_append_left (by simp; omega),List.getElem?_append_left (by simp; omega),List.getElem?_take,if_pos hjb]
     exact hcs j c hj
    ·rw [List.getElem?_append_right (by omega)] at hj
     have hj2:j - bs.length < ys.length:=(List.getElem?_eq_some_iff.1 hj).1
     rw [List.getElem?_append_left (by simp [bytesV]; omega),List.getElem?_append_right (by simp; omega)]
     have:j - (row.take bs.length).length=j - bs.length:=by simp; omega
     rw [this,Qnf,hj]; rfl
   ·injection hq with hq; subst hq; exact hgnot (g,0) rfl
   ·have hxg : x ≠ g := fun e' => by subst e'; have := hgnot (x, 0) rfl; rw [this] at hv; cases hv
    rw [Xb _ _ _ hx,Xb _ _ _ hxg]; exact hbut x v hx hv
   ·rw [Xb _ _ _ hb']; exact hrow
 ·have hb2b : b ≠ b2 := fun e' => by subst e'; rw [hrow] at hb2; cases hb2
  refine k _ _ ⟨hself,Xa ..,.inr ⟨b2,0,bytesV bs++bytesV ys++zeros [.int .u8 0] (cap - (s.len+ys.length)),Ne.symm hb2b,?_,?_,Nat.zero_le _,?_,?_,fun j c hj=>?_⟩,fun q hq=>?_,fun x v hx hv=>?_⟩ ?_
  ·simp only [Va,QeT,QiO,hlen,List.length_singleton,Nat.mul_one]
   rw [show bs.length+ys.length+(cap - (bs.length+ys.length))=cap by omega]
  ·rw [Xb _ _ _ (Ne.symm hb2b),Xa]
  ·simp only [Va,QeT,QiO,hlen,List.length_singleton,Nat.mul_one]; omega
  ·simp only [Va,QeT,QiO,hlen,List.length_singleton,Nat.mul_one]; omega
  ·have hjl:=(List.getElem?_eq_some_iff.1 hj).1
   rw [List.getElem?_append_left (by simp [bytesV] at hjl ⊢; omega),← QqK,Qnf,hj]; rfl
  ·injection hq with hq; subst hq
   dsimp only
   cases hx:H0 b2 with
   | none=>rfl
   | some v=>have:=hbut b2 v (Ne.symm hb2b) hx; rw [hb2] at this; cases this
  ·have hxb2 : x ≠ b2 := fun e' => by subst e'; have := hbut x v hx hv; rw [hb2] at this; cases this
   rw [Xb _ _ _ hx,Xb _ _ _ hxb2]
   exact hbut x v hx hv
  ·rw [Xb _ _ _ hb2b]; exact hrow
def nwB (T e:TypeId) (K:Nat→HP) (H:Heap):Prop:=∀ b,H b=none→K b (H.put b (.trow T 0 [pv none,slv Sl.nil]))
section
variable {P:Program} {C:Ctx} {Q Q':Exit→Act→World→Prop} {n:FN} {l:List (Nat×Value)} {H:Heap} {ops:Array Oper} {rest:List Oper} {d:Nat} {ty:TypeId} {pos:String} {after:Array Edge} {g:Option (Nat×Bool)}
theorem Xat {T e:TypeId} {z:Value} {K:Nat→HP} (h:nwB T e K H) (r:Wt ops l g) (q:Nat.blt d n.n=true) (f:(P.info? T).bind (·.zero)=some z) (j:z.cells = #[.pointer none,.slice none 0 0])
 (k:∀ b H',K b H'→GL P C ops Q n rest ((d,pv (some (b,0)))::l) H'):GL P C ops Q n (⟨some d,.alloc T,ty,pos,after,g⟩::rest) l H:=by
 cases hinf:P.info? T with
 | none=>rw [hinf] at f; cases f
 | some t=>
  rw [hinf] at f
  simp only [Option.bind_some] at f
  refine GL.run (v:=z) r q fun a w u i=>⟨pv (some (w.heap.size,0)),_,_,?_,i.push (o:=.cells #[.pointer none,.slice none 0 0] T) (g:=.trow T 0 [pv none,slv Sl.nil]) (m:=true) ⟨rfl,rfl,fun _=>.inl rfl⟩,k _ _ (h _ i.fresh)⟩
  simp only [execOp,Instr.alloc]
  simp [zeroValue,typeInfo,hinf,f,newVar,Go.newRow,j,pv,adv]
end
def IsB (T e:TypeId) (H:Heap) (b:Nat) (bs:Str):Prop:=H b=some (true,.bld T e bs)∨(bs=[]∧H b=some (true,.trow T 0 [pv none,slv Sl.nil]))
theorem IsB.put {T e:TypeId} {H:Heap} {b:Nat} {bs:Str}:IsB T e (H.put b (.bld T e bs)) b bs:=.inl (Xa ..)
theorem IsB.new {T e:TypeId} {H:Heap} {b:Nat}:IsB T e (H.put b (.trow T 0 [pv none,slv Sl.nil])) b []:=.inr ⟨rfl,Xa ..⟩
theorem IsB.le {T e:TypeId} {H H2:Heap} {b:Nat} {bs:Str} (h:IsB T e H b bs) (hle:H.le H2):IsB T e H2 b bs:=by
 rcases h with h | ⟨h0,h⟩
 ·exact .inl (hle _ _ h)
 ·exact .inr ⟨h0,hle _ _ h⟩
theorem IsB.some {T e:TypeId} {H:Heap} {b:Nat} {bs:Str} (h:IsB T e H b bs):∃ g,H b=some (true,g):=by
 rcases h with h | ⟨h0,h⟩ <;> exact ⟨_,h⟩
theorem IsB.open_ {P:Program} {C:Ctx} {f:FuncId} {args:List Value} {H:Heap} {Φ:Value→HP} {b:Nat} {T e:TypeId} {bs:Str} (d:IsB T e H b bs)
 (h:∀ p s H',OpenB H H' b T e bs p s→Spec P C f args H' Φ):Spec P C f args H Φ:=by
 rcases d with d | ⟨rfl,d⟩
 ·exact Spec.openB d h
 ·exact h none Sl.nil H ⟨.inl rfl,d,.inl ⟨rfl,rfl⟩,fun q g=>(by cases g),fun x v hx i=>i⟩
theorem OpenB.setP {H0 H:Heap} {b:Nat} {T e:TypeId} {bs:Str} {p p2:Option (Nat×Nat)} {s:Sl} (h:OpenB H0 H b T e bs p s) (hp:p2=none∨p2=Option.some (b,0)):OpenB H0 (H.put b (.trow T 0 [pv p2,slv s])) b T e bs p2 s:=by
 obtain ⟨r,t,d,m,o⟩:=h
 refine ⟨hp,Xa ..,?_,m,fun x v hx q=>by rw [Xb _ _ _ hx]; exact o x v hx q⟩
 rcases d with d | ⟨g,k,row,hg,f,i,j⟩
 ·exact .inl d
 ·exact .inr ⟨g,k,row,hg,f,by rw [Xb _ _ _ hg]; exact i,j⟩
theorem OpenB.ne {H0 H:Heap} {b:Nat} {T e:TypeId} {bs:Str} {p:Option (Nat×Nat)} {s:Sl} (h:OpenB H0 H b T e bs p s):∀ q,s.p=Option.some q→q.1≠b:=fun q d=>by
 rcases h.buf with ⟨rfl,_⟩ | ⟨g,k,row,hg,rfl,_⟩
 ·cases d
 ·injection d with d; subst d; exact hg
theorem OpenB.slen {H0 H:Heap} {b:Nat} {T e:TypeId} {bs:Str} {p:Option (Nat×Nat)} {s:Sl} (h:OpenB H0 H b T e bs p s):s.len=bs.length∧s.x=none∧(s.p=none∨s.cap≠0):=by
 rcases h.buf with ⟨rfl,rfl⟩ | ⟨g,k,row,hg,rfl,_,_,h0,_⟩
 ·exact ⟨rfl,rfl,.inl rfl⟩
 ·exact ⟨rfl,rfl,.inr h0⟩
end
section
open Go
section
variable {P:Program} {C:Ctx} {Q:Exit→Act→World→Prop} {n:FN} {l:List (Nat×Value)} {H:Heap} {ops:Array Oper} {rest:List Oper} {d:Nat} {ty:TypeId} {pos:String} {after:Array Edge} {g:Option (Nat×Bool)}
end
end
section
open Go
section
variable {P:Program} {C:Ctx} {Q:Exit→Act→World→Prop} {n:FN} {l:List (Nat×Value)} {H Hs Hs0:Heap} {ops:Array Oper} {fuel z:Nat} {listed:Array Bool} {d:Nat} {op:Op} {ty:TypeId} {pos:String} {after:Array Edge} {g:Option (Nat×Bool)}
end
end
end Sx
end
noncomputable section
set_option linter.unusedVariables false
namespace Sx
namespace Rf
open Go
section
variable {P:Program} {C:Ctx} {Q:Exit→Act→World→Prop} {ro:Option Nat} {a:Act} {w:World} {ops:Array Oper}
end
section
variable (ro:Option Nat) (P:Program) (C:Ctx)
end
section
variable {ro:Option Nat} {P:Program} {C:Ctx} {Q Q':Exit→Act→World→Prop} {n:FN} {l:List (Nat×Value)} {H:Heap}
end
end Rf
end Sx
end

noncomputable section
set_option linter.unusedVariables false
set_option linter.unusedSimpArgs false
set_option maxRecDepth 10000
namespace Sx
section
open Go
section
variable {P:Program} {C:Ctx} {Q:Exit→Act→World→Prop} {n:FN} {l:List (Nat×Value)} {H Hs:Heap} {ops:Array Oper} {rest:List Oper} {fuel:Nat} {listed:Array Bool} {d:Nat} {op:Op} {ty:TypeId} {pos:String} {after:Array Edge} {g:Option (Nat×Bool)}
theorem ghm {P:Program} {C:Ctx} {f:FuncId} {args:List Value} {H:Heap} {α:Type} {R:α→Value→Prop} {K:α→HP} (h:Spec P C f args H (fun v H2=>∃ r0,R r0 v∧∃ H0,Gh C H2 H0∧K r0 H0)):Spec P C f args H (fun v H2=>∃ r0,R r0 v∧K r0 H2):=
 Spec.gh (Spec.mono h fun _ _ ⟨r0,d,H0,hg,b⟩=>⟨H0,hg,r0,d,b⟩)
theorem okx {f : FuncId} {b : Func} (h : P.funcs[f]? = some b) (d : b.body.isSome = true ∧ (b.name == "runtime.NumGoroutine") = false := by decide +kernel) : CallOk P f := ⟨⟨_, h, d⟩⟩
theorem Zv {op : Op} {v : Value} (f : OV P C n l H ⟨some d, op, ty, pos, after, none⟩ v) (k : GL P C ops Q n rest ((d, v) :: l) H) (b : Nat.blt d n.n = true := by exact rfl) :
 GL P C ops Q n (⟨some d,op,ty,pos,after,none⟩::rest) l H:=GL.val trivial b f k
theorem Zm {x : Operand} {v : Value} (k : GL P C ops Q n rest ((d, v) :: l) H) (hx : opv l x = some v := by exact rfl) (b : Nat.blt d n.n = true := by exact rfl) :
 GL P C ops Q n (⟨some d,.move x,ty,pos,after,none⟩::rest) l H:=GL.val trivial b (OV.move hx) k
theorem Za {x : Operand} {v : Value} (k : GL P C ops Q n rest ((d, v) :: l) H) (hx : opv l x = some v := by exact rfl) (b : Nat.blt d n.n = true := by exact rfl) :
 GL P C ops Q n (⟨some d,.assign x,ty,pos,after,none⟩::rest) l H:=GL.val trivial b (OV.assign hx) k
theorem Zi {op : BinOp} {t yt : TypeId} {x y : Operand} {k0 : IntKind} {a b : Int} (v : Value) (k : GL P C ops Q n rest ((d, v) :: l) H) (hx : opv l x = some (.int k0 a) := by exact rfl) (hy : opv l y = some (.int k0 b) := by exact rfl)
 (g:Sx.ibin op k0 a b=some v:=by exact rfl) (f:Nat.blt d n.n=true:=by exact rfl):GL P C ops Q n (⟨some d,.binOp op t x y yt,ty,pos,after,none⟩::rest) l H:=GL.val trivial f (OV.ibin hx hy g) k
theorem Zf {t : TypeId} {x : Operand} {i off : Nat} {p : Nat × Nat} (k : GL P C ops Q n rest ((d, pv (some (p.1, p.2 + off))) :: l) H) (hx : opv l x = some (pv (some p)) := by exact rfl) (f : fieldOff P t i = some off := by exact rfl) (b : Nat.blt d n.n = true := by exact rfl) :
 GL P C ops Q n (⟨some d,.fieldAddr t x i,ty,pos,after,none⟩::rest) l H:=GL.val trivial b (OV.fieldAddr hx f) k
theorem Zt {c x y : Operand} {b : Bool} {v : Value} (f : b = true) (k : GL P C ops Q n rest ((d, v) :: l) H) (g : opv l c = some (.bool b) := by exact rfl) (hx : opv l x = some v := by exact rfl) (h : Nat.blt d n.n = true := by exact rfl) :
 GL P C ops Q n (⟨some d,.pick c x y,ty,pos,after,none⟩::rest) l H:=GL.val trivial h (Xaf g f hx) k
theorem Zn {c x y : Operand} {b : Bool} {v : Value} (f : b = false) (k : GL P C ops Q n rest ((d, v) :: l) H) (g : opv l c = some (.bool b) := by exact rfl) (hx : opv l y = some v := by exact rfl) (h : Nat.blt d n.n = true := by exact rfl) :
 GL P C ops Q n (⟨some d,.pick c x y,ty,pos,after,none⟩::rest) l H:=GL.val trivial h (Xai g f hx) k
theorem Zq {x : Operand} {t e : TypeId} {s : Sl} (k : GL P C ops Q n rest ((d, .int .i64 (s.len : Int)) :: l) H) (hx : opv l x = some (slv s) := by exact rfl) (f : P.underlying t = some (.slice e) := by exact rfl) (b : Nat.blt d n.n = true := by exact rfl) :
 GL P C ops Q n (⟨some d,.call { callee:=.builtin .len,args:=#[x],argTypes:=#[t] },ty,pos,after,none⟩::rest) l H:=GL.val trivial b (XX hx f) k
theorem Zr {x : Operand} {t : TypeId} {s : Str} (k : GL P C ops Q n rest ((d, .int .i64 (s.length : Int)) :: l) H) (hx : opv l x = some (sv s) := by exact rfl) (f : P.underlying t = some .string := by exact rfl) (b : Nat.blt d n.n = true := by exact rfl) :
 GL P C ops Q n (⟨some d,.call { callee:=.builtin .len,args:=#[x],argTypes:=#[t] },ty,pos,after,none⟩::rest) l H:=GL.val trivial b (XM hx f) k
theorem Zu {op:Op} {v:Value} {j d':Nat} {want b:Bool} (hb:b=want) (hr:OV P C n l H ⟨some d,op,ty,pos,after,some (j,want)⟩ v) (k:GL P C ops Q n rest ((d,v)::l) H)
 (h1:(ops[j]?).bind (·.dst)=some d':=by exact rfl) (h2:lk l d' = some (.bool b):=by exact rfl) (hd:Nat.blt d n.n=true:=by exact rfl) :
 GL P C ops Q n (⟨some d,op,ty,pos,after,some (j,want)⟩::rest) l H:=GL.val ⟨d',b,h1,h2,hb⟩ hd hr k
theorem Zk {op:Op} {j g:Nat} {f b:Bool} (m:b=!f) (k:GL P C ops Q n rest ((d,undef)::l) H)
 (h:(ops[j]?).bind (·.dst)=some g:=by exact rfl) (i:lk l g=some (.bool b):=by exact rfl) (o:Nat.blt d n.n=true:=by exact rfl) :
 GL P C ops Q n (⟨some d,op,ty,pos,after,some (j,f)⟩::rest) l H:=GL.skip ⟨g,h,.inl ⟨b,i,m⟩⟩ o k
theorem Zc {f:FuncId} {xs:Array Operand} {b:Array TypeId} {vs:List Value} {Φ:Value→HP} (h:Spec P C f vs H Φ) (g:CallOk P f)
 (k:∀ v H',Φ v H'→GL P C ops Q n rest ((d,v)::l) H') (hx:opvs l xs.toList=some vs:=by exact rfl) (i:Nat.blt d n.n=true:=by exact rfl) :
 GL P C ops Q n (⟨some d,.call { callee:=.value (.func f),args:=xs,argTypes:=b },ty,pos,after,none⟩::rest) l H:=GL.call h trivial i g hx k
theorem Zp (i : Nat) {v : Value} (hi : ops[i]? = some ⟨some d, op, ty, pos, after, none⟩) (hv : OV P C n l Hs ⟨some d, op, ty, pos, after, none⟩ v) (k : GA P C ops Q n fuel (listed.setIfInBounds i true) ((d, v) :: l) H Hs) (hQ : ∀ c a w, Q (.panic c) a w → False := by exact fun _ _ _ => False.elim)
 (hs:Region.noSelect ops=true:=by kernel_rfl) (hf:Region.free .any ops listed i=true:=by kernel_rfl) (hr:(Region.ready .any ops listed).contains i=true:=by kernel_rfl)
 (hd:Nat.blt d n.n=true:=by exact rfl):GA P C ops Q n (fuel+1) listed l H Hs:=GA.take i hi hs hf hr hQ trivial hd hv k
theorem Zo {b:Nat} {ops:List Oper} {y:Code} (k:GL P C ops.toArray (Exit.then (y.wp P Q) Q) n ops l H):GC P C Q n (.seq (.region b ops.toArray false) y) l H:=GC.seq (GC.region k)
theorem Zd {c:Operand} {x y:Code} {b:Bool} (d:b=true→GC P C Q n x l H) (f:b=false→GC P C Q n y l H) (g:opv l c=some (.bool b):=by exact rfl):GC P C Q n (.cond c x y) l H:=GC.cond g d f
theorem Qo0 {j:Func} {Φ:Value→HP} {r s q:ResultVar} {x y z:Value} {a:Act} {w:World} (I:j.results = #[r,s,q]) (A:RV P C l H r x) (B:RV P C l H s y) (D:RV P C l H q z) {m:Nat} (b:Fr ⟨m,[]⟩ l a) (d:St C w H) (h:Φ (.tuple #[x,y,z]) H):SpecPost P C j Φ .ret a w:=by
 refine Qcq (v:=.tuple #[x,y,z]) ?_ b.defers ⟨_,H,rfl,d,h⟩
 rcases A.run b d with ⟨t,rfl,e⟩ | ⟨_,t,p,rfl,e,G⟩ <;> rcases B.run b d with ⟨F,rfl,o⟩ | ⟨_,F,J,rfl,o,u⟩ <;> rcases D.run b d with ⟨g,rfl,f⟩ | ⟨_,g,E,rfl,f,i⟩ <;>
  simp_all [results,pv,asAddr]
theorem Zb (b:Bool):b=true∨b=false:=Bool.eq_false_or_eq_true b
end
end
section
open Go
theorem I3 {α β:Type} {M:α→β→Prop}:∀ a w,M a w→M a w:=fun _ _ h=>h
theorem ift.em {c:Bool} {A B:Prop} (h:ift c A B):c=true∧A∨c=false∧B:=by
 cases c
 ·exact .inr ⟨rfl,h.2 rfl⟩
 ·exact .inl ⟨rfl,h.1 rfl⟩
section
variable {P:Program} {C:Ctx} {Q:Exit→Act→World→Prop} {n:FN} {l:List (Nat×Value)} {H Hs:Heap} {ops:Array Oper} {rest:List Oper} {fuel:Nat} {listed:Array Bool} {d:Nat} {op:Op} {ty:TypeId} {pos:String} {after:Array Edge} {g:Option (Nat×Bool)}
theorem Yj {α:Type} {J:α→HP} {e:α→List (Nat×Value)} (d:∀ a w,Meet C n J e a w→Q .normal a w) (x:α) (b:J x H) (f:Sub l (e x):=by (repeat refine ⟨rfl,?_⟩); exact trivial):GL P C ops Q n [] l H:=GL.jump d x b f
theorem Yk {α:Type} {J:α→HP} {e:α→List (Nat×Value)} (d:∀ a w,Meet C n J e a w→Q .normal a w) (x:α) (b:J x H) (f:Sub l (e x):=by (repeat refine ⟨rfl,?_⟩); exact trivial):GC P C Q n .skip l H:=GC.jump d x b f
theorem Yp {α:Type} {d:α} {body:α→(α→HP)→HP} (h:lp d H body) (e:α→List (Nat×Value)) {c:Code}
 (b:∀ x H' (J:α→HP),body x J H'→GC P C (Exit.then (Meet C n J e) Q) n c (e x) H') (f:Sub l (e d):=by (repeat refine ⟨rfl,?_⟩); exact trivial):GC P C Q n (.loop c) l H:=GC.loop h e f b
theorem Y1 {b:Func} {Φ:Value→HP} {t m:Nat} {v:Value} (g:∀ a w,SpecPost P C b Φ .ret a w→Q .ret a w) (h:Φ v H) (i:b.results = #[.tmp t]:=by exact rfl) (f:lk l t=some v:=by exact rfl):GC P C Q ⟨m,[]⟩ .ret l H:=
 GC.ret fun a w d j=>g a w (QrV i f d j h)
theorem Y2 {d:Func} {Φ:Value→HP} {t u m:Nat} {x y:Value} (i:∀ a w,SpecPost P C d Φ .ret a w→Q .ret a w) (h:Φ (.tuple #[x,y]) H) (j:d.results = #[.tmp t,.tmp u]:=by exact rfl) (g:lk l t=some x:=by exact rfl) (b:lk l u=some y:=by exact rfl):GC P C Q ⟨m,[]⟩ .ret l H:=
 GC.ret fun a w f o=>i a w (QuR j g b f o h)
theorem Y3 {f:Func} {Φ:Value→HP} {t u s m:Nat} {x y z:Value} (j:∀ a w,SpecPost P C f Φ .ret a w→Q .ret a w) (h:Φ (.tuple #[x,y,z]) H) (o:f.results = #[.tmp t,.tmp u,.tmp s]:=by exact rfl) (i:lk l t=some x:=by exact rfl) (b:lk l u=some y:=by exact rfl) (d:lk l s=some z:=by exact rfl):GC P C Q ⟨m,[]⟩ .ret l H:=
 GC.ret fun a w g q=>j a w (QuS o i b d g q h)
theorem Yd {c:Operand} {x y:Code} {b:Bool} {A B:Prop} (h:ift b A B) (d:b=true→A→GC P C Q n x l H) (f:b=false→B→GC P C Q n y l H) (g:opv l c=some (.bool b):=by exact rfl):GC P C Q n (.cond c x y) l H:=
 GC.cond g (fun e=>d e (h.1 e)) fun e=>f e (h.2 e)
theorem Yl {t : TypeId} {x : Operand} {p : Nat × Nat} {α : Type} {f : α → Value} {K : α → Prop} (h : ∃ x, rd H p = some (f x) ∧ K x) (k : ∀ x, K x → GL P C ops Q n rest ((d, f x) :: l) H) (hx : opv l x = some (pv (some p)) := by exact rfl) (j : aggB P t = false := by exact rfl) (b : Nat.blt d n.n = true := by exact rfl) :
 GL P C ops Q n (⟨some d,.load t x,ty,pos,after,none⟩::rest) l H:=by
 obtain ⟨y,i,g⟩:=h
 exact GL.val trivial b (OV.load hx j i) (k y g)
theorem Yx {x y:Operand} {t e:TypeId} {s:Sl} {i:Int} {k0:IntKind} {f:Nat} {K:Nat×Nat→Prop} (h:ixa s i K) (k:∀ p,K p→GL P C ops Q n rest ((d,pv (some (p.1,p.2+i.toNat*f)))::l) H)
 (hx:opv l x=some (slv s):=by exact rfl) (hy:opv l y=some (.int k0 i):=by exact rfl) (q:P.underlying t=some (.slice e):=by exact rfl) (m:(P.info? e).map (·.size)=some f:=by exact rfl) (j:Nat.blt d n.n=true:=by exact rfl) :
 GL P C ops Q n (⟨some d,.indexAddr t x y,ty,pos,after,none⟩::rest) l H:=by
 obtain ⟨p,hp,b,h0,g,o⟩:=h
 exact GL.val trivial j (OV.indexAddr hx hy q m hp b h0 g) (k p o)
theorem Ys {x y:Operand} {t:TypeId} {s:Str} {i:Int} {k0:IntKind} {K:UInt8→Prop} (h:ixs s i K) (k:∀ c:UInt8,K c→GL P C ops Q n rest ((d,.int .u8 (c.toNat:Int))::l) H)
 (hx:opv l x=some (sv s):=by exact rfl) (hy:opv l y=some (.int k0 i):=by exact rfl) (j:P.underlying t=some .string:=by exact rfl) (f:Nat.blt d n.n=true:=by exact rfl) :
 GL P C ops Q n (⟨some d,.index t x y,ty,pos,after,none⟩::rest) l H:=by
 obtain ⟨c,h0,b,g⟩:=h
 exact GL.val trivial f (Xq hx hy j h0 b) (k c g)
theorem Ye {m:Nat} {f:FuncId} {b:Func} {c:Code} {args:List Value} {Φ:Value→HP} (i:P.funcs[f]? = some b) (h:b.body=some c) (hn:b.ntmps=m) (d:List (Nat×Value))
 (k:GC P C (SpecPost P C b Φ) ⟨m,[]⟩ c d H) (g:Nat.ble args.length m=true:=by exact rfl) (j:Sub (argFrame args) d:=by (repeat refine ⟨rfl,?_⟩); exact trivial):Spec P C f args H Φ:=Spec.enter i h hn g (GC.sub d j k)
theorem Ym {x:Operand} {v:Value} (hx:opv l x=some v:=by exact rfl):OV P C n l H ⟨some d,.move x,ty,pos,after,g⟩ v:=OV.move hx
theorem Ya {x:Operand} {v:Value} (hx:opv l x=some v:=by exact rfl):OV P C n l H ⟨some d,.assign x,ty,pos,after,g⟩ v:=OV.assign hx
theorem Yo {t:TypeId} {x:Operand} {p:Nat×Nat} {v:Value} (b:rd H p=some v) (hx:opv l x=some (pv (some p)):=by exact rfl) (f:aggB P t=false:=by exact rfl):OV P C n l H ⟨some d,.load t x,ty,pos,after,g⟩ v:=OV.load hx f b
theorem Yf {t:TypeId} {x:Operand} {i off:Nat} {p:Nat×Nat} (hx:opv l x=some (pv (some p)):=by exact rfl) (b:fieldOff P t i=some off:=by exact rfl):OV P C n l H ⟨some d,.fieldAddr t x i,ty,pos,after,g⟩ (pv (some (p.1,p.2+off))):=OV.fieldAddr hx b
theorem Yv {x:Operand} {i:Nat} {vs:Array Value} (v:Value) (hx:opv l x=some (.tuple vs)) (f:vs[i]? = some v) (k:GL P C ops Q n rest ((d,v)::l) H) (b:Nat.blt d n.n=true:=by exact rfl):GL P C ops Q n (⟨some d,.extract x i,ty,pos,after,none⟩::rest) l H:=
 GL.val trivial b (OV.extract hx f) k
theorem Yt {j f:Nat} {d b:Bool} (i:b=d) (g:(ops[j]?).bind (·.dst)=some f:=by exact rfl) (h:lk l f=some (.bool b):=by exact rfl):Wt ops l (some (j,d)):=⟨f,b,g,h,i⟩
end
end
section
set_option linter.unusedSectionVars false
open Go
section
variable {α:Type} {κ:Type} [DecidableEq κ] {ke:κ→Value} {enc:α→Value}
def lkL (k:κ):List (κ×α)→Option α
 | []=>none
 | p::l=>if p.1=k then some p.2 else lkL k l
theorem Qq0 {k:κ}:∀ {l:List (κ×α)},(∀ p ∈ l,p.1≠k)→lkL k l=none
 | [],_=>rfl
 | p::l,h=>by
  simp only [lkL]
  rw [if_neg (h p (List.mem_cons_self ..))]
  exact Qq0 fun q hq=>h q (List.mem_cons_of_mem _ hq)
theorem QqZ {k:κ} {x:α}:∀ {l:List (κ×α)},lkL k l=some x→(k,x) ∈ l
 | p::l,h=>by
  simp only [lkL] at h
  split at h
  ·rename_i e
   injection h with h
   subst h; subst e
   exact List.mem_cons_self ..
  ·exact List.mem_cons_of_mem _ (QqZ h)
theorem QrM {k : κ} {x : α} : ∀ {l : List (κ × α)}, l.Pairwise (fun p q => p.1 ≠ q.1) → (k, x) ∈ l → lkL k l = some x
 | p::l,h,hm=>by
  have h1:=List.pairwise_cons.1 h
  simp only [lkL]
  rcases List.mem_cons.1 hm with rfl | hm
  ·rw [if_pos rfl]
  ·rw [if_neg (h1.1 _ hm)]; exact QrM h1.2 hm
theorem QpZ {k k2:κ} {x:α}:∀ {l:List (κ×α)},lkL k l=none→lkL k2 (l++[(k,x)])=if k2=k then some x else lkL k2 l
 | [],_=>by
  simp only [List.nil_append,lkL]
  by_cases h:k2=k
  ·rw [if_pos h.symm,if_pos h]
  ·rw [if_neg (Ne.symm h),if_neg h]
 | p::l,h=>by
  simp only [lkL] at h
  split at h <;> try (cases h; done)
  rename_i hp
  simp only [List.cons_append,lkL,QpZ (k2:=k2) (x:=x) h]
  by_cases h2:p.1=k2
  ·rw [if_pos h2,if_pos h2,if_neg (fun e=>hp (h2.trans e))]
  ·rw [if_neg h2,if_neg h2]
theorem QuE {k k2 : κ} {x y : α} : ∀ {l : List (κ × α)} {j : Nat}, l.Pairwise (fun p q => p.1 ≠ q.1) → l[j]? = some (k, x) → lkL k2 (l.set j (k, y)) = if k2 = k then some y else lkL k2 l
 | [],j,_,h=>by simp at h
 | p::l,0,_,h=>by
  simp at h; subst h
  simp only [List.set_cons_zero,lkL]
  by_cases h2:k=k2
  ·rw [if_pos h2,if_pos h2.symm]
  ·rw [if_neg h2,if_neg (Ne.symm h2),if_neg h2]
 | p::l,j+1,hp,h=>by
  have h1:=List.pairwise_cons.1 hp
  have hm:l[j]? = some (k,x):=by simpa using h
  have b:=h1.1 _ (List.mem_of_getElem? hm)
  simp only [List.set_cons_succ,lkL,QuE (k2:=k2) (y:=y) h1.2 hm]
  by_cases h2:p.1=k2
  ·rw [if_pos h2,if_pos h2,if_neg (fun e=>b (h2.trans e))]
  ·rw [if_neg h2,if_neg h2]
structure MapIs (ke:κ→Value) (enc:α→Value) (H:Heap) (b:Nat) (l:List (κ×α)):Prop where
 ex:∃ (es:Array MapEntry) (ck:Nat),H b=some (true,.obj (.map es ck))∧es.toList.map (fun e=>(e.key,e.val))=l.map fun p=>(ke p.1,enc p.2)
 nd:l.Pairwise fun p q=>p.1≠q.1
theorem MapIs.mine {H:Heap} {b:Nat} {l:List (κ×α)} (h:MapIs ke enc H b l):∃ g,H b=some (true,g):=by
 obtain ⟨⟨i,f,d,j⟩,m⟩:=h
 exact ⟨_,d⟩
def mkM (K:Nat→HP) (H:Heap):Prop:=∀ b,H b=none→K b (H.put b (.obj (.map #[] 0)))
def Lk (ke:κ→Value) (enc:α→Value) (z:α) (q:Option Nat) (k:κ) (x:α) (b:Bool) (H:Heap):Prop:=
 (q=none∧x=z∧b=false)∨∃ r l,q=some r∧MapIs ke enc H r l∧(lkL k l=some x∧b=true∨lkL k l=none∧x=z∧b=false)
def lkM (ke:κ→Value) (enc:α→Value) (z:α) (q:Option Nat) (k:κ) (K:α→Bool→Prop) (H:Heap):Prop:=∃ x b,Lk ke enc z q k x b H∧K x b
theorem MapIs.lk {H:Heap} {r:Nat} {l:List (κ×α)} {z:α} {k:κ} {K:α→Bool→Prop} (h:MapIs ke enc H r l) (b:∀ x,lkL k l=some x→K x true) (k2:lkL k l=none→K z false):lkM ke enc z (some r) k K H:=by
 cases hl:lkL k l with
 | some x=>exact ⟨x,true,.inr ⟨r,l,rfl,h,.inl ⟨hl,rfl⟩⟩,b x hl⟩
 | none=>exact ⟨z,false,.inr ⟨r,l,rfl,h,.inr ⟨hl,rfl,rfl⟩⟩,k2 hl⟩
structure KOk (P:Program) (kt:TypeId) {κ:Type} (ke:κ→Value):Prop where
 inj:∀ {a b:κ},ke a=ke b→a=b
 check:∀ (w:World) (em:Bool) (k:κ),(Instr.checkKey em 10000 kt (ke k)).run P w=.ok () w
 find:∀ (w:World) (k:κ) (es:List MapEntry),(∀ e ∈ es,∃ k',e.key=ke k')→
  ((Instr.findKey kt (ke k) es).run P w=.ok none w∧∀ e ∈ es,e.key≠ke k)∨∃ j e,(Instr.findKey kt (ke k) es).run P w=.ok (some (j,e.val)) w∧es[j]? = some e∧e.key=ke k
 stays:∀ (w:World) (k:κ),(Instr.keyThatStays (ke k) (ke k)).run P w=.ok (ke k) w
theorem Qu8 {a b:Str} (h:sv a=sv b):a=b:=by
 simp only [sv,Value.string.injEq,ByteArray.mk.injEq] at h
 have:=congrArg Array.toList h
 simpa using this
theorem kText {P:Program} {i:TypeId} (h:P.underlying i=some .string):KOk P i sv where
 inj:=Qu8
 check:=fun w em k=>MapKept.run_checkKey h (k:=sv k) trivial em 9999
 find:=fun w k m b=>by
  rcases MapKept.findNow_spec (d:=.string) (k:=sv k) trivial m 0 (fun e q=>by obtain ⟨k',hk'⟩:=b e q; rw [hk']; exact trivial) with ⟨f,g⟩ | ⟨j,e,f,g,o⟩
  ·exact .inl ⟨MapKept.run_findKey h f,g⟩
  ·rw [Nat.zero_add] at f
   exact .inr ⟨j,e,MapKept.run_findKey h f,g,o⟩
 stays:=fun w k=>MapKept.run_keyThatStays (d:=.string) trivial
def isTxt (P:Program) (t:TypeId):Bool:=match P.underlying t with
 | some .string=>true
 | _=>false
theorem Qs6 {P:Program} {t:TypeId} (h:isTxt P t=true):P.underlying t=some .string:=by
 unfold isTxt at h
 split at h
 ·assumption
 ·cases h
theorem QrR {P:Program} {w:World} {t:TypeId} {cs:Array Value} {i:Nat} {v:Value} (d:P.underlying t=some .string) (f:cs[i]? = some v):(part t cs i).run P w=.ok v w:=by
 have b:(isAgg t).run P w=.ok false w:=by simp [isAgg,d,underlying]
 simp [part,b,f]
theorem QrJ {P : Program} {t : TypeId} (y : KOk P t ke) {b : Array MapEntry} {l : List (κ × α)} (m : b.toList.map (fun e => (e.key, e.val)) = l.map fun p => (ke p.1, enc p.2)) (nd : l.Pairwise fun p q => p.1 ≠ q.1) (k : κ) (w : World) :
 (lkL k l=none∧(Instr.findKey t (ke k) b.toList).run P w=.ok none w)∨∃ j e x,lkL k l=some x∧(Instr.findKey t (ke k) b.toList).run P w=.ok (some (j,enc x)) w∧b[j]? = some e∧e.key=ke k∧l[j]? = some (k,x):=by
 have g:∀ e ∈ b.toList,∃ k',e.key=ke k':=fun e hm=>by
  have:(e.key,e.val) ∈ b.toList.map fun e=>(e.key,e.val):=List.mem_map.2 ⟨e,hm,rfl⟩
  rw [m] at this
  obtain ⟨p,_,hp⟩:=List.mem_map.1 this
  injection hp with hp _
  exact ⟨p.1,hp.symm⟩
 rcases y.find w k b.toList g with ⟨i,h⟩ | ⟨j,e,i,h,u⟩
 ·refine .inl ⟨Qq0 fun p hp e => ?_, i⟩
  have:(ke p.1,enc p.2) ∈ l.map fun p=>(ke p.1,enc p.2):=List.mem_map.2 ⟨p,hp,rfl⟩
  rw [← m] at this
  obtain ⟨x,hx,f⟩:=List.mem_map.1 this
  injection f with f _
  exact h x hx (by rw [f,e])
 ·have d := congrArg (fun l => l[j]?) m
  simp only [List.getElem?_map,h,Option.map_some] at d
  cases hp:l[j]? with
  | none=>rw [hp] at d; cases d
  | some p=>
   rw [hp] at d
   simp only [Option.map_some,Option.some.injEq,Prod.mk.injEq] at d
   have r:p.1=k:=y.inj (by rw [← d.1,u])
   have o:p=(k,p.2):=by rw [← r]
   rw [o] at hp
   refine .inr ⟨j,e,p.2,QrM nd (List.mem_of_getElem? hp),?_,by simpa using h,u,hp⟩
   rw [← d.2]; exact i
end
section
variable {P:Program} {C:Ctx} {Q:Exit→Act→World→Prop} {n:FN} {l:List (Nat×Value)} {H:Heap} {ops:Array Oper} {rest:List Oper} {d:Nat} {ty:TypeId} {pos:String} {after:Array Edge} {g:Option (Nat×Bool)} {α:Type} {κ:Type} [DecidableEq κ] {ke:κ→Value} {enc:α→Value}
theorem Xau {w:World} {b:Nat} {f:Obj} (m:St C w H) (h:H b=some (true,.obj f)):(getObj b).run P w=.ok f w∧w.heap[b]? = some f:=by
 obtain ⟨o,g,d⟩:=m.blk _ _ _ h
 simp only [GO.rel] at d
 obtain ⟨i,j⟩:=d
 rw [i] at g
 refine ⟨?_,g⟩
 cases f <;> first | exact absurd rfl (j _ _ _) | simp [getObj,Sem.run,g]
theorem GL.makeMap {t:TypeId} {K:Nat→HP} (h:mkM K H) (j:Wt ops l g) (i:Nat.blt d n.n=true) (k:∀ b H',K b H'→GL P C ops Q n rest ((d,mv (some b))::l) H'):GL P C ops Q n (⟨some d,.makeMap t none,ty,pos,after,g⟩::rest) l H:=by
 refine GL.run (v:=.bool true) j i fun a w q f=>⟨mv (some w.heap.size),_,_,?_,f.push (o:=.map #[] 0) (g:=.obj (.map #[] 0)) (m:=true) ⟨rfl,fun _ _ _ h=>by cases h⟩,k _ _ (h _ f.fresh)⟩
 simp [execOp,Instr.makeMap,newObj,Sem.run,mv]
theorem XT {t A y:TypeId} {X Y:Operand} {c:Bool} {z x:α} {q:Option Nat} {k:κ} {b:Bool} (N:Lk ke enc z q k x b H) (hx:opv l X=some (mv q)) (hy:opv l Y=some (ke k)) (F:P.underlying t=some (.map A y)) (E:KOk P A ke) (u:(P.info? y).bind (·.zero)=some (enc z)) :
 OV P C n l H ⟨some d,.lookup t X Y c,ty,pos,after,g⟩ (if c then .tuple #[enc x,.bool b] else enc x):=by
 intro a w J Q
 have o:(zeroValue y).run P w=.ok (enc z) w:=by
  cases hinf:P.info? y with
  | none=>rw [hinf] at u; cases u
  | some R=>
   rw [hinf] at u
   simp only [Option.bind_some] at u
   simp [zeroValue,typeInfo,hinf,u]
 have m:∀ em,(Instr.checkKey em 10000 A (ke k)).run P w=.ok () w:=fun em=>E.check w em k
 simp only [execOp,J.ev hx,J.ev hy]
 rcases N with ⟨rfl,rfl,rfl⟩ | ⟨r,K,rfl,⟨⟨T,S,L,M⟩,nd⟩,i⟩
 ·have D : (Instr.findKey A (ke k) []).run P w = .ok none w := by
   rcases E.find w k [] (fun e O=>by cases O) with ⟨h,_⟩ | ⟨j,e,_,h,_⟩
   ·exact h
   ·simp at h
  simp only [Instr.lookup,mv]
  cases c <;> simp [underlying,F,m,D,o]
 ·obtain ⟨I,_⟩:=Xau (P:=P) Q L
  simp only [Instr.lookup,mv]
  rcases QrJ E M nd k w with ⟨B,G⟩ | ⟨j,e,U,B,G,_⟩
  ·rcases i with ⟨f,rfl⟩ | ⟨f,rfl,rfl⟩
   ·rw [B] at f; cases f
   ·cases c <;> simp [underlying,F,m,G,o,I]
  ·rcases i with ⟨f,rfl⟩ | ⟨f,rfl,rfl⟩
   ·rw [B] at f; injection f with f; subst f
    cases c <;> simp [underlying,F,m,G,o,I]
   ·rw [B] at f; cases f
theorem XE {t h f:TypeId} {X Y:Operand} {z x:α} {q:Option Nat} {k:κ} {b:Bool} {v:Value} (o:v=.tuple #[enc x,.bool b]) (i:Lk ke enc z q k x b H) (hx:opv l X=some (mv q)) (hy:opv l Y=some (ke k)) (m:P.underlying t=some (.map h f)) (j:KOk P h ke) (r:(P.info? f).bind (·.zero)=some (enc z)) :
 OV P C n l H ⟨some d,.lookup t X Y true,ty,pos,after,g⟩ v:=by
 subst o; exact XT (c:=true) i hx hy m j r
theorem XA {t h f:TypeId} {X Y:Operand} {z x:α} {q:Option Nat} {k:κ} {b:Bool} {v:Value} (o:v=enc x) (i:Lk ke enc z q k x b H) (hx:opv l X=some (mv q)) (hy:opv l Y=some (ke k)) (m:P.underlying t=some (.map h f)) (j:KOk P h ke) (r:(P.info? f).bind (·.zero)=some (enc z)) :
 OV P C n l H ⟨some d,.lookup t X Y false,ty,pos,after,g⟩ v:=by
 subst o; exact XT (c:=false) i hx hy m j r
end
section
variable {α:Type} {κ:Type} [DecidableEq κ] {ke:κ→Value} {enc:α→Value}
structure MapSt (ke:κ→Value) (enc:α→Value) (H:Heap) (b:Nat) (l:List (κ×α)) (es:Array MapEntry) (ck:Nat):Prop where
 at_:H b=some (true,.obj (.map es ck))
 ents:es.toList.map (fun e=>(e.key,e.val))=l.map fun p=>(ke p.1,enc p.2)
 st:MapKept.Stamped es ck
theorem MapSt.keys {H:Heap} {b:Nat} {l:List (κ×α)} {d:Array MapEntry} {f:Nat} (h:MapSt ke enc H b l d f):d.toList.map (fun e=>e.key)=l.map fun p=>ke p.1:=by
 have:=congrArg (List.map fun q:Value×Value=>q.1) h.ents
 simpa [List.map_map,Function.comp_def] using this
theorem MapSt.nd {H:Heap} {b:Nat} {l:List (κ×α)} {f:Array MapEntry} {i:Nat} (h:MapSt ke enc H b l f i):l.Pairwise fun p q=>p.1≠q.1:=by
 have g:(f.toList.map fun e=>e.key).Nodup:=h.st.2.2
 rw [h.keys,List.Nodup,List.pairwise_map] at g
 exact g.imp fun {a b} d e=>d (by rw [e])
theorem MapSt.is {H:Heap} {b:Nat} {l:List (κ×α)} {f:Array MapEntry} {d:Nat} (h:MapSt ke enc H b l f d):MapIs ke enc H b l:=⟨⟨f,d,h.at_,h.ents⟩,h.nd⟩
theorem MapSt.out {H:Heap} {b:Nat} {l:List (κ×α)} {d:Array MapEntry} {f:Nat} (h:MapSt ke enc H b l d f) {e:MapEntry} (g:e ∈ d.toList):∃ p ∈ l,ke p.1=e.key∧enc p.2=e.val:=by
 have:(e.key,e.val) ∈ d.toList.map fun e=>(e.key,e.val):=List.mem_map.2 ⟨e,g,rfl⟩
 rw [h.ents] at this
 obtain ⟨p,hp,e⟩:=List.mem_map.1 this
 injection e with e1 e2
 exact ⟨p,hp,e1,e2⟩
structure It (ke:κ→Value) (enc:α→Value) (H:Heap) (it m:Nat) (l vs:List (κ×α)):Prop where
 ex:∃ es ck seen,MapSt ke enc H m l es ck∧H it=some (true,.obj (.mapIter (some m) ck seen ck))∧(∀ e ∈ es.toList,(seen.contains e.born=true ↔ ∃ p ∈ vs,ke p.1=e.key))∧(∀ us p,vs=us++[p]→∃ e ∈ es.toList,seen.back? = some e.born∧ke p.1=e.key∧enc p.2=e.val)∧seen.size=vs.length
 sub:∀ p ∈ vs,p ∈ l
 nd:vs.Pairwise fun p q=>p.1≠q.1
 ki:∀ {a b:κ},ke a=ke b→a=b
end
section
variable {P:Program} {C:Ctx} {Q:Exit→Act→World→Prop} {n:FN} {l:List (Nat×Value)} {H:Heap} {ops:Array Oper} {rest:List Oper} {d:Nat} {ty:TypeId} {pos:String} {after:Array Edge} {g:Option (Nat×Bool)} {α:Type} {κ:Type} [DecidableEq κ] {ke:κ→Value} {enc:α→Value}
end
section
variable {α:Type} {κ:Type} [DecidableEq κ] {ke:κ→Value} {enc:α→Value}
def MapS (ke:κ→Value) (enc:α→Value) (H:Heap) (b:Nat) (l:List (κ×α)):Prop:=∃ es ck,MapSt ke enc H b l es ck
theorem MapS.is {H:Heap} {b:Nat} {l:List (κ×α)} (h:MapS ke enc H b l):MapIs ke enc H b l:=by obtain ⟨f,d,h⟩:=h; exact h.is
theorem MapS.le {A B:Heap} {b:Nat} {l:List (κ×α)} (h:MapS ke enc A b l) (hle:A.le B):MapS ke enc B b l:=by
 obtain ⟨f,d,h⟩:=h
 exact ⟨f,d,hle _ _ h.at_,h.ents,h.st⟩
theorem MapS.same {A B:Heap} {b:Nat} {l:List (κ×α)} (h:MapS ke enc A b l) (g:B b=A b):MapS ke enc B b l:=by
 obtain ⟨f,d,h⟩:=h
 exact ⟨f,d,by rw [g]; exact h.at_,h.ents,h.st⟩
theorem MapS.new {H:Heap} {b:Nat}:MapS ke enc (H.put b (.obj (.map #[] 0))) b []:=⟨#[],0,Xa ..,rfl,MapKept.stamped_empty 0⟩
def upS (ke:κ→Value) (enc:α→Value) (q:Option Nat) (k:κ) (x:α) (K:HP) (H:Heap):Prop:=
 ∃ b l,q=some b∧MapS ke enc H b l∧∀ g l2,MapS ke enc (H.put b g) b l2→(∀ k2,lkL k2 l2=if k2=k then some x else lkL k2 l)→l2.length=(if (lkL k l).isSome then l.length else l.length+1)→K (H.put b g)
end
section
variable {P:Program} {C:Ctx} {Q:Exit→Act→World→Prop} {n:FN} {l:List (Nat×Value)} {H:Heap} {ops:Array Oper} {rest:List Oper} {d:Nat} {ty:TypeId} {pos:String} {after:Array Edge} {g:Option (Nat×Bool)} {α:Type} {κ:Type} [DecidableEq κ] {ke:κ→Value} {enc:α→Value}
theorem XB {t N et:TypeId} {X Y Z:Operand} {q:Option Nat} {k:κ} {x:α} {K:HP} (h:upS ke enc q k x K H) (hw:Wt ops l g) (hx:opv l X=some (mv q)) (hy:opv l Y=some (ke k)) (hz:opv l Z=some (enc x)) (ht:P.underlying t=some (.map N et)) (D:KOk P N ke)
 (kk:∀ H',K H'→GL P C ops Q n rest l H'):GL P C ops Q n (⟨none,.mapUpdate t X Y Z,ty,pos,after,g⟩::rest) l H:=by
 obtain ⟨b,l0,rfl,⟨A,E,hm⟩,W⟩:=h
 have U:=hm.at_
 have F:=hm.ents
 have nd:=hm.nd
 refine X3 hw fun a w I hs=>?_
 obtain ⟨S,T⟩:=Xau (P:=P) hs U
 have L:b < w.heap.size:=(Array.getElem?_eq_some_iff.1 T).1
 have o:∀ em,(Instr.checkKey em 10000 N (ke k)).run P w=.ok () w:=fun em=>D.check w em k
 have m:∀ f d,(setObj b (.map f d)).run P w=.ok () (w.putObj b (.map f d)):=fun f d=>by simp [setObj,Sem.run,T,World.putObj]
 have u:∀ f d,St C (w.putObj b (.map f d)) (H.put b (.obj (.map f d))):=fun f d=>
  hs.set U ⟨rfl,rfl,World.putObj_heap_same L,fun x hx=>World.putObj_heap_other hx⟩ ⟨rfl,fun _ _ _ h=>by cases h⟩
 simp only [execOp,I.ev hx,I.ev hy,I.ev hz,Instr.mapUpdate,mv]
 rcases QrJ D F nd k w with ⟨z,O⟩ | ⟨j,e,x',z,O,R,q4,q5⟩
 ·refine ⟨_, _, ?_, u (A.push { key := ke k, val := enc x, born := E }) (E + 1), kk _ (W _ (l0 ++ [(k, x)]) ⟨_, _, Xa .., ?_, MapKept.stamped_push hm.st fun e he G => ?_⟩ (fun k2 => QpZ z) ?_)⟩
  ·simp [underlying,ht,o,O,S,m]
  ·simp [F]
  ·obtain ⟨p,hp,M,_⟩:=hm.out he
   have r:=D.inj (M.trans G)
   have:=QrM nd (k:=k) (x:=p.2) (by rw [← r]; exact hp)
   rw [z] at this; cases this
  ·rw [z]; simp
 ·have y:(Instr.keyThatStays (ke k) (ke k)).run P w=.ok (ke k) w:=D.stays w k
  refine ⟨_,_,?_,u (A.modify j fun e=>{ e with key:=ke k,val:=enc x }) E,kk _ (W _ (l0.set j (k,x)) ⟨_,_,Xa ..,?_,MapKept.stamped_modify hm.st j _ (fun _ _=>rfl) fun e' a9 B=>?_⟩ (fun k2=>QuE nd q5) ?_)⟩
  ·simp [underlying,ht,o,O,S,m,R,q4,y]
  ·rw [Array.toList_modify]
   apply List.ext_getElem?
   intro i
   have hi:=congrArg (fun l=>l[i]?) F
   simp only [List.getElem?_map] at hi ⊢
   rw [List.getElem?_modify]
   by_cases hij:j=i
   ·subst hij
    have J:=(List.getElem?_eq_some_iff.1 q5).1
    rw [List.getElem?_set_self J,show A.toList[j]? = some e by simpa using R]
    simp
   ·rw [List.getElem?_set_ne hij]
    simp only [hij,if_false]
    cases hh:A.toList[i]? with
    | none=>rw [hh] at hi; simpa using hi
    | some e'=>rw [hh] at hi; simpa using hi
  ·rw [R] at B; injection B with B; subst B; exact q4.symm
  ·rw [z,List.length_set]; simp
end
section
variable {α κ:Type} [DecidableEq κ] (ke:κ→Value) (enc:α→Value)
end
section
variable {P:Program} {C:Ctx} {Q:Exit→Act→World→Prop} {n:FN} {l:List (Nat×Value)} {H:Heap} {ops:Array Oper} {rest:List Oper} {d:Nat} {ty:TypeId} {pos:String} {after:Array Edge} {g:Option (Nat×Bool)} {α:Type} {κ:Type} [DecidableEq κ] {ke:κ→Value} {enc:α→Value}
end
end
section
open Go
structure UO where
 i:Nat
 d:Nat
 Ψ:Value→HP
 m:∀ v A B,Heap.le A B→Ψ v A→Ψ v B
section
variable {P:Program} {C:Ctx} {Q:Exit→Act→World→Prop} {n:FN} {l:List (Nat×Value)} {H Hs:Heap} {ops:Array Oper} {fuel:Nat} {listed:Array Bool} {todo:List UO}
structure UInv (todo:List UO) (listed:Array Bool) (l:List (Nat×Value)) (H:Heap) (done:List Nat) (listed':Array Bool) (l':List (Nat×Value)) (D:Heap):Prop where
 le:H.le D
 sz:listed'.size=listed.size
 ls:∀ j,listed'[j]? = if j ∈ done then (listed[j]?).map (fun _=>true) else listed[j]?
 sub:∀ j ∈ done,∃ u ∈ todo,u.i=j
 ok:∀ u ∈ todo,u.i ∈ done→∃ v,lk l' u.d=some v∧u.Ψ v D
 fr:∀ t,(∀ u ∈ todo,u.d≠t)→lk l' t=lk l t
def max4 (a b c e:Int):Int:=max (max (max a b) c) e
theorem OV.max4 {d:Nat} {ty:TypeId} {pos:String} {after:Array Edge} {g:Option (Nat×Bool)} {x y z u:Operand} {i:Array TypeId} {k0:IntKind} {a b c e:Int} (hx:opv l x=some (.int k0 a)) (hy:opv l y=some (.int k0 b)) (m:opv l z=some (.int k0 c)) (j:opv l u=some (.int k0 e)) :
 OV P C n l H ⟨some d,.call { callee:=.builtin .max,args:=#[x,y,z,u],argTypes:=i },ty,pos,after,g⟩ (.int k0 (Sx.max4 a b c e)):=fun o w f q=>by
 have h:∀ a b:Int,(if b > a then b else a)=max a b:=fun a b=>by rw [Int.max_def]; split <;> split <;> omega
 simp only [execOp,resolve,invoke,builtin,List.map_toArray,List.map_cons,List.map_nil,f.ev hx,f.ev hy,f.ev m,f.ev j]
 simp [Builtin.max_,Builtin.max2,Sx.max4,h]
end
section
variable {κ α:Type} [DecidableEq κ] {ke:κ→Value} {enc:α→Value} {P:Program} {C:Ctx} {Q:Exit→Act→World→Prop} {n:FN} {l:List (Nat×Value)} {H:Heap} {ops:Array Oper} {rest:List Oper} {ty:TypeId} {pos:String} {after:Array Edge} {g:Option (Nat×Bool)}
theorem XaA {T e:TypeId} {d:Nat} {x:Operand} {v:Value} {K:Nat→HP} (h:nwB T e K H) (r:Wt ops l g) (j:Nat.blt d n.n=true) (hx:opv l x=some v) (i:v.cells = #[.pointer none,.slice none 0 0])
 (k:∀ b H',K b H'→GL P C ops Q n rest ((d,pv (some (b,0)))::l) H'):GL P C ops Q n (⟨some d,.box T x,ty,pos,after,g⟩::rest) l H:=by
 refine GL.run (v:=v) r j fun a w q f=>⟨pv (some (w.heap.size,0)),_,_,?_,f.push (o:=.cells #[.pointer none,.slice none 0 0] T) (g:=.trow T 0 [pv none,slv Sl.nil]) (m:=true) ⟨rfl,rfl,fun _=>.inl rfl⟩,k _ _ (h _ f.fresh)⟩
 simp only [execOp,q.ev hx,Instr.box]
 simp [newVar,Go.newRow,i,pv,adv]
theorem Xar {t b d:TypeId} {X Y Z:Operand} {q:Option Nat} {k:κ} {x:α} {K:HP} (h:upS ke enc q k x K H) (o:Wt ops l g) (hx:opv l X=some (mv q)) (hy:opv l Y=some (ke k)) (r:opv l Z=some (enc x)) (m:P.underlying t=some (.map b d)) (i:KOk P b ke)
 (u:∀ H',K H'→GL P C ops Q n rest l H'):GL P C ops Q n (⟨none,.insert t X Y Z,ty,pos,after,g⟩::rest) l H:=by
 have h0:=XB (ty:=ty) (pos:=pos) (after:=after) h o hx hy r m i u
 intro a w f j
 exact h0 a w f j
def cvT (P:Program) (u:TypeId) (len:Nat) (p:Nat×Nat) (K:Prop) (H:Heap):Prop:=(∃ T m k c,H p.1=some (m,.trow T k c)∧c.length=len∧p.2=0∧liesAt P P.depth T (len / P.cellsOf T) 0 u 1=true)∧K
theorem OV.cvT {x:Operand} {f b u:TypeId} {d:Nat} {len:Nat} {p:Nat×Nat} (h:∃ T m k c,H p.1=some (m,.trow T k c)∧c.length=len∧p.2=0∧liesAt P P.depth T (len / P.cellsOf T) 0 u 1=true) (hx:opv l x=some (pv (some p))) (y:P.underlying f=some .unsafePointer) (t:P.underlying b=some (.pointer u)) (z:∃ j,P.info? u=some j) :
 OV P C n l H ⟨some d,.convert f b x,ty,pos,after,g⟩ (pv (some p)):=by
 obtain ⟨T,m,k,c,i,o,q,r⟩:=h
 exact XaI ⟨m,k,c,i,o,q⟩ hx y t z r
end
end
section
open Go
def Heap.off (s:Sl) (H:Heap):Heap:=fun x=>if s.p.map (fun p=>p.1)=some x then none else H x
theorem Xj (s:Sl) (H:Heap):(H.off s).le H:=fun x e h=>by
 unfold Heap.off at h
 split at h
 ·cases h
 ·exact h
theorem XP (s:Sl) (H:Heap):Fresh (H.off s) s:=fun p hp=>by
 unfold Heap.off; rw [if_pos (by rw [hp]; rfl)]
theorem Xe {s:Sl} {H:Heap} {x:Nat} {e:Bool×GO} (h:H x=some e) (hx:∀ p,s.p=some p→p.1≠x):(H.off s) x=some e:=by
 unfold Heap.off
 rw [if_neg]
 ·exact h
 ·intro b
  obtain ⟨p,hp,rfl⟩:=Option.map_eq_some_iff.1 b
  exact hx p hp rfl
theorem Own.off {H:Heap} {z:Nat} {s:Sl} {cs:List Value} (h:Own H z s cs):OwnF (H.off s) H z s cs:=⟨Xj s H,h,XP s H⟩
theorem Own.mine {H:Heap} {z:Nat} {s:Sl} {cs:List Value} (h:Own H z s cs) {p:Nat×Nat} (hp:s.p=some p):∃ g,H p.1=some (true,g):=by
 obtain ⟨_,_,_,⟨h0,_⟩ | ⟨b,i,d,f,_⟩⟩:=h
 ·rw [h0] at hp; cases hp
 ·rw [d] at hp; injection hp with hp; subst hp; exact ⟨_,f⟩
theorem Qma {H0 H:Heap} {zc:List Value} {bytes:Nat} {s t:Sl} {cs ys:List Value} {K:Sl→HP} (h:OwnF H0 H zc.length s cs) (g:rdsl H t ys) (hy:ys.length=t.len*zc.length) (d:∀ u ∈ ys,u.oneCell' = true)
 (f:(s.len+t.len)*bytes≤140737488355328) (b:s.len+t.len≤9223372036854775807) (k:∀ r H2,OwnF H0 H2 zc.length r (cs++ys)→r.len=s.len+t.len→K r H2):apS zc bytes s t K H:=
 ⟨ys,g,d,Qmb h hy f b k⟩
theorem Qu9 (l:List Str):∀ v ∈ l.map sv,v.oneCell' = true:=by
 intro v b
 obtain ⟨s,_,rfl⟩:=List.mem_map.1 b
 rfl
theorem Qp2 {H:Heap} {b z:Nat} (hb:H b=none):OwnF H (H.put b (.row [])) z (Sl.of (some (b,0)) 0 0) []:=
 ⟨Xc hb,⟨by simp,rfl,Nat.le_refl _,.inr ⟨b,[],rfl,by rw [Xa]; rfl,by simp⟩⟩,fun p hp=>by injection hp with hp; subst hp; exact hb⟩
theorem OwnF.len {H0 H:Heap} {s:Sl} {cs:List Value} (h:OwnF H0 H 1 s cs):s.len=cs.length:=by have:=h.own.1; omega
theorem OwnF.down {H1 H0 H:Heap} {z:Nat} {s:Sl} {cs:List Value} (h:OwnF H0 H z s cs) (hle:H1.le H0):OwnF H1 H z s cs:=⟨hle.trans h.le,h.own,h.fresh.le hle⟩
end
section
open Go
end
section
open Go
def lcells {H:Type}:Nat→DataW H→List Value
 | 0,_=>[]
 | n+1,.lit (.int k x)=>[.int k x]
 | n+1,.lit (.bool b)=>[.bool b]
 | n+1,.lit (.string s)=>[.string ⟨s.toArray⟩]
 | n+1,.agg ds=>ds.flatMap (lcells n)
 | n+1,_=>[]
noncomputable def laidW (P:Program) (os:Os) (l:List (Nat×List Value)):World:=
 { World.holding P os ⟨#[],#[],[]⟩ with heap:=l.foldl (fun h x=>h.modify x.1 (fun o=>match o with | .cells _ t frozen=>.cells x.2.toArray t frozen | o=>o)) (World.holding P os ⟨#[],#[],[]⟩).heap }
section
variable {H:Type} {enc:TypeId×Value→H} {P:Program}
end
end
section
open Go
def PanOut (C:Ctx) (E:Value→HP) (ds0:List Deferred) (ch:List PanicEntry) (ds:List Deferred) (w:World):Prop:=
 ds=ds0∧∃ v H',ch=[{ v,recovered:=false }]∧St C w H'∧E v H'
def PostP (C:Ctx) (Φ:Value→HP) (E:Value→HP):Ending→World→Prop
 | .returned v,w=>∃ H',St C w H'∧Φ v H'
 | .panicked ch,w=>∃ v H',ch=[{ v,recovered:=false }]∧St C w H'∧E v H'
 | .outgrown,_=>False
def SpecP (P:Program) (C:Ctx) (f:FuncId) (args:List Value) (H:Heap) (Φ:Value→HP) (E:Value→HP):Prop:=
 ∀ w,St C w H→Calls P f args.toArray w (PostP C Φ E)
theorem SpecP.mono {P:Program} {C:Ctx} {f:FuncId} {args:List Value} {H:Heap} {Φ Ψ E g:Value→HP} (h:SpecP P C f args H Φ E) (j:∀ v H',Φ v H'→Ψ v H') (i:∀ v H',E v H'→g v H'):SpecP P C f args H Ψ g:=
 fun w m=>(h w m).mono fun e o q=>by
  cases e with
  | returned v=>obtain ⟨H',b,d⟩:=q; exact ⟨H',b,j _ _ d⟩
  | panicked ch=>obtain ⟨v,H',h0,b,d⟩:=q; exact ⟨v,H',h0,b,i _ _ d⟩
  | outgrown=>exact q
section
variable {P:Program} {C:Ctx} {Q:Exit→Act→World→Prop} {n:FN} {l:List (Nat×Value)} {H Hs:Heap} {ops:Array Oper} {rest:List Oper} {d:Nat} {op:Op} {ty:TypeId} {pos:String} {after:Array Edge} {g:Option (Nat×Bool)} {fuel:Nat} {listed:Array Bool} {E:Value→HP}
def SpecPostP (P:Program) (C:Ctx) (fn:Func) (Φ E:Value→HP):Exit→Act→World→Prop
 | .normal,a,w | .ret,a,w=>a.defers=[]∧SpecPost P C fn Φ .ret a w
 | .panic ch,a,w=>PanOut C E [] ch a.defers w
 | _,_,_=>False
theorem SpecPostP.body {b:Func} {Φ:Value→HP}:∀ (e:Exit) (a:Act) (w:World),SpecPostP P C b Φ E e a w→bodyPost P b (PostP C Φ E) e a w
 | .normal,a,w,⟨hd,h⟩ | .ret,a,w,⟨hd,h⟩=>by
  change LeavesInM Fence.wide 0 P b a.tmps (Post C Φ) a.defers .returning w at h
  rw [hd] at h
  obtain ⟨v,hr,u,H',e,h1,h2⟩:=h
  injection e with e; subst e
  exact ⟨hd,v,hr,H',h1,h2⟩
 | .panic _,_,_,⟨hd,h⟩=>⟨hd,h⟩
 | .outgrown,_,_,h=>h.elim
 | .exit _,_,_,h=>h.elim
 | .goto _,_,_,h=>h.elim
theorem SpecP.enter {n:Nat} {f:FuncId} {b:Func} {c:Code} {args:List Value} {Φ:Value→HP} (j:P.funcs[f]? = some b) (i:b.body=some c) (hn:b.ntmps=n)
 (g:Nat.ble args.length n=true) (k:GC P C (SpecPostP P C b Φ E) ⟨n,[]⟩ c (argFrame args) H):SpecP P C f args H Φ E:=by
 intro w m
 refine calls_of_wp j i (wp_mono (k _ w ⟨?_,rfl,?_⟩ m) SpecPostP.body)
 ·have : args.length ≤ n := by simpa using g
  simp [hn]; omega
 ·intro t v h
  have:=(Qj9 args 0 t v h).2
  simp only [Nat.sub_zero] at this
  have d:t < args.length:=(List.getElem?_eq_some_iff.1 this).1
  simp only [Array.getElem?_append,List.size_toArray,d,if_true,List.getElem?_toArray]
  exact this
theorem Xaq {o:Oper} {f:FuncId} {vs:List Value} {Φ:Value→HP} (r:SpecP P C f vs H Φ E) (u:∀ ch a w,Fr n l a→PanOut C E n.ds ch a.defers w→Q (.panic ch) a w) (i:o.dst=some d) (y:Wt ops l g) (hg:o.guard=g) (t:Nat.blt d n.n=true)
 (h:∀ a w,Fr n l a→(execOp a.eval o).run P w=.ok (.enter f vs.toArray) w)
 (k:∀ v H',Φ v H'→GL P C ops Q n rest ((d,v)::l) H'):GL P C ops Q n (o::rest) l H:=by
 intro a w b x
 have hx:=y.wanted (o:=o) hg b
 simp only [wpList,hx,if_true]
 refine .inl ?_
 unfold Oper.wp
 rw [h a w b]
 refine (r w x).mono fun e z j=>?_
 cases e with
 | returned v=>
  obtain ⟨H',m,q⟩:=j
  simp only [i]
  exact k v H' q _ _ (b.put t) m
 | panicked ch=>exact u ch a z b ⟨b.defers,j⟩
 | outgrown=>exact j.elim
theorem Xz {f:FuncId} {xs:Array Operand} {b:Array TypeId} {vs:List Value} {Φ:Value→HP} (j:SpecP P C f vs H Φ E) (q:∀ ch a w,Fr n l a→PanOut C E n.ds ch a.defers w→Q (.panic ch) a w) (r:Wt ops l g) (m:Nat.blt d n.n=true) (h:CallOk P f) (hx:opvs l xs.toList=some vs)
 (k:∀ v H',Φ v H'→GL P C ops Q n rest ((d,v)::l) H'):GL P C ops Q n (⟨some d,.call { callee:=.value (.func f),args:=xs,argTypes:=b },ty,pos,after,g⟩::rest) l H:=
 Xaq j q rfl r rfl m (fun a w o=>by
  have i:xs.map a.eval=vs.toArray:=by apply Array.ext'; simp [o.evs hx]
  simp [execOp,resolve,invoke,Deferred.ofValue,Act.eval,i,Qhm h]) k
theorem OV.makeInterface {t:TypeId} {x:Operand} {u:Value} (hx:opv l x=some u) (ht:(match P.underlying t with | some (.interface _)=>false | some _=>true | none=>false)=true):OV P C n l H ⟨some d,.makeInterface t x,ty,pos,after,g⟩ (.iface t u):=fun ac w hf hs=>by
 cases hu:P.underlying t with
 | none=>rw [hu] at ht; cases ht
 | some dd=>
  rw [hu] at ht
  cases dd <;> first | (cases ht; done) | simp [execOp,Instr.makeInterface,hf.ev hx,underlying,hu]
theorem GL.panic {x:Operand} {t:TypeId} {u:Value} {d0:Option Nat} (h:E (.iface t u) H) (hq:∀ ch a w,Fr n l a→PanOut C E n.ds ch a.defers w→Q (.panic ch) a w) (hw:Wt ops l g) (hx:opv l x=some (.iface t u)) :
 GL P C ops Q n (⟨d0,.panic x,ty,pos,after,g⟩::rest) l H:=by
 intro a w hf hs
 have hx':=hw.wanted (o:=⟨d0,.panic x,ty,pos,after,g⟩) rfl hf
 simp only [wpList,hx',if_true]
 refine .inl ?_
 unfold Oper.wp
 have hr:(execOp a.eval ⟨d0,.panic x,ty,pos,after,g⟩).run P w=.halt (.panic (.iface t u)) w:=by
  simp [execOp,hf.ev hx,Instr.panic,goPanic]
 rw [hr]
 exact hq _ a w hf ⟨hf.defers,_,H,rfl,hs,h⟩
theorem GA.takeP (i:Nat) {v:Value} (hi:ops[i]? = some ⟨some d,op,ty,pos,after,g⟩) (z:Wt ops l g) (y:OV P C n l Hs ⟨some d,op,ty,pos,after,g⟩ v)
 (k:GA P C ops Q n fuel (listed.setIfInBounds i true) ((d,v)::l) H Hs) (q:∀ c a v w,Q (.panic c) (a.put (some d) v) w→Q (.panic c) a w:=by exact fun _ _ _ _ h=>h)
 (x:Region.noSelect ops=true:=by kernel_rfl) (t:Region.free .any ops listed i=true:=by kernel_rfl) (u:(Region.ready .any ops listed).contains i=true:=by kernel_rfl) (r:Nat.blt d n.n=true:=by exact rfl):GA P C ops Q n (fuel+1) listed l H Hs:=by
 intro a w b j f
 exact wpAnyH_take hi x t u (fun c a w h=>q c a _ w h) (.inl ⟨z.wanted (o:=⟨some d,op,ty,pos,after,g⟩) rfl b,fun A m=>y a A b m⟩) f (k _ w (b.put r) j f)
theorem GA.skipP (i:Nat) (hi:ops[i]? = some ⟨some d,op,ty,pos,after,g⟩) (x:Wn ops l g) 
 (k:GA P C ops Q n fuel (listed.setIfInBounds i true) ((d,undef)::l) H Hs) (m:∀ c a v w,Q (.panic c) (a.put (some d) v) w→Q (.panic c) a w:=by exact fun _ _ _ _ h=>h)
 (u:Region.noSelect ops=true:=by kernel_rfl) (r:Region.free .any ops listed i=true:=by kernel_rfl) (t:(Region.ready .any ops listed).contains i=true:=by kernel_rfl) (q:Nat.blt d n.n=true:=by exact rfl):GA P C ops Q n (fuel+1) listed l H Hs:=by
 intro a w b j f
 exact wpAnyH_take hi u r t (fun c a w h=>m c a _ w h) (.inr ⟨x.wanted (o:=⟨some d,op,ty,pos,after,g⟩) rfl b,rfl⟩) f (k _ w (b.put q) j f)
theorem GT.takeP {t:Nat} (i:Nat) {v:Value} (hi:ops[i]? = some ⟨some d,op,ty,pos,after,g⟩) (I:Wt ops l g) (G:OV P C n l Hs ⟨some d,op,ty,pos,after,g⟩ v)
 (k:GT P C ops Q n t fuel (listed.setIfInBounds i true) ((d,v)::l) H Hs) (B:∀ c a v w,Q (.panic c) (a.put (some d) v) w→Q (.panic c) a w:=by exact fun _ _ _ _ h=>h)
 (u:tailOk ops t=true:=by kernel_rfl) (E:Region.free .any ops listed i=true:=by kernel_rfl) (F:(Region.ready .any ops listed).contains i=true:=by kernel_rfl) (m:Nat.blt i t=true:=by exact rfl) (D:Nat.blt d n.n=true:=by exact rfl):GT P C ops Q n t (fuel+1) listed l H Hs:=by
 intro a w b q f j
 simp only [tailOk,Ve,Vj] at u
 obtain ⟨⟨⟨x,y⟩,z⟩,A⟩:=u
 have hr':i ∈ Region.ready .any ops listed:=by simpa using F
 have hit':i < t:=by simpa using m
 exact Qr8 hi (Region.noSelect_spec x) z A y hit' (fun c a w h => B c a _ w h) fuel listed a w j (Region.free_spec hi E) hr'
  (.inl ⟨I.wanted (o:=⟨some d,op,ty,pos,after,g⟩) rfl b,fun J r=>G a J b r⟩) f (k _ w (b.put D) q f (j.set hr' hit'))
def SpecPostD (P:Program) (C:Ctx) (fn:Func) (Φ:Value→HP):Exit→Act→World→Prop
 | .normal,a,w | .ret,a,w=>Leaves P fn a.tmps (Post C Φ) a.defers .returning w
 | .panic ch,a,w=>Leaves P fn a.tmps (Post C Φ) a.defers (.panicking ch) w
 | _,_,_=>False
theorem SpecPostD.body {fn:Func} {Φ:Value→HP}:∀ (e:Exit) (a:Act) (w:World),SpecPostD P C fn Φ e a w→bodyPostD P fn (Post C Φ) e a w
 | .normal,_,_,h=>h
 | .ret,_,_,h=>h
 | .panic _,_,_,h=>h
 | .outgrown,_,_,h=>h.elim
 | .exit _,_,_,h=>h.elim
 | .goto _,_,_,h=>h.elim
theorem Xae {n:Nat} {f:FuncId} {b:Func} {c:Code} {args:List Value} {Φ:Value→HP} (j:P.funcs[f]? = some b) (i:b.body=some c) (hn:b.ntmps=n)
 (g:Nat.ble args.length n=true) (k:GC P C (SpecPostD P C b Φ) ⟨n,[]⟩ c (argFrame args) H):Spec P C f args H Φ:=by
 intro w m
 refine calls_of_wp_defers j i (wp_mono (k _ w ⟨?_,rfl,?_⟩ m) SpecPostD.body)
 ·have : args.length ≤ n := by simpa using g
  simp [hn]; omega
 ·intro t v h
  have:=(Qj9 args 0 t v h).2
  simp only [Nat.sub_zero] at this
  have d:t < args.length:=(List.getElem?_eq_some_iff.1 this).1
  simp only [Array.getElem?_append,List.size_toArray,d,if_true,List.getElem?_toArray]
  exact this
theorem postD {b:Func} {Φ:Value→HP} {m:Nat} {a:Act} {w:World} (d:Fr ⟨m,[]⟩ l a) (h:SpecPost P C b Φ .ret a w):SpecPostD P C b Φ .ret a w:=by
 change LeavesInM Fence.wide 0 P b a.tmps (Post C Φ) a.defers .returning w at h
 show Leaves P b a.tmps (Post C Φ) a.defers .returning w
 rw [d.defers] at h ⊢
 exact h
def dfd (f:FuncId) (cs:List Value):Deferred:={ target:=.fn (.func f) cs.toArray,args:=#[] }
theorem GL.defer {f:FuncId} {cs:List Value} {x:Operand} {b:Array TypeId} (m:Wt ops l g) (hx:opv l x=some (.func (.func f) (List.toArray []) cs.toArray)) (k:GL P C ops Q ⟨n.n,dfd f cs::n.ds⟩ rest l H) :
 GL P C ops Q n (⟨none,.defer { callee:=.value x,args:=#[],argTypes:=b },ty,pos,after,g⟩::rest) l H:=by
 intro a w d j
 have hx':=m.wanted (o:=⟨none,.defer { callee:=.value x,args:=#[],argTypes:=b },ty,pos,after,g⟩) rfl d
 simp only [wpList,hx',if_true]
 refine .inl ?_
 unfold Oper.wp
 have i:(execOp a.eval ⟨none,.defer { callee:=.value x,args:=#[],argTypes:=b },ty,pos,after,g⟩).run P w=.ok (.defer (dfd f cs)) w:=by
  simp [execOp,resolve,d.ev hx,Deferred.ofValue,dfd]
 rw [i]
 exact k _ w ⟨d.size,by show dfd f cs::a.defers=_; rw [d.defers],fun t v h=>d.get t v h⟩ j
def SpecD (P:Program) (C:Ctx) (f:FuncId) (cs:List Value) (u:FrameMode) (H:Heap) (R:FrameMode→HP):Prop:=
 ∀ w,St C w H→CallsD P f cs.toArray u w fun e u' w'=>(∃ v,e=.returned v)∧∃ H',St C w' H'∧R u' H'
theorem SpecD.mono {f:FuncId} {cs:List Value} {u:FrameMode} {R R2:FrameMode→HP} (h:SpecD P C f cs u H R) (i:∀ u' H',R u' H'→R2 u' H'):SpecD P C f cs u H R2:=
 fun w j=>(h w j).mono fun e u' m ⟨b,H',d,g⟩=>⟨b,H',d,i _ _ g⟩
theorem res3 {α β:Type} {c1:α→List Value} {c2:β→List Value} {K:α→β→Int→HP} {fn:Func} {x1 x2 x3:Nat} {t1 t2 t3:TypeId} {p1 p2 p3:Nat×Nat} {a:Act} {w:World} (hr:fn.results = #[.cell x1 t1,.cell x2 t2,.cell x3 t3])
 (l1:lk l x1=some (pv (some p1))) (l2:lk l x2=some (pv (some p2))) (l3:lk l x3=some (pv (some p3))) (a1:aggT P t1=true) (i1:∀ x,(P.info? t1).map (·.size)=some (c1 x).length) (a2:aggT P t2=true) (i2:∀ x,(P.info? t2).map (·.size)=some (c2 x).length) (a3:aggB P t3=false)
 (hf:Fr n l a) (hw:St C w H) (h:ldT H c1 p1 fun x=>ldT H c2 p2 fun y=>ldI H .i64 p3 fun z=>K x y z H) :
 ∃ v,(results fn a.tmps).run P w=.ok v w∧Post C (fun v H2=>∃ r0 r1 r2,v=.tuple #[.agg (c1 r0).toArray,.agg (c2 r1).toArray,.int .i64 r2]∧K r0 r1 r2 H2) (.returned v) w:=by
 obtain ⟨x,hx,y,hy,z,hz,hk⟩:=h
 refine ⟨_,?_,_,H,rfl,hw,x,y,z,rfl,hk⟩
 rcases (Xn (P:=P) (C:=C) l1 a1 (i1 x) hx).run hf hw with ⟨t,e0,e⟩ | ⟨_,t,p,e0,e,e2⟩ <;> cases e0
 rcases (Xn (P:=P) (C:=C) l2 a2 (i2 y) hy).run hf hw with ⟨t',e0,e'⟩ | ⟨_,t',p',e0,e',e2'⟩ <;> cases e0
 rcases (RV.cell (P:=P) (C:=C) l3 a3 hz).run hf hw with ⟨t'',e0,e''⟩ | ⟨_,t'',p'',e0,e'',e2''⟩ <;> cases e0
 simp_all [results,pv,asAddr]
theorem QpY {d : Func} {R : Ending → World → Prop} {f : FuncId} {cs : List Value} {u : FrameMode} {b : Array Value} {w : World} {X : Heap → Prop} (q : u ≠ .run) (g : CallOk P f) (r : St C w H) (h : SpecD P C f cs u H fun u' H2 => settle u' = .returning ∧ X H2)
 (k:∀ w' H2,St C w' H2→X H2→∃ v,(results d b).run P w' = .ok v w'∧R (.returned v) w'):Leaves P d b R [dfd f cs] u w:=by
 refine leaves_cons (f:=f) (args:=cs.toArray) q (by simp [invoke,Qhm g]) ((h w r).mono fun e u' w' ⟨⟨v,m⟩,H2,o,i,j⟩=>?_)
 subst m
 show Leaves P d b R [] (settle u') w'
 rw [i]
 exact k w' H2 o j
theorem QvU {α β:Type} (b:α→List Value) (d:β→List Value) {K:α→β→Int→HP} {g:Func} {D E F:Nat} {j o B:TypeId} {t p2 A:Nat×Nat} {f:FuncId} {cs:List Value} {m:Nat} {a:Act} {w:World} (M:g.results = #[.cell D j,.cell E o,.cell F B])
 (S:lk l D=some (pv (some t))) (l2:lk l E=some (pv (some p2))) (T:lk l F=some (pv (some A))) (G:aggT P j=true) (Q:∀ x,(P.info? j).map (·.size)=some (b x).length) (I:aggT P o=true) (R:∀ x,(P.info? o).map (·.size)=some (d x).length) (J:aggB P B=false)
 (i:CallOk P f) (r:Fr ⟨m,[dfd f cs]⟩ l a) (O:St C w H) (h:SpecD P C f cs .returning H fun u H2=>u=.returning∧ldT H2 b t fun x=>ldT H2 d p2 fun y=>ldI H2 .i64 A fun z=>K x y z H2) :
 SpecPostD P C g (fun v H2=>∃ r0 r1 r2,v=.tuple #[.agg (b r0).toArray,.agg (d r1).toArray,.int .i64 r2]∧K r0 r1 r2 H2) .ret a w:=by
 show Leaves P g a.tmps _ a.defers .returning w
 rw [r.defers]
 exact QpY (by simp) i O (h.mono fun u' H2 ⟨e,q⟩=>⟨by rw [e]; rfl,q⟩) fun U H2 N L=>res3 M S l2 T G Q I R J r N L
theorem Qmq {α β:Type} (b:α→List Value) (d:β→List Value) {K:α→β→Int→HP} {g:Func} {A B D:Nat} {j o t:TypeId} {q p2 r:Nat×Nat} {f:FuncId} {cs:List Value} {m:Nat} (O:g.results = #[.cell A j,.cell B o,.cell D t])
 (S:lk l A=some (pv (some q))) (l2:lk l B=some (pv (some p2))) (T:lk l D=some (pv (some r))) (F:aggT P j=true) (Q:∀ x,(P.info? j).map (·.size)=some (b x).length) (G:aggT P o=true) (R:∀ x,(P.info? o).map (·.size)=some (d x).length) (H:aggB P t=false)
 (h:CallOk P f) (I:∀ v H3,E v H3→SpecD P C f cs (.panicking [⟨v,false,false⟩]) H3 fun u H2=>settle u=.returning∧ldT H2 b q fun x=>ldT H2 d p2 fun y=>ldI H2 .i64 r fun z=>K x y z H2) :
 ∀ ch a w,Fr ⟨m,[dfd f cs]⟩ l a→PanOut C E [dfd f cs] ch a.defers w→SpecPostD P C g (fun v H2=>∃ r0 r1 r2,v=.tuple #[.agg (b r0).toArray,.agg (d r1).toArray,.int .i64 r2]∧K r0 r1 r2 H2) (.panic ch) a w:=by
 rintro ch a w N ⟨L,v,H3,rfl,i,M⟩
 show Leaves P g a.tmps _ a.defers (.panicking _) w
 rw [L]
 exact QpY (by simp) h i (I v H3 M) fun U H2 i J=>res3 O S l2 T F Q G R H N i J
end
def kI (x:Int):Value:=.int .i64 x
theorem kInt {P:Program} {m:TypeId} (i:P.underlying m=some (.int .i64)):KOk P m kI where
 inj:=fun h=>by injection h
 check:=fun w em k=>MapKept.run_checkKey i (k:=kI k) rfl em 9999
 find:=fun w k o b=>by
  rcases MapKept.findNow_spec (d:=.int .i64) (k:=kI k) rfl o 0 (fun e r=>by obtain ⟨k',hk'⟩:=b e r; rw [hk']; exact rfl) with ⟨f,g⟩ | ⟨j,e,f,g,q⟩
  ·exact .inl ⟨MapKept.run_findKey i f,g⟩
  ·rw [Nat.zero_add] at f
   exact .inr ⟨j,e,MapKept.run_findKey i f,g,q⟩
 stays:=fun w k=>MapKept.run_keyThatStays (d:=.int .i64) (k:=kI k) rfl
def kp3 (p:Str×Str×Int):Value:=.agg #[sv p.1,sv p.2.1,.int .i64 p.2.2]
def isI64 (P:Program) (t:TypeId):Bool:=match P.underlying t with
 | some (.int .i64)=>true
 | _=>false
theorem QvH {P:Program} {t:TypeId} (h:isI64 P t=true):P.underlying t=some (.int .i64):=by
 unfold isI64 at h
 split at h
 ·assumption
 ·cases h
def tripT (P:Program) (kt:TypeId):Bool:=(match P.underlying kt with
 | some (.struct fs) => (match fs.toList with
  | [f0, f1, f2] => f0.name != "_" && f1.name != "_" && f2.name != "_" && f0.offset == 0 && f1.offset == 1 && f2.offset == 2 && isTxt P f0.type && isTxt P f1.type && isI64 P f2.type
  | _=>false)
 | _=>false) && !P.stoodInHeld kt
theorem QvP {P:Program} {w:World} {t:TypeId} {cs:Array Value} {i:Nat} {v:Value} (d:P.underlying t=some (.int .i64)) (f:cs[i]? = some v):(part t cs i).run P w=.ok v w:=by
 have b:(isAgg t).run P w=.ok false w:=by simp [isAgg,d,underlying]
 simp [part,b,f]
theorem QuC {a b:Str×Str×Int} (h:kp3 a=kp3 b):a=b:=by
 unfold kp3 at h
 injection h with h
 have h:=congrArg Array.toList h
 simp only [List.cons.injEq,and_true,Value.int.injEq,true_and] at h
 exact Prod.ext (Qu8 h.1) (Prod.ext (Qu8 h.2.1) h.2.2)
theorem kTrip {P:Program} {q:TypeId} (h:tripT P q=true):KOk P q kp3:=by
 unfold tripT at h
 rw [Ve] at h
 obtain ⟨h,C⟩:=h
 cases hu:P.underlying q with
 | none=>rw [hu] at h; cases h
 | some d=>
 rw [hu] at h
 cases d <;> simp only [Bool.false_eq_true] at h
 rename_i fs
 cases hfs:fs.toList with
 | nil=>rw [hfs] at h; cases h
 | cons O l=>
 cases l with
 | nil=>rw [hfs] at h; cases h
 | cons Q l=>
 cases l with
 | nil=>rw [hfs] at h; cases h
 | cons R l=>
 cases l with
 | cons _ _=>rw [hfs] at h; cases h
 | nil=>
 rw [hfs] at h
 simp only [Ve,bne_iff_ne,ne_eq,beq_iff_eq] at h
 obtain ⟨⟨⟨⟨⟨⟨⟨⟨n0,n1⟩,n2⟩,o0⟩,o1⟩,o2⟩,K⟩,L⟩,s2⟩:=h
 have C:P.stoodInHeld q=false:=by simpa using C
 have K:=Qs6 K
 have L:=Qs6 L
 have s2:=QvH s2
 have I:∀ (w:World) (x y:Str) (z:Int),(part O.type #[sv x,sv y,.int .i64 z] O.offset).run P w=.ok (sv x) w:=fun w x y z=>QrR K (by rw [o0]; rfl)
 have J:∀ (w:World) (x y:Str) (z:Int),(part Q.type #[sv x,sv y,.int .i64 z] Q.offset).run P w=.ok (sv y) w:=fun w x y z=>QrR L (by rw [o1]; rfl)
 have p2:∀ (w:World) (x y:Str) (z:Int),(part R.type #[sv x,sv y,.int .i64 z] R.offset).run P w=.ok (.int .i64 z) w:=fun w x y z=>QvP s2 (by rw [o2]; rfl)
 have B:∀ (w:World) (a b:Str×Str×Int),(Op.equal q (kp3 a) (kp3 b)).run P w=.ok (decide (a=b)) w:=fun w a b=>by
  have e0:∀ (m:Nat) (t:TypeId) (x y:Str),P.underlying t=some .string→(Op.equalIn (m+1) t (sv x) (sv y)).run P w=.ok (decide (x=y)) w:=fun m t x y D=>by
   unfold sv
   have:((⟨x.toArray⟩:ByteArray) == ⟨y.toArray⟩)=decide (x=y):=by
    rw [Vn,MapKept.bytes_beq,decide_eq_true_iff]
    exact ⟨fun e=>by
     injection e with e
     have:=congrArg Array.toList e
     simpa using this,fun e=>by rw [e]⟩
   simp [Op.equalIn,underlying,D,this]
  have U:∀ (m:Nat) (t:TypeId) (x y:Int),P.underlying t=some (.int .i64)→(Op.equalIn (m+1) t (.int .i64 x) (.int .i64 y)).run P w=.ok (decide (x=y)) w:=fun m t x y D=>by
   have e:(x == y)=decide (x=y):=by rw [Vn]; simp
   simp [Op.equalIn,underlying,D,e]
  unfold Op.equal
  show (Op.equalIn (9998+1+1) q (kp3 a) (kp3 b)).run P w=_
  unfold kp3
  rw [Op.equalIn]
  simp only [Sem.run_bind,run_underlying hu,Result.andThen_ok,run_program,C]
  rw [← Array.forIn_toList,hfs]
  have M:∀ (x y:Str),(Op.equalIn 9999 O.type (sv x) (sv y)).run P w=.ok (decide (x=y)) w:=fun x y=>e0 9998 _ _ _ K
  have r:∀ (x y:Str),(Op.equalIn 9999 Q.type (sv x) (sv y)).run P w=.ok (decide (x=y)) w:=fun x y=>e0 9998 _ _ _ L
  have Z:∀ (x y:Int),(Op.equalIn 9999 R.type (.int .i64 x) (.int .i64 y)).run P w=.ok (decide (x=y)) w:=fun x y=>U 9998 _ _ _ s2
  simp only [List.forIn_cons,n0,n1,n2,ne_eq,not_false_eq_true,if_true]
  obtain ⟨a1,a2,a3⟩:=a
  obtain ⟨b1,b2,b3⟩:=b
  dsimp only
  by_cases u:a1=b1
  ·by_cases E:a2=b2
   ·by_cases N:a3=b3
    ·simp [u,E,N,I,J,p2,M,r,Z]
    ·simp [u,E,N,I,J,p2,M,r,Z]
   ·simp [u,E,I,J,M,r]
  ·simp [u,I,J,M,r]
 refine ⟨QuC,fun w em k=>?_,fun w k f g=>?_,fun w k=>?_⟩
 ·have e0 : ∀ (m : Nat) (t : TypeId) (x : Str), P.underlying t = some .string → (Instr.checkKey em (m + 1) t (sv x)).run P w = .ok () w := fun m t x D => by
   simp [Instr.checkKey,underlying,D,sv]
  have U:∀ (m:Nat) (t:TypeId) (x:Int),P.underlying t=some (.int .i64)→(Instr.checkKey em (m+1) t (.int .i64 x)).run P w=.ok () w:=fun m t x D=>by
   simp [Instr.checkKey,underlying,D]
  show (Instr.checkKey em (9998+1+1) q (kp3 k)).run P w=_
  unfold kp3
  rw [Instr.checkKey]
  simp only [Sem.run_bind,run_underlying hu,Result.andThen_ok]
  rw [← Array.forIn_toList,hfs]
  simp [Sem.run_bind,n0,n1,n2,I,J,p2,e0 9998 _ _ K,e0 9998 _ _ L,U 9998 _ _ s2]
 ·have F : Instr.findNow (.struct fs) (kp3 k) f 0 = none ∨ f = [] := by
   cases f with
   | nil=>exact .inr rfl
   | cons e f=>exact .inl (by unfold kp3; simp [Instr.findNow,Instr.sameNow])
  have G:(Instr.findKey q (kp3 k) f).run P w=(Instr.findAsking q (kp3 k) f).run P w:=by
   unfold Instr.findKey
   simp only [Sem.run_bind,run_underlying hu,Result.andThen_ok]
   rcases F with h | rfl
   ·rw [h]
   ·simp [Instr.findNow,Instr.findAsking]
  rw [G]
  have H:∀ (f:List MapEntry) (i:Nat),(∀ e ∈ f,∃ W,e.key=kp3 W)→((Instr.findAsking q (kp3 k) f i).run P w=.ok none w∧∀ e ∈ f,e.key≠kp3 k)∨∃ j e,(Instr.findAsking q (kp3 k) f i).run P w=.ok (some (i+j,e.val)) w∧f[j]? = some e∧e.key=kp3 k:=by
   intro f
   induction f with
   | nil=>intro i _; exact .inl ⟨by simp [Instr.findAsking],fun e S=>by cases S⟩
   | cons e f ih=>
    intro i g
    obtain ⟨W,o⟩:=g e (List.mem_cons_self ..)
    by_cases hkk:k=W
    ·subst hkk
     exact .inr ⟨0,e,by simp [Instr.findAsking,o,B],rfl,o⟩
    ·have T : e.key ≠ kp3 k := fun r => hkk (by
      rw [o] at r
      exact (QuC r).symm)
     rcases ih (i+1) fun e S=>g e (List.mem_cons_of_mem _ S) with ⟨X,Y⟩ | ⟨j,r,X,Y,q3⟩
     ·refine .inl ⟨by simp [Instr.findAsking, o, B, hkk, X], fun e' A => ?_⟩
      rcases List.mem_cons.1 A with rfl | A
      ·exact T
      ·exact Y e' A
     ·exact .inr ⟨j+1,r,by simp [Instr.findAsking,o,B,hkk,X]; omega,by simpa using Y,q3⟩
  rcases H f 0 g with h | ⟨j,e,u,E,N⟩
  ·exact .inl h
  ·rw [Nat.zero_add] at u; exact .inr ⟨j,e,u,E,N⟩
 ·have hs : Instr.sameBits 10000 (kp3 k) (kp3 k) = true := by
   unfold kp3
   show Instr.sameBits (9999+1) _ _=true
   simp only [Instr.sameBits,beq_self_eq_true,Bool.true_and,List.all_eq_true]
   intro p hp
   simp at hp
   rcases hp with rfl | rfl | rfl <;> simp [Instr.sameBits,sv,MapKept.bytes_beq]
  simp [Instr.keyThatStays,hs]
end
section
open Go
noncomputable def csEq (xs ys:List Value):Bool:=@decide (xs=ys) (Classical.propDecidable _)
theorem Qjc {xs ys:List Value}:csEq xs ys=true↔xs=ys:=by unfold csEq; exact @decide_eq_true_iff _ (Classical.propDecidable _)
inductive CK where
 | int (k:IntKind)
 | str
def CK.is:CK→Value→Prop
 | .int k,.int k' _=>k' = k
 | .str,.string _=>True
 | _,_=>False
def typedK:List CK→List Value→Prop
 | [],[]=>True
 | k::ks,v::vs=>k.is v∧typedK ks vs
 | _,_=>False
theorem typedK.len:∀ {ks:List CK} {vs:List Value},typedK ks vs→vs.length=ks.length
 | [],[],_=>rfl
 | k::ks,v::vs,h=>by simp [typedK.len h.2]
 | [],_::_,h=>h.elim
 | _::_,[],h=>h.elim
theorem typedK.split:∀ {a b:List CK} {vs:List Value},typedK (a++b) vs→typedK a (vs.take a.length)∧typedK b (vs.drop a.length)
 | [],b,vs,h=>⟨by simp [typedK],by simpa using h⟩
 | k::a,b,v::vs,h=>by
  have ih:=typedK.split (a:=a) (b:=b) h.2
  exact ⟨by simpa [typedK] using ⟨h.1,ih.1⟩,by simpa using ih.2⟩
 | k::a,b,[],h=>h.elim
def szOk (P:Program) (t:TypeId) (n:Nat):Bool:=match P.underlying t with
 | some (.struct _)=>(P.info? t).map (·.size) == some n
 | _=>true
mutual
def ckT (P:Program):Nat→TypeId→Option (List CK)
 | 0,_=>none
 | d + 1, t => match P.underlying t with
  | some (.int k)=>some [.int k]
  | some .string=>some [.str]
  | some (.struct fs)=>if P.stoodInHeld t then none else ckF P d 0 fs.toList
  | _=>none
def ckF (P:Program):Nat→Nat→List Field→Option (List CK)
 | _,_,[]=>some []
 | 0,_,_::_=>none
 | d + 1, off, f :: r => if f.name == "_" || f.offset != off then none else match ckT P d f.type with
  | none=>none
  | some ks=>if szOk P f.type ks.length=true then (ckF P d (off+ks.length) r).map (ks++·) else none
end
def wrapT (P:Program) (t:TypeId) (cs:List Value):Value:=match P.underlying t with
 | some (.struct _)=>.agg cs.toArray
 | _=>cs.headD undef
theorem QrS {P:Program} {w:World} {t:TypeId} {d:Nat} {b:List CK} {cs:List Value} {off:Nat} (h:ckT P d t=some b) (f:szOk P t b.length=true)
 (y:typedK b ((cs.drop off).take b.length)):(part t cs.toArray off).run P w=.ok (wrapT P t ((cs.drop off).take b.length)) w:=by
 have x:=y.len
 cases d with
 | zero=>simp [ckT] at h
 | succ d=>
  simp only [ckT] at h
  have o:∀ k,b=[k]→(isAgg t).run P w=.ok false w→(match P.underlying t with | some (.struct _)=>False | _=>True)→(part t cs.toArray off).run P w=.ok (wrapT P t ((cs.drop off).take b.length)) w:=fun k u i hn=>by
   subst u
   have h0:off < cs.length:=by
    simp only [List.length_take,List.length_drop,Vd,Vk] at x; omega
   have e:(cs.drop off).take [k].length=[cs[off]]:=by
    rw [List.length_singleton,List.drop_eq_getElem_cons h0]; rfl
   rw [e]
   have g:wrapT P t [cs[off]]=cs[off]:=by
    unfold wrapT
    split
    ·rename_i r; rw [r] at hn; exact hn.elim
    ·rfl
   rw [g]
   simp [part,i,h0]
  cases hu:P.underlying t with
  | none=>rw [hu] at h; cases h
  | some q=>
   rw [hu] at h
   cases q <;> simp only [reduceCtorEq] at h
   case int k=>injection h with h; exact o _ h.symm (by simp [isAgg,underlying,hu]) (by rw [hu]; trivial)
   case string=>injection h with h; exact o _ h.symm (by simp [isAgg,underlying,hu]) (by rw [hu]; trivial)
   case struct fs=>
    unfold szOk at f
    rw [hu] at f
    simp only [beq_iff_eq] at f
    cases hi:P.info? t with
    | none=>rw [hi] at f; cases f
    | some m=>
     rw [hi] at f
     have j:m.size=b.length:=by simpa using f
     have i:(isAgg t).run P w=.ok true w:=by simp [isAgg,underlying,hu]
     have e:wrapT P t ((cs.drop off).take b.length)=.agg ((cs.drop off).take b.length).toArray:=by unfold wrapT; rw [hu]
     rw [e]
     have g:cs.toArray.extract off (off+b.length)=((cs.drop off).take b.length).toArray:=by
      apply Array.ext'
      simp [List.extract_eq_take_drop]
     simp only [part,Sem.run_bind,i,Result.andThen_ok,if_true]
     simp [Go.sizeOf,typeInfo,hi,j,g]
mutual
theorem Qnh {P:Program} {w:World}:∀ (d:Nat) {t:TypeId} {ks:List CK} {a b:List Value} (e:Nat),ckT P d t=some ks→typedK ks a→typedK ks b→d≤e→(Op.equalIn e t (wrapT P t a) (wrapT P t b)).run P w=.ok (csEq a b) w
 | 0,t,ks,a,b,e,h,_,_,_=>by simp [ckT] at h
 | d+1,t,ks,a,b,0,h,_,_,he=>absurd he (by omega)
 | d+1,t,ks,a,b,e+1,h,ha,hb,he=>by
  simp only [ckT] at h
  cases hu:P.underlying t with
  | none=>rw [hu] at h; cases h
  | some dd=>
   rw [hu] at h
   cases dd <;> simp only [reduceCtorEq] at h
   case int k=>
    injection h with h
    subst h
    match a,b,ha,hb with
    | [.int k1 x],[.int k2 y],⟨h1,_⟩,⟨h2,_⟩=>
     have e0:∀ v:Value,wrapT P t [v]=v:=fun v=>by unfold wrapT; rw [hu]; rfl
     rw [e0,e0,h1,h2]
     have e1:(x == y)=csEq [.int k x] [.int k y]:=by
      rw [Vn,Qjc]; simp
     simp [Op.equalIn,underlying,hu,e1]
   case string=>
    injection h with h
    subst h
    match a,b,ha,hb with
    | [.string x],[.string y],_,_=>
     have e0:∀ v:Value,wrapT P t [v]=v:=fun v=>by unfold wrapT; rw [hu]; rfl
     rw [e0,e0]
     have e1:(x == y)=csEq [.string x] [.string y]:=by
      rw [Vn,Qjc,MapKept.bytes_beq]; simp
     simp [Op.equalIn,underlying,hu,e1]
   case struct fs=>
    split at h
    ·cases h
    ·rename_i hst
     have e0:∀ c:List Value,wrapT P t c=.agg c.toArray:=fun c=>by unfold wrapT; rw [hu]
     rw [e0,e0,Op.equalIn]
     simp only [Sem.run_bind,run_underlying hu,Result.andThen_ok,run_program]
     rw [if_neg hst]
     rw [← Array.forIn_toList]
     have this:=QoC (w:=w) d (fs:=fs.toList) (off:=0) (a:=a) (b:=b) e h (by simpa using ha) (by simpa using hb) (by simpa using ha.len) (by simpa using hb.len) (by omega)
     simp only [List.drop_zero] at this
     simp at this ⊢
     refine Eq.trans (congrArg (Result.andThen _) (funext fun r=>funext fun w'=>?_)) this
     obtain ⟨o,_⟩:=r
     cases o <;> rfl
theorem QoC {P:Program} {w:World}:∀ (d:Nat) {fs:List Field} {off:Nat} {ks:List CK} {a b:List Value} (e:Nat),ckF P d off fs=some ks→typedK ks (a.drop off)→typedK ks (b.drop off)→(a.drop off).length=ks.length→(b.drop off).length=ks.length→d≤e→
 ((forIn fs (none,()) (fun (f:Field) (__s:Option Bool×Unit)=>
  if f.name ≠ "_" then do
   let x ← part f.type a.toArray f.offset
   let y ← part f.type b.toArray f.offset
   let r ← Op.equalIn e f.type x y
   if (!r)=true then pure (ForInStep.done (some false,())) else pure (ForInStep.yield (none,()))
  else pure (ForInStep.yield (none,())):Field→Option Bool×Unit→Sem (ForInStep (Option Bool×Unit))):Sem (Option Bool×Unit)) >>= fun r=>match r.1 with | some b=>pure b | none=>pure true).run P w=.ok (csEq (a.drop off) (b.drop off)) w
 | _,[],off,ks,a,b,e,h,ha,hb,hla,hlb,he=>by
  simp only [ckF] at h
  injection h with h
  subst h
  have h1:a.drop off=[]:=List.length_eq_zero_iff.1 hla
  have h2:b.drop off=[]:=List.length_eq_zero_iff.1 hlb
  rw [h1,h2]
  have:csEq [] []=true:=Qjc.2 rfl
  simp [this]
 | 0,f::r,off,ks,a,b,e,h,_,_,_,_,_=>by simp [ckF] at h
 | d+1,f::r,off,ks,a,b,e,h,ha,hb,hla,hlb,he=>by
  simp only [ckF] at h
  split at h
  ·cases h
  ·rename_i hn
   simp only [Bool.or_eq_true,beq_iff_eq,bne_iff_ne,ne_eq,not_or,Decidable.not_not] at hn
   obtain ⟨hn,hoff⟩:=hn
   cases hk:ckT P d f.type with
   | none=>rw [hk] at h; cases h
   | some k1=>
    rw [hk] at h
    dsimp only at h
    split at h
    ·rename_i hsz
     cases hr:ckF P d (off+k1.length) r with
     | none=>rw [hr] at h; cases h
     | some k2=>
      rw [hr] at h
      simp only [Option.map_some,Option.some.injEq] at h
      subst h
      obtain ⟨a1,a2⟩:=ha.split
      obtain ⟨b1,b2⟩:=hb.split
      rw [List.drop_drop] at a2 b2
      have p1:=QrS (w:=w) hk hsz a1
      have p2:=QrS (w:=w) hk hsz b1
      have q:=Qnh (w:=w) d e hk a1 b1 (by omega)
      rw [List.forIn_cons]
      rw [hoff]
      simp only [ne_eq,hn,not_false_eq_true,if_true,Sem.run_bind,p1,p2,q,Result.andThen_ok]
      simp only [Va] at hla hlb
      have ea:a.drop off=(a.drop off).take k1.length++a.drop (off+k1.length):=by
       rw [← List.drop_drop]; exact (List.take_append_drop _ _).symm
      have eb:b.drop off=(b.drop off).take k1.length++b.drop (off+k1.length):=by
       rw [← List.drop_drop]; exact (List.take_append_drop _ _).symm
      cases hc:csEq ((a.drop off).take k1.length) ((b.drop off).take k1.length) with
      | true=>
       have ih:=QoC (w:=w) d (a:=a) (b:=b) e hr a2 b2 (by rw [← List.drop_drop,List.length_drop]; omega) (by rw [← List.drop_drop,List.length_drop]; omega) (by omega)
       have e3:csEq (a.drop (off+k1.length)) (b.drop (off+k1.length))=csEq (a.drop off) (b.drop off):=by
        rw [Vn,Qjc,Qjc]
        rw [Qjc] at hc
        constructor
        ·intro h; rw [ea,eb,hc,h]
        ·intro h; rw [← List.drop_drop,← List.drop_drop,h]
       rw [e3] at ih
       simp only [Sem.run_bind] at ih
       simpa using ih
      | false=>
       have e3:csEq (a.drop off) (b.drop off)=false:=by
        cases hcc:csEq (a.drop off) (b.drop off) with
        | false=>rfl
        | true=>
         rw [Qjc] at hcc
         have:csEq ((a.drop off).take k1.length) ((b.drop off).take k1.length)=true:=Qjc.2 (by rw [hcc])
         rw [hc] at this; cases this
       rw [e3]
       simp
    ·cases h
end
section
variable {P:Program} {C:Ctx} {n:FN} {l:List (Nat×Value)} {H:Heap} {d:Nat} {ty:TypeId} {pos:String} {after:Array Edge} {g:Option (Nat×Bool)}
theorem XaB {t yt:TypeId} {x y:Operand} {a b:List Value} (f:List CK) (hx:opv l x=some (.agg a.toArray)) (hy:opv l y=some (.agg b.toArray)) (A:aggT P t=true) (h:ckT P 100 t=some f) (hg:P.eqGuardType P.depth t=false) (m:typedK f a) (o:typedK f b) (j:∀ c:List Value,wrapT P t c=.agg c.toArray) :
 OV P C n l H ⟨some d,.binOp .eql t x y yt,ty,pos,after,g⟩ (.bool (csEq a b)):=fun u w i z=>by
 have q:=Qnh (w:=w) 100 10000 h m o (by omega)
 rw [j,j] at q
 have r:(Op.equal t (.agg a.toArray) (.agg b.toArray)).run P w=.ok (csEq a b) w:=q
 simp [execOp,i.ev hx,i.ev hy,eqGuard,hg,binOp,r]
theorem XaE {t yt:TypeId} {x y:Operand} {a b:List Value} (f:List CK) (hx:opv l x=some (.agg a.toArray)) (hy:opv l y=some (.agg b.toArray)) (A:aggT P t=true) (h:ckT P 100 t=some f) (hg:P.eqGuardType P.depth t=false) (m:typedK f a) (o:typedK f b) (j:∀ c:List Value,wrapT P t c=.agg c.toArray) :
 OV P C n l H ⟨some d,.binOp .neq t x y yt,ty,pos,after,g⟩ (.bool (!(csEq a b))):=fun u w i z=>by
 have q:=Qnh (w:=w) 100 10000 h m o (by omega)
 rw [j,j] at q
 have r:(Op.equal t (.agg a.toArray) (.agg b.toArray)).run P w=.ok (csEq a b) w:=q
 simp [execOp,i.ev hx,i.ev hy,eqGuard,hg,binOp,r]
end
end
section
open Go
section
variable {P:Program} {C:Ctx} {Q:Exit→Act→World→Prop} {n:FN} {l:List (Nat×Value)} {H Hs:Heap} {ops:Array Oper} {rest:List Oper} {d:Nat} {op:Op} {ty:TypeId} {pos:String} {after:Array Edge} {g:Option (Nat×Bool)}
def PostR (P:Program) (C:Ctx) (fn:Func) (R:HP):Exit→Act→World→Prop
 | .normal,a,w | .ret,a,w=>a.defers=[]∧∃ v,(results fn a.tmps).run P w=.ok v w∧∃ H',St C w H'∧R H'
 | _,_,_=>False
theorem postRn {b:Func} {R:HP} {m:Nat} {a:Act} {w:World} (f:b.results = #[]) (d:Fr ⟨m,[]⟩ l a) (g:St C w H) (h:R H):PostR P C b R .normal a w:=
 ⟨d.defers,.tuple #[],by simp [results,f],H,g,h⟩
theorem SpecD.rec_ {u u':FrameMode} {v:Value} {f:FuncId} {fn:Func} {c:Code} {cs:List Value} {n i d:Nat} {ats:Array TypeId} {R:FrameMode→HP} (hu:∀ (c₀:Frame) (fs:List Frame),c₀.mode=u→(recoverD (c₀::fs)=some (v,{ c₀ with mode:=u' }::fs))∨(recoverD (c₀::fs)=none∧v=.nilIface∧{ c₀ with mode:=u' }=c₀))
 (hf:P.funcs[f]? = some fn) (hb:fn.body=some (.seq (.region i #[⟨some d,.call { callee:=.builtin .recover,args:=#[],argTypes:=ats },ty,pos,after,none⟩] false) c)) (hn:fn.ntmps=n) (ha:Nat.ble cs.length n=true) (hd:Nat.blt d n=true)
 (k:GC P C (PostR P C fn (R u')) ⟨n,[]⟩ c ((d,v)::argFrame cs) H):SpecD P C f cs u H R:=by
 intro w hw
 refine callsD_of_wpS hf hb fun c₀ fs hm=>wpS_seq (wpS_region ?_)
 have hfr:Fr ⟨n,[]⟩ (argFrame cs) { tmps:=cs.toArray++Array.replicate (fn.ntmps - cs.toArray.size) undef,defers:=[] }:=by
  refine ⟨?_,rfl,?_⟩
  ·have : cs.length ≤ n := by simpa using ha
   simp [hn]; omega
  ·intro t v h
   have:=(Qj9 cs 0 t v h).2
   simp only [Nat.sub_zero] at this
   have hlt:t < cs.length:=(List.getElem?_eq_some_iff.1 this).1
   simp only [Array.getElem?_append,List.size_toArray,hlt,if_true,List.getElem?_toArray]
   exact this
 have body:=k _ w (hfr.put (v:=v) (d:=d) hd) hw
 have fin:(c.wpS P (bodyPostS P fn c₀ fs fun e u' w'=>(∃ v,e=.returned v)∧∃ H',St C w' H'∧R u' H')) (({ tmps:=cs.toArray++Array.replicate (fn.ntmps - cs.toArray.size) undef,defers:=[] }:Act).put (some d) v) ({ c₀ with mode:=u' }::fs) w:=
  wpS_of_wp (wp_mono body fun e a w' h=>by
   cases e with
   | normal=>
    obtain ⟨h1,v,h2,H',h3,h4⟩:=h
    exact ⟨h1,u',rfl,v,h2,⟨v,rfl⟩,H',h3,h4⟩
   | ret=>
    obtain ⟨h1,v,h2,H',h3,h4⟩:=h
    exact ⟨h1,u',rfl,v,h2,⟨v,rfl⟩,H',h3,h4⟩
   | _=>exact h.elim)
 show wpOpsS P _ _ [0] _ _ _
 simp only [wpOpsS]
 simp [execOp,resolve,invoke,builtin,Region.wanted,yielded]
 rcases hu c₀ fs hm with h | ⟨h,rfl,h2⟩
 ·rw [h]; exact fin
 ·rw [h]; rw [h2] at fin; exact fin
theorem QrX {b:Frame} {fs:List Frame} {v:Value} (h:b.mode=.panicking [⟨v,false,false⟩]):recoverD (b::fs)=some (v,{ b with mode:=.panicking [{ v,recovered:=true }] }::fs):=by
 simp [recoverD,h]
theorem QrY {b:Frame} {fs:List Frame} (h:b.mode=.returning):recoverD (b::fs)=none:=by
 simp [recoverD,h]
def isNilI:Value→Bool
 | .nilIface=>true
 | _=>false
theorem Xah {t yt:TypeId} {x:Operand} {c:Value} {u:Value} (hx:opv l x=some u) (hu:u=.nilIface∨∃ t v,u=.iface t v) (hy:opv l (.const c)=some .nilIface) (ht:(match P.underlying t with | some (.interface _)=>true | _=>false)=true):OV P C n l H ⟨some d,.binOp .eql t x (.const c) yt,ty,pos,after,g⟩ (.bool (isNilI u)):=by
 intro a w hf hs
 cases hd:P.underlying t with
 | none=>rw [hd] at ht; cases ht
 | some dd=>
  rw [hd] at ht
  cases dd <;> try (cases ht; done)
  rename_i ms
  simp only [execOp,hf.ev hx,hf.ev hy]
  rcases hu with rfl | ⟨t2,v,rfl⟩
  ·have he : ∀ dp : Nat, (Op.equalIn (dp + 1) t .nilIface .nilIface).run P w = .ok true w := fun dp => by simp [Op.equalIn, underlying, hd]
   have hb:(binOp .eql t .nilIface .nilIface).run P w=.ok (.bool true) w:=by
    simp only [binOp]
    simp [Op.equal,Op.maxDepth,he 9999]
   have hg:(eqGuard .eql t x (.const c) .nilIface .nilIface).run P w=.ok () w:=by
    unfold eqGuard
    simp
   simp only [bind_pure_comp,Sem.run_map,Sem.run_bind,hg,Result.andThen_ok,hb]
   rfl
  ·have he : ∀ dp : Nat, (Op.equalIn (dp + 1) t (.iface t2 v) .nilIface).run P w = .ok false w := fun dp => by simp [Op.equalIn, underlying, hd]
   have hb:(binOp .eql t (.iface t2 v) .nilIface).run P w=.ok (.bool false) w:=by
    simp only [binOp]
    simp [Op.equal,Op.maxDepth,he 9999]
   have hg:(eqGuard .eql t x (.const c) (.iface t2 v) .nilIface).run P w=.ok () w:=by
    unfold eqGuard
    simp
   simp only [bind_pure_comp,Sem.run_map,Sem.run_bind,hg,Result.andThen_ok,hb]
   rfl
theorem Xav {t xt:TypeId} {x:Operand} {u:Value} (hx:opv l x=some (.iface t u)) (ht:(match P.underlying t with | some (.interface _)=>false | some _=>true | none=>false)=true):OV P C n l H ⟨some d,.typeAssert x xt t true,ty,pos,after,g⟩ (.tuple #[u,.bool true]):=fun ac w hf hs=>by
 cases hu:P.underlying t with
 | none=>rw [hu] at ht; cases ht
 | some dd=>
  rw [hu] at ht
  cases dd <;> first | (cases ht; done) | simp [execOp,Instr.typeAssert,hf.ev hx,underlying,hu]
end
end
section
open Go
def lpE {α:Type} (e:α→List (Nat×Value)) (x0:α) (H:Heap) (body:α→(α→HP)→HP):Prop:=lp x0 H body
def jnE {α:Type} (k:Nat) (e:α→List (Nat×Value)) (R:α→HP) (body:(α→HP)→Prop):Prop:=jn R body
def jnC {α:Type} (k:Nat) (e:α→List (Nat×Value)) (R:α→HP) (body:(α→HP)→Prop):Prop:=jn R body
def jnM {α:Type} (e:α→List (Nat×Value)) (R:α→HP) (body:(α→HP)→Prop):Prop:=jn R body
def szC:Code→Nat
 | .seq x y=>szC x+szC y+1
 | .cond _ x y=>szC x+szC y+1
 | .block _ x=>szC x+1
 | .loop x=>szC x+1
 | .scope x=>szC x+1
 | _=>1
def hnt (k:Nat) (e:List (Nat×Value)) (Y X:Prop):Prop:=X
def hvl (v:Value) (X:Prop):Prop:=X
def aF:Nat→List Value→List (Nat×Value)
 | _,[]=>[]
 | k,v::l=>(k,v)::aF (k+1) l
theorem QwH : ∀ (l : List Value) (k : Nat), (l.zipIdx k).map (fun p => (p.2, p.1)) = aF k l
 | [],_=>rfl
 | v::l,k=>by rw [List.zipIdx_cons,List.map_cons,QwH l (k+1)]; rfl
class OkC (P:Program) (f:FuncId):Prop where
 ok:CallOk P f
class TyU (P:Program) (t:TypeId) (u:outParam TypeDesc):Prop where
 e:P.underlying t=some u:=by kernel_rfl
class TyZ (P:Program) (t:TypeId) (z:outParam Nat):Prop where
 e:(P.info? t).map (·.size)=some z:=by kernel_rfl
class TyF (P:Program) (t:TypeId) (i:Nat) (o:outParam Nat):Prop where
 e:fieldOff P t i=some o:=by kernel_rfl
class TyB (P:Program) (t:TypeId):Prop where
 e:aggB P t=false:=by kernel_rfl
class TyA (P:Program) (t:TypeId):Prop where
 e:aggT P t=true:=by kernel_rfl
def elT (P:Program) (t:TypeId):TypeId:=match P.underlying t with | some (.slice e)=>e | _=>0
structure XV (P:Program) (C:Ctx) (n:FN) (l:List (Nat×Value)) (H:Heap) (o:Oper) (v:Value):Prop where
 ov:OV P C n l H o v
structure XL (P:Program) (C:Ctx) (ops:Array Oper) (Q:Exit→Act→World→Prop) (n:FN) (rest:List Oper) (l:List (Nat×Value)) (H:Heap):Prop where
 go:GL P C ops Q n rest l H
structure XC (P:Program) (C:Ctx) (Q:Exit→Act→World→Prop) (n:FN) (c:Code) (l:List (Nat×Value)) (H:Heap):Prop where
 go:GC P C Q n c l H
section
variable {P:Program} {C:Ctx} {Q Q':Exit→Act→World→Prop} {n:FN} {l:List (Nat×Value)} {H Hs:Heap} {ops:Array Oper} {rest r:List Oper} {d:Nat} {op:Op} {ty:TypeId} {pos:String} {after:Array Edge} {g:Option (Nat×Bool)}
theorem Iat {a:Option Value} {b x:Bool} (u:b=true) (h:a=some (.bool x)):a=some (.bool (b && x)):=by rw [h,u]; rfl
theorem Iaf {a:Option Value} {b x:Bool} (u:b=false) (h:a=some (.bool false)):a=some (.bool (b && x)):=by rw [h,u]; rfl
theorem Iot {a:Option Value} {b x:Bool} (u:b=true) (h:a=some (.bool true)):a=some (.bool (b || x)):=by rw [h,u]; rfl
theorem Iof {a:Option Value} {b x:Bool} (u:b=false) (h:a=some (.bool x)):a=some (.bool (b || x)):=by rw [h,u]; rfl
theorem Wy {j f:Nat} {d b:Bool} (g:(ops[j]?).bind (·.dst)=some f:=by exact rfl) (h:lk l f=some (.bool b):=by exact rfl) (i:b=d:=by first | assumption | rfl):Wt ops l (some (j,d)):=⟨f,b,g,h,i⟩
theorem Wz {j f:Nat} {d b:Bool} (g:(ops[j]?).bind (·.dst)=some f:=by exact rfl) (h:lk l f=some (.bool b):=by exact rfl) (i:b=!d:=by first | assumption | rfl):Wn ops l (some (j,d)):=⟨f,g,.inl ⟨b,h,i⟩⟩
theorem Wu {j d:Nat} {b:Bool} (f:(ops[j]?).bind (·.dst)=some d:=by exact rfl) (g:lk l d=some undef:=by exact rfl):Wn ops l (some (j,b)):=⟨d,f,.inr g⟩
theorem Xmove {x:Operand} {v:Value} (hx:opv l x=some v) :
 XV P C n l H ⟨some d,.move x,ty,pos,after,g⟩ v:=⟨OV.move hx⟩
theorem Xassign {x:Operand} {v:Value} (hx:opv l x=some v) :
 XV P C n l H ⟨some d,.assign x,ty,pos,after,g⟩ v:=⟨OV.assign hx⟩
theorem XpickT {c x y:Operand} {b:Bool} {v:Value} (h:opv l c=some (.bool b)) (f:b=true) (hx:opv l x=some v) :
 XV P C n l H ⟨some d,.pick c x y,ty,pos,after,g⟩ (v):=⟨Xaf h f hx⟩
theorem XpickF {c x y:Operand} {b:Bool} {v:Value} (h:opv l c=some (.bool b)) (f:b=false) (hx:opv l y=some v) :
 XV P C n l H ⟨some d,.pick c x y,ty,pos,after,g⟩ (v):=⟨Xai h f hx⟩
theorem Xshl {t yt:TypeId} {x y:Operand} {k0 h:IntKind} {a b:Int} (hx:opv l x=some (.int k0 a)) (hy:opv l y=some (.int h b)) (f:0≤b) :
 XV P C n l H ⟨some d,.binOp .shl t x y yt,ty,pos,after,g⟩ (.int k0 (sShl k0 a b)):=⟨OV.shl hx hy f⟩
theorem Xshr {t yt:TypeId} {x y:Operand} {k0 h:IntKind} {a b:Int} (hx:opv l x=some (.int k0 a)) (hy:opv l y=some (.int h b)) (f:0≤b) :
 XV P C n l H ⟨some d,.binOp .shr t x y yt,ty,pos,after,g⟩ (.int k0 (sShr k0 a b)):=⟨OV.shr hx hy f⟩
theorem Xquo {t yt:TypeId} {x y:Operand} {k0:IntKind} {a b:Int} (hx:opv l x=some (.int k0 a)) (hy:opv l y=some (.int k0 b)) (f:b≠0) :
 XV P C n l H ⟨some d,.binOp .quo t x y yt,ty,pos,after,g⟩ (.int k0 (Sx.w k0 (a.tdiv b))):=⟨OV.quo hx hy f⟩
theorem Xrem {t yt:TypeId} {x y:Operand} {k0:IntKind} {a b:Int} (hx:opv l x=some (.int k0 a)) (hy:opv l y=some (.int k0 b)) (f:b≠0) :
 XV P C n l H ⟨some d,.binOp .rem t x y yt,ty,pos,after,g⟩ (.int k0 (a.tmod b)):=⟨OV.rem hx hy f⟩
theorem Xiun {op:UnOp} {t:TypeId} {x:Operand} {k0:IntKind} {a:Int} {v:Value} (hx:opv l x=some (.int k0 a)) (b:Sx.iun op k0 a=some v) :
 XV P C n l H ⟨some d,.unOp op t x,ty,pos,after,g⟩ (v):=⟨OV.iun hx b⟩
theorem Xnot {t:TypeId} {x:Operand} {b:Bool} (hx:opv l x=some (.bool b)) :
 XV P C n l H ⟨some d,.unOp .not t x,ty,pos,after,g⟩ (.bool (!b)):=⟨OV.not hx⟩
theorem XconvInt {s f:TypeId} {x:Operand} {k0 b:IntKind} {a:Int} (hx:opv l x=some (.int k0 a)) {h:TypeDesc} [hs:TyU P s h] [ht:TyU P f (.int b)] :
 XV P C n l H ⟨some d,.convert s f x,ty,pos,after,g⟩ (.int b (Sx.w b a)):=⟨Xam hx (by rw [hs.e]; rfl) ht.e⟩
theorem Xextract {x:Operand} {i:Nat} {vs:Array Value} {v:Value} (hx:opv l x=some (.tuple vs)) (b:vs[i]? = some v) :
 XV P C n l H ⟨some d,.extract x i,ty,pos,after,g⟩ (v):=⟨OV.extract hx b⟩
theorem XnilCheck {x:Operand} {p:Nat×Nat} {q:Option (Nat×Nat)} (hx:opv l x=some (pv q)) (b:q=some p) :
 XV P C n l H ⟨some d,.nilCheck x,ty,pos,after,g⟩ (pv (some p)):=⟨OV.nilCheck hx b⟩
theorem XnilCheckF {x:Operand} {f:Nat} {fs cs:Array Value} (hx:opv l x=some (.func (.func f) fs cs)) :
 XV P C n l H ⟨some d,.nilCheck x,ty,pos,after,g⟩ (.func (.func f) fs cs):=⟨Xac hx⟩
theorem XfieldAddr {t:TypeId} {x:Operand} {i off:Nat} {p:Nat×Nat} (hx:opv l x=some (pv (some p))) [ho:TyF P t i off] :
 XV P C n l H ⟨some d,.fieldAddr t x i,ty,pos,after,g⟩ (pv (some (p.1,p.2+off))):=⟨OV.fieldAddr hx ho.e⟩
theorem XmakeFunc {b:Fn} {fs cs:Array Operand} {vs us:List Value} (hx:opvs l fs.toList=some vs) (hy:opvs l cs.toList=some us) :
 XV P C n l H ⟨some d,.makeFunc b fs cs,ty,pos,after,g⟩ (.func b vs.toArray us.toArray):=⟨OV.makeFunc hx hy⟩
theorem Xfield {t:TypeId} {x:Operand} {i:Nat} {u v:Value} (hx:opv l x=some u) (b:∀ w,(Instr.field t u i).run P w=.ok v w) :
 XV P C n l H ⟨some d,.field t x i,ty,pos,after,g⟩ (v):=⟨OV.field hx b⟩
theorem Xbuild {t:TypeId} {ps:Array (Nat×Operand)} {vs:List (Nat×Value)} {v:Value} (hx:partVals l ps.toList=some vs) (b:∀ w,(Instr.build t vs.toArray).run P w=.ok v w) :
 XV P C n l H ⟨some d,.build t ps,ty,pos,after,g⟩ (v):=⟨OV.build hx b⟩
theorem XeqlNil {t yt e:TypeId} {x y:Operand} {p:Option (Nat×Nat)} (hx:opv l x=some (pv p)) (hy:opv l y=some (.pointer none)) [ht:TyU P t (.pointer e)] :
 XV P C n l H ⟨some d,.binOp .eql t x y yt,ty,pos,after,g⟩ (.bool p.isNone):=⟨X6 hx hy ht.e⟩
theorem XneqNil {t yt e:TypeId} {x y:Operand} {p:Option (Nat×Nat)} (hx:opv l x=some (pv p)) (hy:opv l y=some (.pointer none)) [ht:TyU P t (.pointer e)] :
 XV P C n l H ⟨some d,.binOp .neq t x y yt,ty,pos,after,g⟩ (.bool (!p.isNone)):=⟨Xas hx hy ht.e⟩
theorem XeqlBool {t yt:TypeId} {x y:Operand} {a b:Bool} (hx:opv l x=some (.bool a)) (hy:opv l y=some (.bool b)) [ht:TyU P t .bool] :
 XV P C n l H ⟨some d,.binOp .eql t x y yt,ty,pos,after,g⟩ (.bool (a == b)):=⟨Xap hx hy ht.e⟩
theorem XneqBool {t yt:TypeId} {x y:Operand} {a b:Bool} (hx:opv l x=some (.bool a)) (hy:opv l y=some (.bool b)) [ht:TyU P t .bool] :
 XV P C n l H ⟨some d,.binOp .neq t x y yt,ty,pos,after,g⟩ (.bool (!(a == b))):=⟨Xao hx hy ht.e⟩
theorem XlenStr {x:Operand} {t:TypeId} {s:Str} (hx:opv l x=some (sv s)) [ht:TyU P t .string] :
 XV P C n l H ⟨some d,.call { callee:=.builtin .len,args:=#[x],argTypes:=#[t] },ty,pos,after,g⟩ (.int .i64 (s.length:Int)):=⟨XM hx ht.e⟩
theorem XlenSl {x:Operand} {t e:TypeId} {s:Sl} (hx:opv l x=some (slv s)) [ht:TyU P t (.slice e)] :
 XV P C n l H ⟨some d,.call { callee:=.builtin .len,args:=#[x],argTypes:=#[t] },ty,pos,after,g⟩ (.int .i64 (s.len:Int)):=⟨XX hx ht.e⟩
theorem XconvStr {s b:TypeId} {x:Operand} {f:Str} (hx:opv l x=some (sv f)) [hs:TyU P s .string] [ht:TyU P b .string] :
 XV P C n l H ⟨some d,.convert s b x,ty,pos,after,g⟩ (sv f):=⟨Xan hx hs.e ht.e⟩
theorem XmaxI {x y:Operand} {f:Array TypeId} {k0:IntKind} {a b:Int} (hx:opv l x=some (.int k0 a)) (hy:opv l y=some (.int k0 b)) :
 XV P C n l H ⟨some d,.call { callee:=.builtin .max,args:=#[x,y],argTypes:=f },ty,pos,after,g⟩ (.int k0 (if b > a then b else a)):=⟨XaG hx hy⟩
theorem XminI {x y:Operand} {f:Array TypeId} {k0:IntKind} {a b:Int} (hx:opv l x=some (.int k0 a)) (hy:opv l y=some (.int k0 b)) :
 XV P C n l H ⟨some d,.call { callee:=.builtin .min,args:=#[x,y],argTypes:=f },ty,pos,after,g⟩ (.int k0 (if b < a then b else a)):=⟨XaD hx hy⟩
theorem XeqlSl {t yt e:TypeId} {x y:Operand} {s:Sl} (hx:opv l x=some (slv s)) (hy:opv l y=some (slv Sl.nil)) [ht:TyU P t (.slice e)] :
 XV P C n l H ⟨some d,.binOp .eql t x y yt,ty,pos,after,g⟩ (.bool s.isNil):=⟨Xaz hx hy ht.e⟩
theorem XneqSl {t yt e:TypeId} {x y:Operand} {s:Sl} (hx:opv l x=some (slv s)) (hy:opv l y=some (slv Sl.nil)) [ht:TyU P t (.slice e)] :
 XV P C n l H ⟨some d,.binOp .neq t x y yt,ty,pos,after,g⟩ (.bool (!s.isNil)):=⟨Xax hx hy ht.e⟩
theorem Xcap {x:Operand} {b:Array TypeId} {t e:TypeId} {s:Sl} (hx:opv l x=some (slv s)) (f:b[0]? = some t) [ht:TyU P t (.slice e)] :
 XV P C n l H ⟨some d,.call { callee:=.builtin .cap,args:=#[x],argTypes:=b },ty,pos,after,g⟩ (.int .i64 (s.cap:Int)):=⟨OV.cap hx f ht.e⟩
theorem Xmax4 {d:Nat} {ty:TypeId} {pos:String} {after:Array Edge} {g:Option (Nat×Bool)} {x y z u:Operand} {f:Array TypeId} {k0:IntKind} {a b c e:Int} (hx:opv l x=some (.int k0 a)) (hy:opv l y=some (.int k0 b)) (i:opv l z=some (.int k0 c)) (h:opv l u=some (.int k0 e)) :
 XV P C n l H ⟨some d,.call { callee:=.builtin .max,args:=#[x,y,z,u],argTypes:=f },ty,pos,after,g⟩ (.int k0 (Sx.max4 a b c e)):=⟨OV.max4 hx hy i h⟩
theorem XmakeInterface {t : TypeId} {x : Operand} {u : Value} (hx : opv l x = some u) (b : (match P.underlying t with | some (.interface _) => false | some _ => true | none => false) = true) :
 XV P C n l H ⟨some d,.makeInterface t x,ty,pos,after,g⟩ (.iface t u):=⟨OV.makeInterface hx b⟩
theorem XindexAddrA {x y:Operand} {t e:TypeId} {m:Nat} {p:Nat×Nat} {i:Int} {k0:IntKind} {b:Nat} (hx:opv l x=some (pv (some p))) (hy:opv l y=some (.int k0 i)) [ht:TyU P t (.array m e)] [he:TyZ P e b] (h0:0≤i) (f:i < m) :
 XV P C n l H ⟨some d,.indexAddr t x y,ty,pos,after,g⟩ (pv (some (p.1,p.2+i.toNat*b))):=⟨Xx hx hy ht.e he.e h0 f⟩
section
variable {t yt:TypeId} {x y:Operand} {k0:IntKind} {a b:Int} (hx:opv l x=some (.int k0 a)) (hy:opv l y=some (.int k0 b))
include hx hy
theorem Xadd:XV P C n l H ⟨some d,.binOp .add t x y yt,ty,pos,after,g⟩ (.int k0 (w k0 (a+b))):=⟨OV.ibin hx hy rfl⟩
theorem Xsub:XV P C n l H ⟨some d,.binOp .sub t x y yt,ty,pos,after,g⟩ (.int k0 (w k0 (a - b))):=⟨OV.ibin hx hy rfl⟩
theorem Xmul:XV P C n l H ⟨some d,.binOp .mul t x y yt,ty,pos,after,g⟩ (.int k0 (w k0 (a*b))):=⟨OV.ibin hx hy rfl⟩
theorem Xand:XV P C n l H ⟨some d,.binOp .and t x y yt,ty,pos,after,g⟩ (.int k0 (bAnd k0 a b)):=⟨OV.ibin hx hy rfl⟩
theorem Xor_:XV P C n l H ⟨some d,.binOp .or t x y yt,ty,pos,after,g⟩ (.int k0 (bOr k0 a b)):=⟨OV.ibin hx hy rfl⟩
theorem Xxor:XV P C n l H ⟨some d,.binOp .xor t x y yt,ty,pos,after,g⟩ (.int k0 (bXor k0 a b)):=⟨OV.ibin hx hy rfl⟩
theorem Xandn:XV P C n l H ⟨some d,.binOp .andNot t x y yt,ty,pos,after,g⟩ (.int k0 (bAndNot k0 a b)):=⟨OV.ibin hx hy rfl⟩
theorem Xeq:XV P C n l H ⟨some d,.binOp .eql t x y yt,ty,pos,after,g⟩ (.bool (a == b)):=⟨OV.ibin hx hy rfl⟩
theorem Xne:XV P C n l H ⟨some d,.binOp .neq t x y yt,ty,pos,after,g⟩ (.bool (a != b)):=⟨OV.ibin hx hy rfl⟩
theorem Xlt:XV P C n l H ⟨some d,.binOp .lss t x y yt,ty,pos,after,g⟩ (.bool (decide (a < b))):=⟨OV.ibin hx hy rfl⟩
theorem Xle:XV P C n l H ⟨some d,.binOp .leq t x y yt,ty,pos,after,g⟩ (.bool (decide (a≤b))):=⟨OV.ibin hx hy rfl⟩
theorem Xgt:XV P C n l H ⟨some d,.binOp .gtr t x y yt,ty,pos,after,g⟩ (.bool (decide (a > b))):=⟨OV.ibin hx hy rfl⟩
theorem Xge:XV P C n l H ⟨some d,.binOp .geq t x y yt,ty,pos,after,g⟩ (.bool (decide (a ≥ b))):=⟨OV.ibin hx hy rfl⟩
end
section
variable {t yt:TypeId} {x y:Operand} {a b:Str} (hx:opv l x=some (sv a)) (hy:opv l y=some (sv b))
include hx hy
theorem XeqS:XV P C n l H ⟨some d,.binOp .eql t x y yt,ty,pos,after,g⟩ (.bool (a == b)):=⟨OV.sbin hx hy rfl⟩
theorem XneS:XV P C n l H ⟨some d,.binOp .neq t x y yt,ty,pos,after,g⟩ (.bool (!(a == b))):=⟨OV.sbin hx hy rfl⟩
theorem XltS:XV P C n l H ⟨some d,.binOp .lss t x y yt,ty,pos,after,g⟩ (.bool (slt a b)):=⟨OV.sbin hx hy rfl⟩
theorem XgeS:XV P C n l H ⟨some d,.binOp .geq t x y yt,ty,pos,after,g⟩ (.bool (!(slt a b))):=⟨OV.sbin hx hy rfl⟩
end
theorem Lvmv {x:Operand} {v:Value} (h:Wt ops l g) (f:XV P C n l H ⟨some d,.move x,ty,pos,after,g⟩ v) (k:XL P C ops Q n rest ((d,v)::l) H) (b:Nat.blt d n.n=true:=by exact rfl):XL P C ops Q n (⟨some d,.move x,ty,pos,after,g⟩::rest) l H:=⟨GL.val h b f.ov k.go⟩
theorem Lvas {x:Operand} {v:Value} (h:Wt ops l g) (f:XV P C n l H ⟨some d,.assign x,ty,pos,after,g⟩ v) (k:XL P C ops Q n rest ((d,v)::l) H) (b:Nat.blt d n.n=true:=by exact rfl):XL P C ops Q n (⟨some d,.assign x,ty,pos,after,g⟩::rest) l H:=⟨GL.val h b f.ov k.go⟩
theorem Lvfa {t:TypeId} {x:Operand} {i:Nat} {v:Value} (h:Wt ops l g) (f:XV P C n l H ⟨some d,.fieldAddr t x i,ty,pos,after,g⟩ v) (k:XL P C ops Q n rest ((d,v)::l) H) (b:Nat.blt d n.n=true:=by exact rfl):XL P C ops Q n (⟨some d,.fieldAddr t x i,ty,pos,after,g⟩::rest) l H:=⟨GL.val h b f.ov k.go⟩
theorem Lvbi {o:BinOp} {t yt:TypeId} {x y:Operand} {v:Value} (h:Wt ops l g) (f:XV P C n l H ⟨some d,.binOp o t x y yt,ty,pos,after,g⟩ v) (k:XL P C ops Q n rest ((d,v)::l) H) (b:Nat.blt d n.n=true:=by exact rfl):XL P C ops Q n (⟨some d,.binOp o t x y yt,ty,pos,after,g⟩::rest) l H:=⟨GL.val h b f.ov k.go⟩
theorem Lvcb {b:Builtin} {xs:Array Operand} {f:Array TypeId} {v:Value} (j:Wt ops l g) (i:XV P C n l H ⟨some d,.call { callee:=.builtin b,args:=xs,argTypes:=f },ty,pos,after,g⟩ v) (k:XL P C ops Q n rest ((d,v)::l) H) (h:Nat.blt d n.n=true:=by exact rfl):XL P C ops Q n (⟨some d,.call { callee:=.builtin b,args:=xs,argTypes:=f },ty,pos,after,g⟩::rest) l H:=⟨GL.val j h i.ov k.go⟩
theorem Lvpk {c x y:Operand} {v:Value} (h:Wt ops l g) (f:XV P C n l H ⟨some d,.pick c x y,ty,pos,after,g⟩ v) (k:XL P C ops Q n rest ((d,v)::l) H) (b:Nat.blt d n.n=true:=by exact rfl):XL P C ops Q n (⟨some d,.pick c x y,ty,pos,after,g⟩::rest) l H:=⟨GL.val h b f.ov k.go⟩
theorem Lvun {o:UnOp} {t:TypeId} {x:Operand} {v:Value} (h:Wt ops l g) (f:XV P C n l H ⟨some d,.unOp o t x,ty,pos,after,g⟩ v) (k:XL P C ops Q n rest ((d,v)::l) H) (b:Nat.blt d n.n=true:=by exact rfl):XL P C ops Q n (⟨some d,.unOp o t x,ty,pos,after,g⟩::rest) l H:=⟨GL.val h b f.ov k.go⟩
theorem Lvnc {x:Operand} {v:Value} (h:Wt ops l g) (f:XV P C n l H ⟨some d,.nilCheck x,ty,pos,after,g⟩ v) (k:XL P C ops Q n rest ((d,v)::l) H) (b:Nat.blt d n.n=true:=by exact rfl):XL P C ops Q n (⟨some d,.nilCheck x,ty,pos,after,g⟩::rest) l H:=⟨GL.val h b f.ov k.go⟩
theorem Lvex {x:Operand} {i:Nat} {v:Value} (h:Wt ops l g) (f:XV P C n l H ⟨some d,.extract x i,ty,pos,after,g⟩ v) (k:XL P C ops Q n rest ((d,v)::l) H) (b:Nat.blt d n.n=true:=by exact rfl):XL P C ops Q n (⟨some d,.extract x i,ty,pos,after,g⟩::rest) l H:=⟨GL.val h b f.ov k.go⟩
theorem Lvmf {f:Fn} {xs ys:Array Operand} {v:Value} (i:Wt ops l g) (h:XV P C n l H ⟨some d,.makeFunc f xs ys,ty,pos,after,g⟩ v) (k:XL P C ops Q n rest ((d,v)::l) H) (b:Nat.blt d n.n=true:=by exact rfl):XL P C ops Q n (⟨some d,.makeFunc f xs ys,ty,pos,after,g⟩::rest) l H:=⟨GL.val i b h.ov k.go⟩
theorem Lvcv {s t:TypeId} {x:Operand} {v:Value} (h:Wt ops l g) (f:XV P C n l H ⟨some d,.convert s t x,ty,pos,after,g⟩ v) (k:XL P C ops Q n rest ((d,v)::l) H) (b:Nat.blt d n.n=true:=by exact rfl):XL P C ops Q n (⟨some d,.convert s t x,ty,pos,after,g⟩::rest) l H:=⟨GL.val h b f.ov k.go⟩
theorem Lvmi {t:TypeId} {x:Operand} {v:Value} (h:Wt ops l g) (f:XV P C n l H ⟨some d,.makeInterface t x,ty,pos,after,g⟩ v) (k:XL P C ops Q n rest ((d,v)::l) H) (b:Nat.blt d n.n=true:=by exact rfl):XL P C ops Q n (⟨some d,.makeInterface t x,ty,pos,after,g⟩::rest) l H:=⟨GL.val h b f.ov k.go⟩
theorem Lhv {v:Value} {X:Prop} (h:hvl v X) (i:Wt ops l g) (f:XV P C n l H ⟨some d,op,ty,pos,after,g⟩ v) (k:X→XL P C ops Q n rest ((d,v)::l) H) (b:Nat.blt d n.n=true:=by exact rfl):XL P C ops Q n (⟨some d,op,ty,pos,after,g⟩::rest) l H:=⟨GL.val i b f.ov (k h).go⟩
theorem Lskip (f:Wn ops l g) (k:XL P C ops Q n rest ((d,undef)::l) H) (b:Nat.blt d n.n=true:=by exact rfl):XL P C ops Q n (⟨some d,op,ty,pos,after,g⟩::rest) l H:=⟨GL.skip f b k.go⟩
theorem Lskip0 (b:Wn ops l g) (k:XL P C ops Q n rest l H):XL P C ops Q n (⟨none,op,ty,pos,after,g⟩::rest) l H:=⟨Xay b k.go⟩
theorem Lst {t:TypeId} {x y:Operand} {p:Nat×Nat} {v:Value} {K:HP} (h:st p v K H) (d:Wt ops l g) (hx:opv l x=some (pv (some p))) (hy:opv l y=some v) [hi:TyZ P t 1] (b:v.oneCell' = true) (k:∀ H',K H'→XL P C ops Q n rest l H'):XL P C ops Q n (⟨none,.store t x y,ty,pos,after,g⟩::rest) l H:=⟨GL.store h d hx hy b hi.e fun H' h=>(k H' h).go⟩
theorem LstT {t:TypeId} {x y:Operand} {p:Nat×Nat} {vs:List Value} {K:HP} (h:stT p vs K H) (i:Wt ops l g) (hx:opv l x=some (pv (some p))) (hy:opv l y=some (.agg vs.toArray)) {d:Nat} [hi:TyZ P t d] (f:vs.all Value.oneCell' = true) (b:d=vs.length) (k:∀ H',K H'→XL P C ops Q n rest l H'):XL P C ops Q n (⟨none,.store t x y,ty,pos,after,g⟩::rest) l H:=⟨Xl h i hx hy f (b ▸ hi.e) fun H' h=>(k H' h).go⟩
theorem Lal {e:TypeId} {cs:List Value} {z:Value} {K:Nat→HP} (h:nw cs K H) (j:Wt ops l g) (m:(P.info? e).bind (·.zero)=some z) (f:z.cells=cs.toArray) (k:∀ b H',K b H'→XL P C ops Q n rest ((d,pv (some (b,0)))::l) H') (i:Nat.blt d n.n=true:=by exact rfl):XL P C ops Q n (⟨some d,.alloc e,ty,pos,after,g⟩::rest) l H:=⟨GL.alloc h j i m f fun b H' h=>(k b H' h).go⟩
theorem Lbo {e:TypeId} {x:Operand} {v:Value} {cs:List Value} {K:Nat→HP} (h:nw cs K H) (j:Wt ops l g) (hx:opv l x=some v) (f:v.cells=cs.toArray) (k:∀ b H',K b H'→XL P C ops Q n rest ((d,pv (some (b,0)))::l) H') (i:Nat.blt d n.n=true:=by exact rfl):XL P C ops Q n (⟨some d,.box e x,ty,pos,after,g⟩::rest) l H:=⟨GL.box h j i hx f fun b H' h=>(k b H' h).go⟩
theorem LboF {e:TypeId} {x:Operand} {v:Value} {K:Nat→HP} (h:v.cells = #[v]∧nw [v] K H) (i:Wt ops l g) (hx:opv l x=some v) (k:∀ b H',K b H'→XL P C ops Q n rest ((d,pv (some (b,0)))::l) H') (f:Nat.blt d n.n=true:=by exact rfl):XL P C ops Q n (⟨some d,.box e x,ty,pos,after,g⟩::rest) l H:=⟨GL.box h.2 i f hx h.1 fun b H' h=>(k b H' h).go⟩
theorem Lbs {t:TypeId} {m:Nat} {ps:Array (Nat×Operand)} {vs:List (Nat×Value)} {cs:List Value} {K:Nat→HP} (h:nw cs K H) (j:Wt ops l g) (hx:partVals l ps.toList=some vs) (i:litRun P t m vs cs) (k:∀ b H',K b H'→XL P C ops Q n rest ((d,slv (Sl.of (some (b,0)) m m))::l) H') (f:Nat.blt d n.n=true:=by exact rfl):XL P C ops Q n (⟨some d,.buildSlice t m ps,ty,pos,after,g⟩::rest) l H:=⟨GL.buildSlice h j f hx i fun b H' h=>(k b H' h).go⟩
theorem LapS {x y : Operand} {t f i : TypeId} {s s2 : Sl} {zc : List Value} {bytes : Nat} {K : Sl → Heap → Prop} (h : apS zc bytes s s2 K H) (o : Wt ops l g) (hx : opv l x = some (slv s)) (hy : opv l y = some (slv s2)) (m : Elem P t zc bytes) [h2 : TyU P f (.slice i)] (k : ∀ r H', K r H' → XL P C ops Q n rest ((d, slv r) :: l) H') (j : Nat.blt d n.n = true := by exact rfl) :
 XL P C ops Q n (⟨some d,.call { callee:=.builtin .append,args:=#[x,y],argTypes:=#[t,f] },ty,pos,after,g⟩::rest) l H:=⟨XW h o j hx hy m h2.e fun b H' h=>(k b H' h).go⟩
theorem LapSt {x y : Operand} {t f : TypeId} {s : Sl} {u : Str} {bytes : Nat} {K : Sl → Heap → Prop} (h : apd [.int .u8 0] bytes s (bytesV u) u.length K H) (m : Wt ops l g) (hx : opv l x = some (slv s)) (hy : opv l y = some (sv u)) (j : Elem P t [.int .u8 0] bytes) [h2 : TyU P f .string] (k : ∀ r H', K r H' → XL P C ops Q n rest ((d, slv r) :: l) H') (i : Nat.blt d n.n = true := by exact rfl) :
 XL P C ops Q n (⟨some d,.call { callee:=.builtin .append,args:=#[x,y],argTypes:=#[t,f] },ty,pos,after,g⟩::rest) l H:=⟨Xaa h m i hx hy j h2.e fun b H' h=>(k b H' h).go⟩
theorem LapL {x y:Operand} {t u A z q:TypeId} {j m:Nat} {s:Sl} {ps:Array (Nat×Operand)} {vs:List (Nat×Value)} {ys:List Value} {zc:List Value} {bytes:Nat} {K:Sl→HP} {i:String} {f:Array Edge}
 (h:apd zc bytes s ys m K H) (G:Wt ops l g) (hx:∀ v,opv ((d,v)::l) x=some (slv s)) (hy:∀ v,opv ((d,v)::l) y=some v) (hp:partVals l ps.toList=some vs) (F:litRun P z m vs ys) (E:Elem P t zc bytes) [h2:TyU P u (.slice A)] (B:ys.all Value.oneCell' = true)
 (k:∀ v r H',K r H'→XL P C ops Q n rest ((j,slv r)::(d,v)::l) H') (D:Nat.blt d n.n=true:=by exact rfl) (o:Nat.blt j n.n=true:=by exact rfl) :
 XL P C ops Q n (⟨some d,.buildSlice z m ps,ty,pos,after,g⟩::⟨some j,.call { callee:=.builtin .append,args:=#[x,y],argTypes:=#[t,u] },q,i,f,none⟩::rest) l H:=⟨X9 h G D (fun _=>trivial) o hx hy hp F E h2.e B fun v b H' h=>(k v b H' h).go⟩
theorem Lca {f : FuncId} {xs : Array Operand} {b : Array TypeId} {vs : List Value} {Φ : Value → Heap → Prop} [hok : OkC P f] (i : Spec P C f vs H Φ) (m : Wt ops l g) (hx : opvs l xs.toList = some vs) (k : ∀ v H', Φ v H' → XL P C ops Q n rest ((d, v) :: l) H') (j : Nat.blt d n.n = true := by exact rfl) :
 XL P C ops Q n (⟨some d,.call { callee:=.value (.func f),args:=xs,argTypes:=b },ty,pos,after,g⟩::rest) l H:=⟨GL.call i m j hok.ok hx fun v H' h=>(k v H' h).go⟩
theorem LcV {f : FuncId} {x : Operand} {fs cs : List Value} {xs : Array Operand} {b : Array TypeId} {vs : List Value} {Φ : Value → Heap → Prop} [hok : OkC P f] (i : opv l x = some (.func (.func f) fs.toArray cs.toArray)) (hx : opvs l xs.toList = some vs) (j : Spec P C f (fs ++ vs ++ cs) H Φ) (o : Wt ops l g) (k : ∀ v H', Φ v H' → XL P C ops Q n rest ((d, v) :: l) H') (m : Nat.blt d n.n = true := by exact rfl) :
 XL P C ops Q n (⟨some d,.call { callee:=.value x,args:=xs,argTypes:=b },ty,pos,after,g⟩::rest) l H:=⟨Xag j o m hok.ok i hx fun v H' h=>(k v H' h).go⟩
theorem LcU {x : Operand} {xv : Value} {xs : Array Operand} {b : Array TypeId} {vs : List Value} {Φ : Value → Heap → Prop} (i : Sx.callU P C xv vs H Φ) (m : Wt ops l g) (f : opv l x = some xv) (hx : opvs l xs.toList = some vs) (k : ∀ v H', Φ v H' → XL P C ops Q n rest ((d, v) :: l) H') (j : Nat.blt d n.n = true := by exact rfl) :
 XL P C ops Q n (⟨some d,.call { callee:=.value x,args:=xs,argTypes:=b },ty,pos,after,g⟩::rest) l H:=⟨GL.callU i m j f hx fun v H' h=>(k v H' h).go⟩
theorem LhA {t : TypeId} {x : Operand} {p : Nat × Nat} {α : Type} {f : α → Value} {K : α → Prop} [ht : TyB P t] (h : ∃ y, rd H p = some (f y) ∧ K y) (m : Wt ops l g) (hx : opv l x = some (pv (some p))) (k : ∀ y, K y → XL P C ops Q n rest ((d, f y) :: l) H) (b : Nat.blt d n.n = true := by exact rfl) :
 XL P C ops Q n (⟨some d,.load t x,ty,pos,after,g⟩::rest) l H:=by
 obtain ⟨y,j,i⟩:=h
 exact ⟨GL.val m b (OV.load hx ht.e j) (k y i).go⟩
theorem LhT {t : TypeId} {x : Operand} {p : Nat × Nat} {α : Type} {f : α → List Value} {K : α → Prop} {b : Nat} [ht : TyA P t] [hi : TyZ P t b] (h : ∃ y, rds H p (f y) ∧ K y) (o : Wt ops l g) (hx : opv l x = some (pv (some p))) (q : ∀ y, b = (f y).length) (k : ∀ y, K y → XL P C ops Q n rest ((d, .agg (f y).toArray) :: l) H) (i : Nat.blt d n.n = true := by exact rfl) :
 XL P C ops Q n (⟨some d,.load t x,ty,pos,after,g⟩::rest) l H:=by
 obtain ⟨y,m,j⟩:=h
 exact ⟨GL.val o i (Xm hx ht.e (q y ▸ hi.e) m) (k y j).go⟩
theorem LhX {x y : Operand} {t e : TypeId} {s : Sl} {i : Int} {k0 : IntKind} {f : Nat} {K : Nat × Nat → Prop} [ht : TyU P t (.slice e)] [he : TyZ P e f] (h : ixa s i K) (q : Wt ops l g) (hx : opv l x = some (slv s)) (hy : opv l y = some (.int k0 i)) (k : ∀ p, K p → XL P C ops Q n rest ((d, pv (some (p.1, p.2 + i.toNat * f))) :: l) H) (m : Nat.blt d n.n = true := by exact rfl) :
 XL P C ops Q n (⟨some d,.indexAddr t x y,ty,pos,after,g⟩::rest) l H:=by
 obtain ⟨p,hp,b,h0,j,o⟩:=h
 exact ⟨GL.val q m (OV.indexAddr hx hy ht.e he.e hp b h0 j) (k p o).go⟩
theorem LhR {x y : Operand} {t e : TypeId} {m : Nat} {p : Nat × Nat} {i : Int} {k0 : IntKind} {b : Nat} {K : Prop} [ht : TyU P t (.array m e)] [he : TyZ P e b] (h : ixr p m i K) (q : Wt ops l g) (hx : opv l x = some (pv (some p))) (hy : opv l y = some (.int k0 i)) (k : K → XL P C ops Q n rest ((d, pv (some (p.1, p.2 + i.toNat * b))) :: l) H) (j : Nat.blt d n.n = true := by exact rfl) :
 XL P C ops Q n (⟨some d,.indexAddr t x y,ty,pos,after,g⟩::rest) l H:=by
 obtain ⟨h0,f,o⟩:=h
 exact ⟨GL.val q j (Xx hx hy ht.e he.e h0 f) (k o).go⟩
theorem LhN {x : Operand} {q : Option (Nat × Nat)} {K : Nat × Nat → Prop} (h : nck q K) (i : Wt ops l g) (hx : opv l x = some (pv q)) (k : ∀ p, K p → XL P C ops Q n rest ((d, pv (some p)) :: l) H) (b : Nat.blt d n.n = true := by exact rfl) :
 XL P C ops Q n (⟨some d,.nilCheck x,ty,pos,after,g⟩::rest) l H:=by
 obtain ⟨p,hp,f⟩:=h
 exact ⟨GL.val i b (OV.nilCheck hx hp) (k p f).go⟩
theorem LhS {x y : Operand} {t : TypeId} {s : Str} {i : Int} {k0 : IntKind} {K : UInt8 → Prop} [ht : TyU P t .string] (h : ixs s i K) (m : Wt ops l g) (hx : opv l x = some (sv s)) (hy : opv l y = some (.int k0 i)) (k : ∀ c : UInt8, K c → XL P C ops Q n rest ((d, .int .u8 (c.toNat : Int)) :: l) H) (f : Nat.blt d n.n = true := by exact rfl) :
 XL P C ops Q n (⟨some d,.index t x y,ty,pos,after,g⟩::rest) l H:=by
 obtain ⟨c,h0,b,j⟩:=h
 exact ⟨GL.val m f (Xq hx hy ht.e h0 b) (k c j).go⟩
theorem LhU {x : Operand} {lo hi : Option Operand} {t : TypeId} {s : Str} {i f : Option (IntKind × Int)} {a b : Int} {K : Str → Prop} [ht : TyU P t .string] (h : slS s a b K) (B : Wt ops l g) (hx : opv l x = some (sv s)) (m : Sx.optInt l lo = some i) (j : Sx.optInt l hi = some f) (u : a = (i.map fun p => p.2).getD 0) (y : b = (f.map fun p => p.2).getD (s.length : Int))
 (k:∀ t',K t'→XL P C ops Q n rest ((d,sv t')::l) H) (z:Nat.blt d n.n=true:=by exact rfl):XL P C ops Q n (⟨some d,.slice t x lo hi none,ty,pos,after,g⟩::rest) l H:=by
 obtain ⟨h0,q,r,t',o,A⟩:=h
 exact ⟨GL.val B z (Xt h0 q r o hx m j u y ht.e) (k t' A).go⟩
theorem LhL {x : Operand} {lo hi mx : Option Operand} {t e : TypeId} {s : Sl} {y : Nat} {j f i : Option (IntKind × Int)} {a b c : Int} {K : Sl → Prop} [ht : TyU P t (.slice e)] [he : TyZ P e y] (h : slL s a b c y K) (J : Wt ops l g) (hx : opv l x = some (slv s)) (o : Sx.optInt l lo = some j) (m : Sx.optInt l hi = some f) (q : Sx.optInt l mx = some i) (D : a = (j.map fun p => p.2).getD 0) (E : b = (f.map fun p => p.2).getD (s.len : Int)) (F : c = (i.map fun p => p.2).getD (s.cap : Int))
 (r:i.isSome=true→f.isSome=true) (k:∀ t',K t'→XL P C ops Q n rest ((d,slv t')::l) H) (G:Nat.blt d n.n=true:=by exact rfl):XL P C ops Q n (⟨some d,.slice t x lo hi mx,ty,pos,after,g⟩::rest) l H:=by
 obtain ⟨h0,z,A,B,t',u,I⟩:=h
 exact ⟨GL.val J G (XU h0 z A B u hx o m q D E F r ht.e he.e) (k t' I).go⟩
theorem LhC {t yt : TypeId} {x y : Operand} {a b : Str} {K : Prop} (h : catOk a b ∧ K) (i : Wt ops l g) (hx : opv l x = some (sv a)) (hy : opv l y = some (sv b)) (k : K → XL P C ops Q n rest ((d, sv (a ++ b)) :: l) H) (f : Nat.blt d n.n = true := by exact rfl) :
 XL P C ops Q n (⟨some d,.binOp .add t x y yt,ty,pos,after,g⟩::rest) l H:=⟨GL.val i f (Xaw hx hy h.1) (k h.2).go⟩
theorem Dl {p:Nat×Nat} {α:Type} {f:α→Value} {K:α→Prop} (h:∃ x,rd H p=some (f x)∧K x):∃ x,rd H p=some (f x)∧K x:=h
theorem Dt {p:Nat×Nat} {α:Type} {f:α→List Value} {K:α→Prop} (h:∃ x,rds H p (f x)∧K x):∃ x,rds H p (f x)∧K x:=h
theorem Ilt {t:TypeId} {m:Nat} {vs:List (Nat×Value)} {cs:List Value} (h:∀ w:World,(Instr.buildSlice t m vs.toArray).run P w=.ok (.slice (some ⟨w.heap.size,0,none⟩) m m) { w with heap:=w.heap.push (.cells cs.toArray (elT P t)) }):litRun P t m vs cs:=⟨_,h⟩
theorem Lcu {α:Type} {k:Nat} {e:α→List (Nat×Value)} {R:α→HP} {body:(α→HP)→Prop} (h:jnE k e R body)
 (b:∀ J,body J→XL P C ops (Exit.then (Meet C n J e) Q) n (r.take k) l H) (d:∀ v H',R v H'→XL P C ops Q n (r.drop k) (e v) H'):XL P C ops Q n r l H:=by
 obtain ⟨J,g,f⟩:=h
 exact ⟨GL.cut k J e (b J g).go fun v H' i=>(d v H' (f v H' i)).go⟩
theorem Lhn {k:Nat} {e:List (Nat×Value)} {Y X:Prop} {j d':Nat} {want b:Bool} (h:hnt k e Y X) (h1:(ops[j]?).bind (·.dst)=some d') (h2:lk l d' = some (.bool b))
 (k1:b=want→Y→XL P C ops (Exit.then (Meet C n (fun (_:Unit) H2=>H2=H) (fun _=>e)) Q) n ((⟨some d,op,ty,pos,after,some (j,want)⟩::rest).take k) l H)
 (k2:b=!want→XL P C ops (Exit.then (Meet C n (fun (_:Unit) H2=>H2=H) (fun _=>e)) Q) n ((⟨some d,op,ty,pos,after,some (j,want)⟩::rest).take k) l H)
 (k3:X→XL P C ops Q n ((⟨some d,op,ty,pos,after,some (j,want)⟩::rest).drop k) e H) (hY:Y:=by exact trivial):XL P C ops Q n (⟨some d,op,ty,pos,after,some (j,want)⟩::rest) l H:=
 ⟨GL.cut0 k e (by
  by_cases hb:b=want
  ·exact (k1 hb hY).go
  ·exact (k2 (by cases b <;> cases want <;> simp_all)).go) (k3 h).go⟩
theorem Lju {e:List (Nat×Value)} (b:Sub l e):XL P C ops (Exit.then (Meet C n (fun (_:Unit) H2=>H2=H) (fun _=>e)) Q) n [] l H:=⟨Xi (fun _ _ h=>h) () rfl b⟩
theorem Lnil {y:Code} (k:XC P C Q n y l H):XL P C ops (Exit.then (y.wp P Q) Q) n [] l H:=⟨GL.nil k.go⟩
theorem Lnto {y:Code} (b:∀ a w,y.wp P Q' a w→Q .normal a w) (k:XC P C Q' n y l H):XL P C ops Q n [] l H:=⟨Xy b k.go⟩
theorem Lj {α:Type} {J:α→HP} {e:α→List (Nat×Value)} {x:α} (d:∀ a w,Meet C n J e a w→Q .normal a w) (b:J x H) (f:Sub l (e x):=by (repeat refine ⟨rfl,?_⟩); exact trivial):XL P C ops Q n [] l H:=⟨GL.jump d x b f⟩
theorem Lend (h:∀ a w,Fr n l a→St C w H→Q .normal a w):XL P C ops Q n [] l H:=⟨GL.ends h⟩
theorem Cjn {α:Type} {k:Nat} {e:α→List (Nat×Value)} {R:α→HP} {body:(α→HP)→Prop} {x y:Code} (h:jnC k e R body) (j:szC x=k)
 (b:∀ J,body J→XC P C (Exit.then (Meet C n J e) Q) n x l H) (d:∀ v H',R v H'→XC P C Q n y (e v) H'):XC P C Q n (.seq x y) l H:=by
 obtain ⟨J,g,f⟩:=h
 exact ⟨Xad J e (b J g).go fun v H' i=>(d v H' (f v H' i)).go⟩
theorem Cme {α:Type} {b:Nat} {o:Array Oper} {e:α→List (Nat×Value)} {R:α→HP} {body:(α→HP)→Prop} (h:jnM e R body)
 (d:∀ J,body J→XC P C (Exit.then (Meet C n J e) Q) n (.region b o true) l H) (f:∀ v H',R v H'→XL P C #[] Q n [] (e v) H'):XC P C Q n (.region b o true) l H:=by
 obtain ⟨J,i,g⟩:=h
 exact ⟨XaF J e (d J i).go fun v H' j=>(f v H' (g v H' j)).go⟩
theorem Cseq {x y:Code} (k:XC P C (Exit.then (y.wp P Q) Q) n x l H):XC P C Q n (.seq x y) l H:=⟨GC.seq k.go⟩
theorem Crg {b:Nat} {ops:List Oper} (k:XL P C ops.toArray Q n ops l H):XC P C Q n (.region b ops.toArray false) l H:=⟨GC.region k.go⟩
theorem Cbl {b:Nat} {c:Code} (k:XC P C (Exit.inBlock b Q) n c l H):XC P C Q n (.block b c) l H:=⟨GC.block k.go⟩
theorem Ccd {c:Operand} {x y:Code} {b:Bool} {A B:Prop} (h:ift b A B) (g:opv l c=some (.bool b)) (d:b=true→A→XC P C Q n x l H) (f:b=false→B→XC P C Q n y l H):XC P C Q n (.cond c x y) l H:=⟨GC.cond g (fun e=>(d e (h.1 e)).go) fun e=>(f e (h.2 e)).go⟩
theorem Clp {α:Type} {e:α→List (Nat×Value)} {d:α} {body:α→(α→HP)→HP} {c:Code} (h:lpE e d H body)
 (b:∀ x H' (J:α→HP),body x J H'→XC P C (Exit.then (Meet C n J e) Q) n c (e x) H') (g:Sub l (e d):=by (repeat refine ⟨rfl,?_⟩); exact trivial):XC P C Q n (.loop c) l H:=⟨GC.loop h e g fun x H' J f=>(b x H' J f).go⟩
theorem Csk {y:Code} (k:XC P C Q n y l H):XC P C (Exit.then (y.wp P Q) Q) n .skip l H:=⟨GC.skip k.go⟩
theorem Csto {y:Code} (b:∀ a w,y.wp P Q' a w→Q .normal a w) (k:XC P C Q' n y l H):XC P C Q n .skip l H:=⟨XF b k.go⟩
theorem Csj {α:Type} {J:α→HP} {e:α→List (Nat×Value)} {x:α} (d:∀ a w,Meet C n J e a w→Q .normal a w) (b:J x H) (f:Sub l (e x):=by (repeat refine ⟨rfl,?_⟩); exact trivial):XC P C Q n .skip l H:=⟨GC.jump d x b f⟩
theorem Cse (h:∀ a w,Fr n l a→St C w H→Q .normal a w):XC P C Q n .skip l H:=⟨GC.ends h⟩
theorem Cex {b:Nat} {α:Type} {J:α→HP} {e:α→List (Nat×Value)} {x:α} (f:∀ a w,Meet C n J e a w→Q (.exit b) a w) (d:J x H) (g:Sub l (e x):=by (repeat refine ⟨rfl,?_⟩); exact trivial):XC P C Q n (.exit b) l H:=⟨Xab f x d g⟩
theorem Ceto {b:Nat} {y:Code} (d:∀ a w,y.wp P Q' a w→Q (.exit b) a w) (k:XC P C Q' n y l H):XC P C Q n (.exit b) l H:=⟨Xr d k.go⟩
theorem Cee {b:Nat} (h:∀ a w,Fr n l a→St C w H→Q (.exit b) a w):XC P C Q n (.exit b) l H:=⟨XH h⟩
theorem Crt (h:∀ a w,Fr n l a→St C w H→Q .ret a w):XC P C Q n .ret l H:=⟨GC.ret h⟩
theorem Cr1 {b:Func} {Φ:Value→HP} {t m:Nat} {v:Value} (f:∀ a w,SpecPost P C b Φ .ret a w→Q .ret a w) (g:b.results = #[.tmp t]) (d:lk l t=some v) (h:Φ v H):XC P C Q ⟨m,[]⟩ .ret l H:=⟨Y1 f h g d⟩
theorem Cr2 {d:Func} {Φ:Value→HP} {t u m:Nat} {x y:Value} (g:∀ a w,SpecPost P C d Φ .ret a w→Q .ret a w) (i:d.results = #[.tmp t,.tmp u]) (f:lk l t=some x) (b:lk l u=some y) (h:Φ (.tuple #[x,y]) H):XC P C Q ⟨m,[]⟩ .ret l H:=⟨Y2 g h i f b⟩
theorem Cr3 {f:Func} {Φ:Value→HP} {t u s m:Nat} {x y z:Value} (i:∀ a w,SpecPost P C f Φ .ret a w→Q .ret a w) (j:f.results = #[.tmp t,.tmp u,.tmp s]) (g:lk l t=some x) (b:lk l u=some y) (d:lk l s=some z) (h:Φ (.tuple #[x,y,z]) H):XC P C Q ⟨m,[]⟩ .ret l H:=⟨Y3 i h j g b d⟩
theorem Cnv {c:Code} (h:False):XC P C Q n c l H:=h.elim
end
end
end Sx
end
