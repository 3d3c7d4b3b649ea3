/-
  Texts of this family, one behind the other: SxBase, SxOps, SxMem, SxApp, SxReg, SxAll, SxAny, SxLaw, SxUser, SxMore, SxArr, SxBld, SxClr, SxTwo, SxRf, SxZip, SxZip2, SxMapK, SxUn, SxUse2, SxRow, SxDoor, SxPan, SxEqT, SxRec, Sh1.
-/
import Derived.RangeFuncRecord
import Derived.Tactics
import Derived.Deep.Quiet
import Derived.StillTail
import Derived.Scope
import Derived.WalkMore
import Derived.WalkKit
import Derived.OrdersHeld
import Derived.ProofKit
import Derived.OpenShut
import Derived.ShutString
import Derived.ChangeOld
import Derived.Below
import Derived.WideKeyArgs
import Derived.Deep.Slices
import Derived.IntWalk
import Derived.Lib.Builder
import Derived.Lib.UnsafeStr
import Derived.Lib.MakeNoZero
import Derived.Lib.Bytealg
import Derived.WalkSpells
import Derived.Lib.LazyBuf
import Derived.RangeFuncIn
import Derived.RangeFuncLeaves
import Derived.OrdersIn
import Derived.LoopNIn
import Derived.MapKept
import Derived.Deep.DeepHandedRow
import Derived.Recover
import Derived.Test.YtmeefnmaphmpkaaGreatDoorProg
noncomputable section
set_option linter.unusedVariables false
set_option linter.unusedSimpArgs false
set_option maxRecDepth 10000
namespace Sx
section
open Go
inductive GO where
 | row (c:List Value)
 /-- a row of a type that is known; it may be written from k on -/
 | trow (t:TypeId) (k:Nat) (c:List Value)
 /-- a strings.Builder (types T, e) that holds bs; its buffer is hidden -/
 | bld (T e:TypeId) (bs:List UInt8)
 | obj (o:Obj)
def GO.isBld:GO→Bool
 | .bld _ _ _=>true
 | _=>false
def GO.cells?:GO→Option (List Value)
 | .row c=>some c
 | .trow _ _ c=>some c
 | _=>none
abbrev Heap:=Nat→Option (Bool×GO)
structure Ctx where
 old:Array Obj
 out:Array (Nat×ByteArray)
 os:Os
 tape:Nat→Question→Nat
 drawn:Nat
def GO.rel (m:Bool):GO→Obj→Prop
 | .row c,.cells c' _ fr=>c' = c.toArray∧(m=true→fr.1=fr.2∨c.length≤fr.1)
 | .trow t k c,.cells c' t' fr=>c' = c.toArray∧t' = t∧(m=true→fr.1=fr.2∨fr.2≤k)
 | .bld _ _ _,_=>True
 | .obj o,o'=>o' = o∧∀ c t fr,o≠.cells c t fr
 | _,_=>False
/-- where a builder's bytes lie -/
def BufAt (C:Ctx) (w:World) (H:Heap) (b:Nat) (T e:TypeId) (bs:List UInt8):Option Nat→Prop
 | none=>∃ (p:Option Addr) (fr:Nat×Nat),w.heap[b]? = some (.cells #[.pointer p,.slice none 0 0] T fr)∧(p=none∨p=some ⟨b,0,none⟩)∧(fr.1=fr.2∨fr.2≤0)∧bs=[]
 | some g => ∃ (p : Option Addr) (fr : Nat × Nat) (cap : Nat) (row : Array Value) (fr' : Nat × Nat), w.heap[b]? = some (.cells #[.pointer p, .slice (some ⟨g, 0, none⟩) bs.length cap] T fr) ∧ (p = none ∨ p = some ⟨b, 0, none⟩) ∧ (fr.1 = fr.2 ∨ fr.2 ≤ 0) ∧
  H g=none∧C.old.size≤g∧w.heap[g]? = some (.cells row e fr')∧(∀ (j:Nat) (c:UInt8),bs[j]? = some c→row[j]? = some (Value.int .u8 (c.toNat:Int)))∧cap=row.size∧cap≠0∧bs.length≤cap∧(fr'.1=fr'.2∨fr'.2≤bs.length)
structure Blds (C:Ctx) (w:World) (H:Heap) (B:Nat→Option Nat):Prop where
 at_:∀ b m T e bs,H b=some (m,.bld T e bs)→m=true∧BufAt C w H b T e bs (B b)
 inj:∀ b b' g m T e bs m' T' e' bs',H b=some (m,.bld T e bs)→H b' = some (m',.bld T' e' bs')→B b=some g→B b' = some g→b=b'
structure St (C:Ctx) (w:World) (H:Heap):Prop where
 blk:∀ b m g,H b=some (m,g)→∃ o,w.heap[b]? = some o∧g.rel m o
 wri:∀ b g,H b=some (true,g)→C.old.size≤b
 old:∀ b:Nat,b < C.old.size→w.heap[b]? = C.old[b]?
 out:w.output=C.out
 os:(w.os,w.tape)=(C.os,C.tape)∧C.drawn≤w.drawn
 bld:∃ B,Blds C w H B
theorem BufAt.stays {C:Ctx} {w w':World} {H H':Heap} {b:Nat} {T e:TypeId} {bs:List UInt8} {og:Option Nat} (h:BufAt C w H b T e bs og) (hb:w'.heap[b]? = w.heap[b]?)
 (hg:∀ g,og=some g→w'.heap[g]? = w.heap[g]?∧H' g=none):BufAt C w' H' b T e bs og:=by
 cases og with
 | none=>simp only [BufAt] at h ⊢; rw [hb]; exact h
 | some g=>
  obtain ⟨p,fr,cap,row,fr',h1,h2,h3,h4,h5,h6,h7⟩:=h
  obtain ⟨e1,e2⟩:=hg g rfl
  exact ⟨p,fr,cap,row,fr',by rw [hb]; exact h1,h2,h3,e2,h5,by rw [e1]; exact h6,h7⟩
def Heap.put (H:Heap) (b:Nat) (g:GO) (m:Bool:=true):Heap:=fun x=>if x=b then some (m,g) else H x
theorem Heap.put_same (H:Heap) (b:Nat) (g:GO) (m:Bool):H.put b g m b=some (m,g):=by simp [Heap.put]
theorem Heap.put_ne (H:Heap) {b x:Nat} (g:GO) (m:Bool) (h:x≠b):H.put b g m x=H x:=by simp [Heap.put,h]
def Heap.le (H H':Heap):Prop:=∀ b e,H b=some e→H' b=some e
theorem Heap.le.refl (H:Heap):H.le H:=fun _ _ h=>h
theorem Heap.le.trans {A B D:Heap} (h:A.le B) (h':B.le D):A.le D:=fun b e x=>h' b e (h b e x)
theorem Heap.le.put {A B:Heap} {b:Nat} (g:GO) (m:Bool) (h:A.le B) (hb:A b=none):A.le (B.put b g m):=fun x e hx=>by
 by_cases hxb:x=b
 ·subst hxb; rw [hb] at hx; cases hx
 ·rw [Heap.put_ne _ _ _ hxb]; exact h x e hx
theorem Heap.le.none {A B:Heap} {b:Nat} (h:A.le B) (hb:B b=none):A b=none:=by
 cases ha:A b with
 | none=>rfl
 | some e=>have:=h b e ha; rw [hb] at this; cases this
theorem St.weaken {C:Ctx} {w:World} {H H':Heap} (h:St C w H') (le:H.le H'):St C w H:=
 ⟨fun b m g x=>h.blk b m g (le b _ x),fun b g x=>h.wri b g (le b _ x),h.old,h.out,h.os,by
  obtain ⟨B,hB⟩:=h.bld
  refine ⟨B,fun b m T e bs hb=>?_,fun b b' g m T e bs m' T' e' bs' hb hb'=>hB.inj b b' g m T e bs m' T' e' bs' (le b _ hb) (le b' _ hb')⟩
  obtain ⟨h1,h2⟩:=hB.at_ b m T e bs (le b _ hb)
  refine ⟨h1,h2.stays rfl fun g hg=>⟨rfl,le.none ?_⟩⟩
  rw [hg] at h2
  exact h2.choose_spec.choose_spec.choose_spec.choose_spec.choose_spec.2.2.2.1⟩
theorem St.lt {C:Ctx} {w:World} {H:Heap} (h:St C w H) {b:Nat} {e} (hb:H b=some e):b < w.heap.size:=by
 obtain ⟨o,ho,_⟩:=h.blk b e.1 e.2 hb
 exact (Array.getElem?_eq_some_iff.1 ho).1
theorem St.old_le {C:Ctx} {w:World} {H:Heap} (h:St C w H):C.old.size≤w.heap.size:=by
 rcases Nat.eq_zero_or_pos C.old.size with h0 | h0
 ·omega
 ·have := h.old (C.old.size - 1) (by omega)
  have h1:(C.old[C.old.size - 1]?).isSome:=by simp; omega
  rw [← this] at h1
  have h2:C.old.size - 1 < w.heap.size:=by simpa using h1
  omega
theorem St.drew {C:Ctx} {w:World} {H:Heap} (h:St C w H):St C { w with drawn:=w.drawn+1 } H:=
 ⟨h.blk,h.wri,h.old,h.out,⟨h.os.1,Nat.le_succ_of_le h.os.2⟩,by
  obtain ⟨B,hB⟩:=h.bld
  exact ⟨B,fun b m T e bs hb=>⟨(hB.at_ b m T e bs hb).1,(hB.at_ b m T e bs hb).2.stays rfl fun g hg=>⟨rfl,by
   have h2:=(hB.at_ b m T e bs hb).2
   rw [hg] at h2
   exact h2.choose_spec.choose_spec.choose_spec.choose_spec.choose_spec.2.2.2.1⟩⟩,hB.inj⟩⟩
theorem BufAt.at_ {C:Ctx} {w:World} {H:Heap} {b:Nat} {T e:TypeId} {bs:List UInt8} {og:Option Nat} (h:BufAt C w H b T e bs og):(∃ c fr,w.heap[b]? = some (.cells c T fr))∧∀ g,og=some g→H g=none∧C.old.size≤g∧∃ o,w.heap[g]? = some o:=by
 cases og with
 | none=>
  obtain ⟨p,fr,h1,_⟩:=h
  exact ⟨⟨_,_,h1⟩,fun g hg=>by cases hg⟩
 | some g=>
  obtain ⟨p,fr,cap,row,fr',h1,h2,h3,h4,h5,h6,h7⟩:=h
  exact ⟨⟨_,_,h1⟩,fun g' hg=>by injection hg with hg; subst hg; exact ⟨h4,h5,_,h6⟩⟩
theorem St.fresh {C:Ctx} {w:World} {H:Heap} (h:St C w H):H w.heap.size=none:=by
 cases hb:H w.heap.size with
 | none=>rfl
 | some e=>have:=h.lt hb; omega
/-- a new block -/
theorem St.push {C : Ctx} {w : World} {H : Heap} (h : St C w H) {o : Obj} {g : GO} {m : Bool} (hr : g.rel m o) (hg0 : g.isBld = false := by rfl) :
 St C { w with heap:=w.heap.push o } (H.put w.heap.size g m):=by
 have hol:=h.old_le
 refine ⟨fun b m' g' x=>?_,fun b g' x=>?_,fun b hb=>?_,h.out,h.os,?_⟩
 rotate_left 3
 ·obtain ⟨B,hB⟩:=h.bld
  have hne:∀ b m T e bs,(H.put w.heap.size g m) b=some (m,.bld T e bs)→b≠w.heap.size:=fun b m T e bs hb e'=>by
   subst e'; rw [Heap.put_same] at hb; injection hb with hb; injection hb with _ hb; rw [hb] at hg0; cases hg0
  have hold:∀ b m' T e bs,(H.put w.heap.size g m) b=some (m',.bld T e bs)→H b=some (m',.bld T e bs):=fun b m' T e bs hb=>by
   by_cases e':b=w.heap.size
   ·subst e'; rw [Heap.put_same] at hb; injection hb with hb; injection hb with _ hb; rw [hb] at hg0; cases hg0
   ·rwa [Heap.put_ne _ _ _ e'] at hb
  refine ⟨B,fun b m' T e bs hb=>?_,fun b b' g' m T e bs m' T' e' bs' hb hb'=>hB.inj b b' g' m T e bs m' T' e' bs' (hold _ _ _ _ _ hb) (hold _ _ _ _ _ hb')⟩
  have hb:=hold _ _ _ _ _ hb
  obtain ⟨h1,h2⟩:=hB.at_ b m' T e bs hb
  have hlt:=h.lt hb
  obtain ⟨_,h3⟩:=h2.at_
  refine ⟨h1,h2.stays ?_ fun g' hg'=>?_⟩
  ·have : b ≠ w.heap.size := by omega
   simp [Array.getElem?_push,this]
  ·obtain ⟨q1,q2,o',q3⟩:=h3 g' hg'
   have hl:g' < w.heap.size:=(Array.getElem?_eq_some_iff.1 q3).1
   have:g' ≠ w.heap.size:=by omega
   exact ⟨by simp [Array.getElem?_push,this],by rw [Heap.put_ne _ _ _ this]; exact q1⟩
 ·by_cases hbb:b=w.heap.size
  ·subst hbb
   rw [Heap.put_same] at x
   injection x with x; injection x with x1 x2; subst x1; subst x2
   exact ⟨o,by simp,hr⟩
  ·rw [Heap.put_ne _ _ _ hbb] at x
   obtain ⟨o',ho',hr'⟩:=h.blk b m' g' x
   have:=h.lt x
   exact ⟨o',by simp [Array.getElem?_push,hbb,ho'],hr'⟩
 ·by_cases hbb:b=w.heap.size
  ·subst hbb; exact hol
  ·rw [Heap.put_ne _ _ _ hbb] at x; exact h.wri b g' x
 ·have : b ≠ w.heap.size := by omega
  rw [← h.old b hb]
  simp [Array.getElem?_push,this]
/-- a block written over -/
theorem St.set {C:Ctx} {w w':World} {H:Heap} (h:St C w H) {b:Nat} {g g':GO} {o':Obj} (hb:H b=some (true,g))
 (hs:w'.output=w.output∧(w'.os,w'.tape,w'.drawn)=(w.os,w.tape,w.drawn)∧w'.heap[b]? = some o'∧∀ x,x≠b→w'.heap[x]? = w.heap[x]?) (hr:g'.rel true o') (hg0:g'.isBld=false:=by rfl) :
 St C w' (H.put b g'):=by
 obtain ⟨h1,h2,h3,h4⟩:=hs
 have hm:=h.wri b g hb
 refine ⟨fun x m' g'' hx=>?_,fun x g'' hx=>?_,fun x hx=>?_,h1.trans h.out,⟨(congrArg (fun q:Os×(Nat→Question→Nat)×Nat=>(q.1,q.2.1)) h2).trans h.os.1,by rw [show w'.drawn=w.drawn from congrArg (fun q:Os×(Nat→Question→Nat)×Nat=>q.2.2) h2]; exact h.os.2⟩,?_⟩
 rotate_left 3
 ·obtain ⟨B,hB⟩:=h.bld
  have hold:∀ x m' T e bs,(H.put b g') x=some (m',.bld T e bs)→x≠b∧H x=some (m',.bld T e bs):=fun x m' T e bs hx=>by
   by_cases e':x=b
   ·subst e'; rw [Heap.put_same] at hx; injection hx with hx; injection hx with _ hx; rw [hx] at hg0; cases hg0
   ·exact ⟨e',by rwa [Heap.put_ne _ _ _ e'] at hx⟩
  refine ⟨B,fun x m' T e bs hx=>?_,fun x x' g'' m T e bs m' T' e' bs' hx hx'=>hB.inj x x' g'' m T e bs m' T' e' bs' (hold _ _ _ _ _ hx).2 (hold _ _ _ _ _ hx').2⟩
  obtain ⟨hxb,hx⟩:=hold _ _ _ _ _ hx
  obtain ⟨q1,q2⟩:=hB.at_ x m' T e bs hx
  obtain ⟨_,q3⟩:=q2.at_
  refine ⟨q1,q2.stays (h4 x hxb) fun g'' hg''=>?_⟩
  obtain ⟨r1,r2,_⟩:=q3 g'' hg''
  have hne:g'' ≠ b:=fun e'=>by subst e'; rw [hb] at r1; cases r1
  exact ⟨h4 _ hne,by rw [Heap.put_ne _ _ _ hne]; exact r1⟩
 ·by_cases hxb:x=b
  ·subst hxb
   rw [Heap.put_same] at hx
   injection hx with hx; injection hx with x1 x2; subst x1; subst x2
   exact ⟨o',h3,hr⟩
  ·rw [Heap.put_ne _ _ _ hxb] at hx
   obtain ⟨o,ho,hr'⟩:=h.blk x m' g'' hx
   exact ⟨o,by rw [h4 x hxb]; exact ho,hr'⟩
 ·by_cases hxb:x=b
  ·subst hxb; exact hm
  ·rw [Heap.put_ne _ _ _ hxb] at hx; exact h.wri x g'' hx
 ·have : x ≠ b := by omega
  rw [h4 x this]; exact h.old x hx
def Post (C:Ctx) (Φ:Value→Heap→Prop):Ending→World→Prop:=fun e w'=>∃ v H',e=.returned v∧St C w' H'∧Φ v H'
def Spec (P:Program) (C:Ctx) (f:FuncId) (args:List Value) (H:Heap) (Φ:Value→Heap→Prop):Prop:=
 ∀ w,St C w H→Calls P f args.toArray w (Post C Φ)
theorem Spec.mono {P:Program} {C:Ctx} {f:FuncId} {args:List Value} {H:Heap} {Φ Ψ:Value→Heap→Prop} (h:Spec P C f args H Φ)
 (hh:∀ v H',Φ v H'→Ψ v H'):Spec P C f args H Ψ:=
 fun w hw=>(h w hw).mono fun e w' ⟨v,H',h1,h2,h3⟩=>⟨v,H',h1,h2,hh _ _ h3⟩
def lk:List (Nat×Value)→Nat→Option Value
 | [],_=>none
 | (d,v)::l,t=>bif Nat.beq t d then some v else lk l t
/-- how many slots a frame has, and what is deferred in it -/
structure FN where
 n:Nat
 ds:List Deferred
structure Fr (n:FN) (l:List (Nat×Value)) (a:Act):Prop where
 size:a.tmps.size=n.n
 defers:a.defers=n.ds
 get:∀ t v,lk l t=some v→a.tmps[t]? = some v
def Sub (l:List (Nat×Value)):List (Nat×Value)→Prop
 | []=>True
 | (d,v)::r=>lk l d=some v∧Sub l r
theorem Sub.lk {l:List (Nat×Value)}:∀ {r:List (Nat×Value)},Sub l r→∀ t v,Sx.lk r t=some v→Sx.lk l t=some v
 | [],_,t,v,h=>by cases h
 | (d,u)::r,hs,t,v,h=>by
  simp only [Sx.lk] at h
  cases hb:Nat.beq t d with
  | true=>
   rw [hb] at h
   have:t=d:=Nat.eq_of_beq_eq_true hb
   subst this
   simp only [cond_true] at h
   rw [← h]; exact hs.1
  | false=>rw [hb] at h; exact Sub.lk hs.2 t v h
theorem Fr.sub {n:FN} {l r:List (Nat×Value)} {a:Act} (h:Fr n l a) (hs:Sub l r):Fr n r a:=
 ⟨h.size,h.defers,fun t v x=>h.get t v (hs.lk t v x)⟩
theorem Fr.put {n:FN} {d:Nat} {l:List (Nat×Value)} {a:Act} {v:Value} (h:Fr n l a) (hd:Nat.blt d n.n=true):Fr n ((d,v)::l) (a.put (some d) v):=by
 have hd':d < n.n:=by simpa using hd
 refine ⟨by simp [Act.put,h.size],by simp [Act.put,h.defers],fun t u x=>?_⟩
 simp only [lk] at x
 cases hb:Nat.beq t d with
 | true=>
  rw [hb] at x
  have:t=d:=Nat.eq_of_beq_eq_true hb
  subst this
  simp only [cond_true,Option.some.injEq] at x
  subst x
  have:=h.size
  have h3:t < a.tmps.size:=by omega
  simp [Act.put,h3]
 | false=>
  rw [hb] at x
  have:t≠d:=Nat.ne_of_beq_eq_false hb
  simp only [cond_false] at x
  simp only [Act.put]
  rw [Array.getElem?_setIfInBounds_ne (Ne.symm this)]
  exact h.get t u x
def opv (l:List (Nat×Value)):Operand→Option Value
 | .tmp t=>lk l t
 | .const v=>some v
 | .global g=>some (.pointer (some ⟨g,0,none⟩))
 | .func f=>some (.func (.func f) #[] #[])
theorem Fr.ev {n:FN} {l:List (Nat×Value)} {a:Act} {x:Operand} {v:Value} (h:Fr n l a) (hx:opv l x=some v):a.eval x=v:=by
 cases x with
 | tmp t=>have:=h.get t v hx; simp [Act.eval,Array.getD_eq_getD_getElem?,this]
 | const u=>simpa [opv,Act.eval] using hx
 | global g=>simpa [opv,Act.eval] using hx
 | func f=>simpa [opv,Act.eval] using hx
def opvs (l:List (Nat×Value)):List Operand→Option (List Value)
 | []=>some []
 | x :: xs => match opv l x, opvs l xs with
  | some v,some vs=>some (v::vs)
  | _,_=>none
theorem Fr.evs {n:FN} {l:List (Nat×Value)} {a:Act} (h:Fr n l a):∀ {xs:List Operand} {vs:List Value},opvs l xs=some vs→xs.map a.eval=vs
 | [],vs,hx=>by simpa [opvs] using hx
 | x::xs,vs,hx=>by
  simp only [opvs] at hx
  split at hx
  ·rename_i v us h1 h2
   injection hx with hx
   subst hx
   simp [h.ev h1,h.evs h2]
  ·cases hx
section
variable (P:Program) (C:Ctx)
def GC (Q:Exit→Act→World→Prop) (n:FN) (c:Code) (l:List (Nat×Value)) (H:Heap):Prop:=
 ∀ a w,Fr n l a→St C w H→c.wp P Q a w
def GL (ops:Array Oper) (Q:Exit→Act→World→Prop) (n:FN) (rest:List Oper) (l:List (Nat×Value)) (H:Heap):Prop:=
 ∀ a w,Fr n l a→St C w H→wpList P ops Q rest a w
end
section
variable {P:Program} {C:Ctx} {Q:Exit→Act→World→Prop} {n:FN} {l:List (Nat×Value)} {H:Heap}
theorem GC.region {id:Nat} {ops:List Oper} (k:GL P C ops.toArray Q n ops l H):GC P C Q n (.region id ops.toArray false) l H:=
 fun a w hf hs=>wp_region_lit (k a w hf hs)
theorem GC.seq {x y:Code} (k:GC P C (Exit.then (y.wp P Q) Q) n x l H):GC P C Q n (.seq x y) l H:=
 fun a w hf hs=>wp_seq (k a w hf hs)
theorem GL.nil {ops:Array Oper} {y:Code} (k:GC P C Q n y l H):GL P C ops (Exit.then (y.wp P Q) Q) n [] l H:=
 fun a w hf hs=>k a w hf hs
theorem GC.skip {y:Code} (k:GC P C Q n y l H):GC P C (Exit.then (y.wp P Q) Q) n .skip l H:=
 fun a w hf hs=>wp_skip (k a w hf hs)
/-- what is known where ways meet -/
def Meet (C:Ctx) (n:FN) {α:Type} (J:α→Heap→Prop) (e:α→List (Nat×Value)) (a:Act) (w:World):Prop:=
 ∃ x H',J x H'∧Fr n (e x) a∧St C w H'
theorem Meet.mk {α:Type} {J:α→Heap→Prop} {e:α→List (Nat×Value)} {a:Act} {w:World} (x:α) (hj:J x H) (hs:Sub l (e x)) (hf:Fr n l a) (hw:St C w H) :
 Meet C n J e a w:=⟨x,H,hj,hf.sub hs,hw⟩
theorem GC.join {α:Type} (J:α→Heap→Prop) (e:α→List (Nat×Value)) {x y:Code}
 (h1:GC P C (Exit.then (Meet C n J e) Q) n x l H) (h2:∀ x H',J x H'→GC P C Q n y (e x) H'):GC P C Q n (.seq x y) l H:=
 fun a w hf hs=>wp_seq (wp_mono (h1 a w hf hs) fun ex a' w' hq=>by
  cases ex with
  | normal=>obtain ⟨x,H',hj,hf',hs'⟩:=hq; exact h2 x H' hj a' w' hf' hs'
  | _=>exact hq)
theorem GL.jump {α:Type} {J:α→Heap→Prop} {e:α→List (Nat×Value)} {ops:Array Oper} (hq:∀ a w,Meet C n J e a w→Q .normal a w) (x:α) (hj:J x H) (hs:Sub l (e x)) :
 GL P C ops Q n [] l H:=fun a w hf hw=>hq a w (Meet.mk x hj hs hf hw)
theorem GC.jump {α:Type} {J:α→Heap→Prop} {e:α→List (Nat×Value)} (hq:∀ a w,Meet C n J e a w→Q .normal a w) (x:α) (hj:J x H) (hs:Sub l (e x)) :
 GC P C Q n .skip l H:=fun a w hf hw=>wp_skip (hq a w (Meet.mk x hj hs hf hw))
theorem GC.exit_jump {α:Type} {J:α→Heap→Prop} {e:α→List (Nat×Value)} {id:Nat} (hq:∀ a w,Meet C n J e a w→Q (.exit id) a w) (x:α) (hj:J x H) (hs:Sub l (e x)) :
 GC P C Q n (.exit id) l H:=fun a w hf hw=>wp_exit (hq a w (Meet.mk x hj hs hf hw))
theorem GC.cond {c:Operand} {x y:Code} {b:Bool} (hc:opv l c=some (.bool b)) (h1:b=true→GC P C Q n x l H) (h2:b=false→GC P C Q n y l H) :
 GC P C Q n (.cond c x y) l H:=
 fun a w hf hs=>wp_cond_split (hf.ev hc) (fun h=>h1 h a w hf hs) (fun h=>h2 h a w hf hs)
theorem GC.block {id:Nat} {c:Code} (k:GC P C (Exit.inBlock id Q) n c l H):GC P C Q n (.block id c) l H:=
 fun a w hf hs=>wp_block (k a w hf hs)
theorem Qng {c:Code} {a:Act} {w:World} (I:Nat→Act→World→Prop) {m:Nat} (h₀:I m a w)
 (round:∀ m a w,I m a w→c.wp P (Exit.then (fun a' w'=>∃ m',m' < m∧I m' a' w') Q) a w):(Code.loop c).wp P Q a w:=by
 intro b k cs
 have key:∀ m a w,I m a w→∃ e a' w',Q e a' w'∧Arrives P (lone (b.at a (.code c::.inLoop c::k)) cs w) b k cs e a' w':=by
  intro m
  induction m using Nat.strongRecOn with
  | _ m ih=>
   intro a w hI
   obtain ⟨e,a₁,w₁,hq,harr⟩:=round m a w hI b (.inLoop c::k) cs
   cases e with
   | normal=>
    obtain ⟨m',hlt,hI₁⟩:=hq
    obtain ⟨e₂,a₂,w₂,hq₂,harr₂⟩:=ih m' hlt a₁ w₁ hI₁
    exact ⟨e₂,a₂,w₂,hq₂,.of_steps (Steps.trans harr (.one step_inLoop)) harr₂⟩
   | exit id=>exact ⟨_,a₁,w₁,hq,.pass (x:=.inLoop c) rfl (fun _ _=>.inl (by simp)) harr⟩
   | goto l=>exact ⟨_,a₁,w₁,hq,.pass (x:=.inLoop c) rfl (fun _ _=>.inl (by simp)) harr⟩
   | ret=>exact ⟨_,a₁,w₁,hq,.pass (x:=.inLoop c) rfl (fun _ _=>.inl (by simp)) harr⟩
   | panic ch=>exact ⟨_,a₁,w₁,hq,.pass (x:=.inLoop c) rfl (fun _ _=>.inl (by simp)) harr⟩
   | outgrown=>exact ⟨_,a₁,w₁,hq,.pass (x:=.inLoop c) rfl (fun _ _=>.inl (by simp)) harr⟩
 obtain ⟨e,a',w',hq,harr⟩:=key _ a w h₀
 exact ⟨e,a',w',hq,.of_steps (.one step_loop) harr⟩
/-- a loop: 'lp' is the shallow form -/
def lp {α:Type} (x0:α) (H:Heap) (body:α→(α→Heap→Prop)→Heap→Prop):Prop:=
 ∃ (I:α→Heap→Prop) (μ:α→Heap→Nat),I x0 H∧∀ x H,I x H→body x (fun x' H'=>I x' H'∧μ x' H' < μ x H) H
theorem GC.loop {α:Type} {x0:α} {body:α→(α→Heap→Prop)→Heap→Prop} (h:lp x0 H body) (e:α→List (Nat×Value)) (hs:Sub l (e x0)) {c:Code}
 (round:∀ x H' (J:α→Heap→Prop),body x J H'→GC P C (Exit.then (Meet C n J e) Q) n c (e x) H'):GC P C Q n (.loop c) l H:=by
 obtain ⟨I,μ,h0,hr⟩:=h
 intro a w hf hw
 refine Qng (fun m a w=>∃ x H',μ x H' = m∧I x H'∧Fr n (e x) a∧St C w H') ⟨x0,H,rfl,h0,hf.sub hs,hw⟩ ?_
 rintro m a w ⟨x,H',rfl,hI,hf',hw'⟩
 refine wp_mono (round x H' _ (hr x H' hI) a w hf' hw') fun ex a' w' hq=>?_
 cases ex with
 | normal=>
  obtain ⟨x',H'',⟨hI',hlt⟩,hf'',hw''⟩:=hq
  exact ⟨_,hlt,x',H'',rfl,hI',hf'',hw''⟩
 | _=>exact hq
/-- ways meet: 'jn' is the shallow form -/
def jn {α:Type} (R:α→Heap→Prop) (body:(α→Heap→Prop)→Prop):Prop:=∃ J:α→Heap→Prop,body J∧∀ x H,J x H→R x H
theorem jn.inl {α:Type} {R:α→Heap→Prop} {body:(α→Heap→Prop)→Prop} (h:body R):jn R body:=⟨R,h,fun _ _ h=>h⟩
def ift (c:Bool) (A B:Prop):Prop:=(c=true→A)∧(c=false→B)
theorem ift.of {c:Bool} {A B:Prop} (h1:c=true→A) (h2:c=false→B):ift c A B:=⟨h1,h2⟩
def argFrame (args:List Value):List (Nat×Value):=args.zipIdx.map fun p=>(p.2,p.1)
theorem Qfy : ∀ (args : List Value) (k t : Nat) (v : Value), lk ((args.zipIdx k).map fun p => (p.2, p.1)) t = some v → k ≤ t ∧ args[t - k]? = some v
 | [],k,t,v,h=>by simp [lk] at h
 | a::azs,k,t,v,h=>by
  simp only [List.zipIdx_cons,List.map_cons,lk] at h
  cases hb:Nat.beq t k with
  | true=>
   rw [hb] at h
   have:t=k:=Nat.eq_of_beq_eq_true hb
   subst this
   simp only [cond_true,Option.some.injEq] at h
   subst h
   simp
  | false=>
   rw [hb] at h
   have hne:t≠k:=Nat.ne_of_beq_eq_false hb
   have ih:=Qfy azs (k+1) t v h
   refine ⟨by omega,?_⟩
   have:t - k=(t - (k+1))+1:=by omega
   rw [this]; simpa using ih.2
def SpecPost (P:Program) (C:Ctx) (fn:Func) (Φ:Value→Heap→Prop):Exit→Act→World→Prop
 | .normal,a,w | .ret,a,w=>LeavesInM Fence.wide 0 P fn a.tmps (Post C Φ) a.defers .returning w
 | _,_,_=>False
theorem SpecPost.body {fn:Func} {Φ:Value→Heap→Prop}:∀ (e:Exit) (a:Act) (w:World),SpecPost P C fn Φ e a w→bodyPostM Fence.wide 0 P fn (Post C Φ) e a w
 | .normal,_,_,h=>h
 | .ret,_,_,h=>h
 | .panic _,_,_,h=>h.elim
 | .outgrown,_,_,h=>h.elim
 | .exit _,_,_,h=>h.elim
 | .goto _,_,_,h=>h.elim
theorem Qbb {fn:Func} {Φ:Value→Heap→Prop} {a:Act} {w:World} {v:Value} (hr:(results fn a.tmps).run P w=.ok v w) (hd:a.defers=[]) (hR:Post C Φ (.returned v) w):SpecPost P C fn Φ .ret a w:=by
 show LeavesInM Fence.wide 0 P fn a.tmps (Post C Φ) a.defers .returning w
 rw [hd]; exact ⟨v,hr,hR⟩
theorem Spec.enter {n:Nat} {f:FuncId} {fn:Func} {c:Code} {args:List Value} {Φ:Value→Heap→Prop} (hf:P.funcs[f]? = some fn) (hb:fn.body=some c) (hn:fn.ntmps=n)
 (ha:Nat.ble args.length n=true) (k:GC P C (SpecPost P C fn Φ) ⟨n,[]⟩ c (argFrame args) H):Spec P C f args H Φ:=by
 intro w hw
 refine callsIn_wide.1 (callsIn_of_wp_marks (n:=0) hf hb trivial (wpIn_wide.2 (wp_mono (k _ w ⟨?_,rfl,?_⟩ hw) SpecPost.body)))
 ·have : args.length ≤ n := by simpa using ha
  simp [hn]; omega
 ·intro t v h
  have:=(Qfy args 0 t v h).2
  simp only [Nat.sub_zero] at this
  have hlt:t < args.length:=(List.getElem?_eq_some_iff.1 this).1
  simp only [Array.getElem?_append,List.size_toArray,hlt,if_true,List.getElem?_toArray]
  exact this
theorem Qg8 {fn:Func} {Φ:Value→Heap→Prop} {t:Nat} {v:Value} {a:Act} {w:World} (hr:fn.results = #[.tmp t]) (hl:lk l t=some v) {m:Nat} (hf:Fr ⟨m,[]⟩ l a) (hw:St C w H) (h:Φ v H) :
 SpecPost P C fn Φ .ret a w:=by
 refine Qbb (v:=v) ?_ hf.defers ⟨v,H,rfl,hw,h⟩
 have:=hf.get t v hl
 rw [results_tmp hr]
 simp [Array.getD_eq_getD_getElem?,this]
theorem QfN {fn:Func} {Φ:Value→Heap→Prop} {a:Act} {w:World} (hr:fn.results = #[]) {m:Nat} (hf:Fr ⟨m,[]⟩ l a) (hw:St C w H) (h:Φ (.tuple #[]) H) :
 SpecPost P C fn Φ .ret a w:=by
 refine Qbb (v:=.tuple #[]) ?_ hf.defers ⟨_,H,rfl,hw,h⟩
 rw [results_none hr]
theorem Qpb {fn:Func} {Φ:Value→Heap→Prop} {t u:Nat} {x y:Value} {a:Act} {w:World} (hr:fn.results = #[.tmp t,.tmp u]) (hl:lk l t=some x) (hl2:lk l u=some y)
 {m:Nat} (hf:Fr ⟨m,[]⟩ l a) (hw:St C w H) (h:Φ (.tuple #[x,y]) H):SpecPost P C fn Φ .ret a w:=by
 refine Qbb (v:=.tuple #[x,y]) ?_ hf.defers ⟨_,H,rfl,hw,h⟩
 have h1:=hf.get t x hl
 have h2:=hf.get u y hl2
 rw [results_tmp2 hr]
 simp [Array.getD_eq_getD_getElem?,h1,h2]
theorem Qpc {fn:Func} {Φ:Value→Heap→Prop} {t u s:Nat} {x y z:Value} {a:Act} {w:World} (hr:fn.results = #[.tmp t,.tmp u,.tmp s]) (hl:lk l t=some x) (hl2:lk l u=some y)
 (hl3:lk l s=some z) {m:Nat} (hf:Fr ⟨m,[]⟩ l a) (hw:St C w H) (h:Φ (.tuple #[x,y,z]) H):SpecPost P C fn Φ .ret a w:=by
 refine Qbb (v:=.tuple #[x,y,z]) ?_ hf.defers ⟨_,H,rfl,hw,h⟩
 have h1:=hf.get t x hl
 have h2:=hf.get u y hl2
 have h3:=hf.get s z hl3
 simp [results,hr,Array.getD_eq_getD_getElem?,h1,h2,h3]
theorem GC.ret (h:∀ a w,Fr n l a→St C w H→Q .ret a w):GC P C Q n .ret l H:=fun a w hf hs=>wp_ret (h a w hf hs)
theorem GC.ends (h:∀ a w,Fr n l a→St C w H→Q .normal a w):GC P C Q n .skip l H:=fun a w hf hs=>wp_skip (h a w hf hs)
end
end
section
open Go
abbrev Str:=List UInt8
def sv (s:Str):Value:=.string ⟨s.toArray⟩
structure Sl where
 p:Option (Nat×Nat)
 len:Nat
 cap:Nat
 x:Option Nat
abbrev Sl.of (p:Option (Nat×Nat)) (len cap:Nat):Sl:=⟨p,len,cap,none⟩
def adv (p:Nat×Nat):Addr:=⟨p.1,p.2,none⟩
def pv (p:Option (Nat×Nat)):Value:=.pointer (p.map adv)
def Sl.ad (s:Sl):Option Addr:=s.p.map fun p=>⟨p.1,p.2,s.x⟩
def slv (s:Sl):Value:=.slice s.ad s.len s.cap
def mv (m:Option Nat):Value:=.map m
def Sl.nil:Sl:=⟨none,0,0,none⟩
def rd (H:Heap) (p:Nat×Nat):Option Value:=
 match H p.1 with
 | some (_, g) => match g.cells? with
  | some c=>c[p.2]?
  | none=>none
 | none=>none
def rds (H:Heap) (p:Nat×Nat):List Value→Prop
 | []=>True
 | v::r=>rd H p=some v∧rds H (p.1,p.2+1) r
theorem St.cell {C:Ctx} {w:World} {H:Heap} (h:St C w H) {p:Nat×Nat} {v:Value} (hr:rd H p=some v):w.cell? (adv p)=some v:=by
 unfold rd at hr
 split at hr
 ·rename_i m g hb
  obtain ⟨o,ho,hrel⟩:=h.blk _ _ _ hb
  split at hr
  ·rename_i c hc
   cases g <;> simp only [GO.cells?,Option.some.injEq,reduceCtorEq] at hc <;> subst hc <;> cases o <;> simp only [GO.rel] at hrel <;> simp [World.cell?,adv,ho,hrel.1,hr]
  ·cases hr
 ·cases hr
theorem QiL (p:Nat×Nat) (k:Nat):(adv p).add k=adv (p.1,p.2+k):=by
 unfold Addr.add adv
 by_cases h:k=0
 ·simp [h]
 ·simp [h]
section
variable {P:Program} {C:Ctx} {Q:Exit→Act→World→Prop} {n:FN} {l:List (Nat×Value)} {H:Heap} {ops:Array Oper} {rest:List Oper} {d:Nat} {ty:TypeId} {pos:String} {after:Array Edge}
/-- the guard says yes -/
def Wt (ops:Array Oper) (l:List (Nat×Value)):Option (Nat×Bool)→Prop
 | none=>True
 | some (j,want)=>∃ d b,(ops[j]?).bind (·.dst)=some d∧lk l d=some (.bool b)∧b=want
/-- the guard says no -/
def Wn (ops:Array Oper) (l:List (Nat×Value)):Option (Nat×Bool)→Prop
 | none=>False
 | some (j,want)=>∃ d,(ops[j]?).bind (·.dst)=some d∧((∃ b,lk l d=some (.bool b)∧b=!want)∨lk l d=some undef)
theorem Wt.wanted {g} (h:Wt ops l g) {o:Oper} (ho:o.guard=g) {a:Act} (hf:Fr n l a):Region.wanted o (yielded ops a.tmps)=true:=by
 cases g with
 | none=>simp [Region.wanted,ho]
 | some x=>
  obtain ⟨j,want⟩:=x
  obtain ⟨d,b,h1,h2,h3⟩:=h
  have:=hf.get d _ h2
  simp [Region.wanted,ho,yielded,h1,this,h3]
theorem Wn.wanted {g} (h:Wn ops l g) {o:Oper} (ho:o.guard=g) {a:Act} (hf:Fr n l a):Region.wanted o (yielded ops a.tmps)=false:=by
 cases g with
 | none=>exact h.elim
 | some x=>
  obtain ⟨j,want⟩:=x
  obtain ⟨d,h1,⟨b,h2,h3⟩ | h2⟩:=h
  ·have:=hf.get d _ h2
   simp [Region.wanted,ho,yielded,h1,this,h3]
  ·have:=hf.get d _ h2
   simp [Region.wanted,ho,yielded,h1,this,undef]
variable {g:Option (Nat×Bool)}
theorem GL.skip {op:Op} (hw:Wn ops l g) (hd:Nat.blt d n.n=true) (k:GL P C ops Q n rest ((d,undef)::l) H):GL P C ops Q n (⟨some d,op,ty,pos,after,g⟩::rest) l H:=by
 intro a w hf hs
 have hx:=hw.wanted (o:=⟨some d,op,ty,pos,after,g⟩) rfl hf
 simp only [wpList,hx]
 exact k _ w (hf.put hd) hs
/-- an operation that yields a value and a world -/
theorem GL.run {op:Op} {v:Value} (hw:Wt ops l g) (hd:Nat.blt d n.n=true)
 (hr:∀ a w,Fr n l a→St C w H→∃ v w' H',(execOp a.eval ⟨some d,op,ty,pos,after,g⟩).run P w=.ok (.value v) w'∧St C w' H'∧GL P C ops Q n rest ((d,v)::l) H') :
 GL P C ops Q n (⟨some d,op,ty,pos,after,g⟩::rest) l H:=by
 intro a w hf hs
 have hx:=hw.wanted (o:=⟨some d,op,ty,pos,after,g⟩) rfl hf
 obtain ⟨v,w',H',h1,h2,h3⟩:=hr a w hf hs
 simp only [wpList,hx,if_true]
 refine .inl ?_
 unfold Oper.wp
 rw [h1]
 exact h3 _ _ (hf.put hd) h2
/-- an operation that yields a value and leaves the world -/
def OV (P:Program) (C:Ctx) (n:FN) (l:List (Nat×Value)) (H:Heap) (o:Oper) (v:Value):Prop:=
 ∀ a w,Fr n l a→St C w H→(execOp a.eval o).run P w=.ok (.value v) w
theorem GL.val {op:Op} {v:Value} (hw:Wt ops l g) (hd:Nat.blt d n.n=true) (hr:OV P C n l H ⟨some d,op,ty,pos,after,g⟩ v) (k:GL P C ops Q n rest ((d,v)::l) H) :
 GL P C ops Q n (⟨some d,op,ty,pos,after,g⟩::rest) l H:=by
 intro a w hf hs
 have hx:=hw.wanted (o:=⟨some d,op,ty,pos,after,g⟩) rfl hf
 simp only [wpList,hx,if_true]
 refine .inl ?_
 unfold Oper.wp
 rw [hr a w hf hs]
 exact k _ _ (hf.put hd) hs
theorem OV.move {x:Operand} {v:Value} (hx:opv l x=some v):OV P C n l H ⟨some d,.move x,ty,pos,after,g⟩ v:=
 (fun a w hf hs=>by simp [execOp,hf.ev hx])
theorem OV.assign {x:Operand} {v:Value} (hx:opv l x=some v):OV P C n l H ⟨some d,.assign x,ty,pos,after,g⟩ v:=
 (fun a w hf hs=>by simp [execOp,hf.ev hx])
theorem OV.pickT {c x y:Operand} {b:Bool} {v:Value} (hc:opv l c=some (.bool b)) (hb:b=true) (hx:opv l x=some v):OV P C n l H ⟨some d,.pick c x y,ty,pos,after,g⟩ (v):=
 (fun a w hf hs=>by subst hb; simp [execOp,hf.ev hc,hf.ev hx,asBool])
theorem OV.pickF {c x y:Operand} {b:Bool} {v:Value} (hc:opv l c=some (.bool b)) (hb:b=false) (hx:opv l y=some v):OV P C n l H ⟨some d,.pick c x y,ty,pos,after,g⟩ (v):=
 (fun a w hf hs=>by subst hb; simp [execOp,hf.ev hc,hf.ev hx,asBool])
def w (k:IntKind) (x:Int):Int:=k.wrap x
def bAnd (k:IntKind) (x y:Int):Int:=k.wrap ((BitVec.ofInt k.bits x &&& BitVec.ofInt k.bits y).toNat)
def bOr (k:IntKind) (x y:Int):Int:=k.wrap ((BitVec.ofInt k.bits x ||| BitVec.ofInt k.bits y).toNat)
def bXor (k:IntKind) (x y:Int):Int:=k.wrap ((BitVec.ofInt k.bits x ^^^ BitVec.ofInt k.bits y).toNat)
def bAndNot (k:IntKind) (x y:Int):Int:=k.wrap ((BitVec.ofInt k.bits x &&& ~~~ BitVec.ofInt k.bits y).toNat)
def sShl (k:IntKind) (x y:Int):Int:=k.wrap (x*2 ^ (min y.toNat k.bits))
def sShr (k:IntKind) (x y:Int):Int:=x.fdiv (2 ^ (min y.toNat k.bits))
def ibin (op:BinOp) (k:IntKind) (x y:Int):Option Value:=
 match op with
 | .add=>some (.int k (w k (x+y)))
 | .sub=>some (.int k (w k (x - y)))
 | .mul=>some (.int k (w k (x*y)))
 | .and=>some (.int k (bAnd k x y))
 | .or=>some (.int k (bOr k x y))
 | .xor=>some (.int k (bXor k x y))
 | .andNot=>some (.int k (bAndNot k x y))
 | .eql=>some (.bool (x == y))
 | .neq=>some (.bool (x != y))
 | .lss=>some (.bool (decide (x < y)))
 | .leq=>some (.bool (decide (x≤y)))
 | .gtr=>some (.bool (decide (x > y)))
 | .geq=>some (.bool (decide (x ≥ y)))
 | _=>none
theorem Qcu (P:Program) (op:BinOp) (t:TypeId) (x y:Operand) (k k':IntKind) (a b:Int) (w:World):(eqGuard op t x y (.int k a) (.int k' b)).run P w=.ok () w:=by
 unfold eqGuard; cases op <;> rfl
theorem OV.ibin {op:BinOp} {t yt:TypeId} {x y:Operand} {k0:IntKind} {a b:Int} {v:Value} (hx:opv l x=some (.int k0 a)) (hy:opv l y=some (.int k0 b))
 (hv:Sx.ibin op k0 a b=some v):OV P C n l H ⟨some d,.binOp op t x y yt,ty,pos,after,g⟩ (v):=
 (fun ac w hf hs=>by
  simp only [execOp,hf.ev hx,hf.ev hy]
  simp only [bind_pure_comp,Sem.run_map,Sem.run_bind,Qcu,Result.andThen_ok]
  cases op <;> simp only [Sx.ibin,Option.some.injEq,reduceCtorEq] at hv <;> subst hv <;> simp [Go.binOp,Op.intArith,Op.intBits,Op.intCmp,Sx.w,bAnd,bOr,bXor,bAndNot])
theorem OV.shl {t yt:TypeId} {x y:Operand} {k0 k1:IntKind} {a b:Int} (hx:opv l x=some (.int k0 a)) (hy:opv l y=some (.int k1 b)) (hb:0≤b):OV P C n l H ⟨some d,.binOp .shl t x y yt,ty,pos,after,g⟩ (.int k0 (sShl k0 a b)):=
 (fun ac w hf hs=>by
  have:¬ b < 0:=by omega
  simp only [execOp,hf.ev hx,hf.ev hy,bind_pure_comp,Sem.run_map,Sem.run_bind,Qcu,Result.andThen_ok]
  simp [Go.binOp,Op.shift,this,sShl])
theorem OV.shr {t yt:TypeId} {x y:Operand} {k0 k1:IntKind} {a b:Int} (hx:opv l x=some (.int k0 a)) (hy:opv l y=some (.int k1 b)) (hb:0≤b):OV P C n l H ⟨some d,.binOp .shr t x y yt,ty,pos,after,g⟩ (.int k0 (sShr k0 a b)):=
 (fun ac w hf hs=>by
  have:¬ b < 0:=by omega
  simp only [execOp,hf.ev hx,hf.ev hy,bind_pure_comp,Sem.run_map,Sem.run_bind,Qcu,Result.andThen_ok]
  simp [Go.binOp,Op.shift,this,sShr])
theorem OV.quo {t yt:TypeId} {x y:Operand} {k0:IntKind} {a b:Int} (hx:opv l x=some (.int k0 a)) (hy:opv l y=some (.int k0 b)) (hb:b≠0):OV P C n l H ⟨some d,.binOp .quo t x y yt,ty,pos,after,g⟩ (.int k0 (Sx.w k0 (a.tdiv b))):=
 (fun ac w hf hs=>by
  simp only [execOp,hf.ev hx,hf.ev hy,bind_pure_comp,Sem.run_map,Sem.run_bind,Qcu,Result.andThen_ok]
  simp [Go.binOp,Op.intDiv,hb,Sx.w])
theorem OV.rem {t yt:TypeId} {x y:Operand} {k0:IntKind} {a b:Int} (hx:opv l x=some (.int k0 a)) (hy:opv l y=some (.int k0 b)) (hb:b≠0):OV P C n l H ⟨some d,.binOp .rem t x y yt,ty,pos,after,g⟩ (.int k0 (a.tmod b)):=
 (fun ac w hf hs=>by
  simp only [execOp,hf.ev hx,hf.ev hy,bind_pure_comp,Sem.run_map,Sem.run_bind,Qcu,Result.andThen_ok]
  simp [Go.binOp,Op.intDiv,hb])
def iun (op:UnOp) (k:IntKind) (x:Int):Option Value:=
 match op with
 | .neg=>some (.int k (w k (0 - x)))
 | .xor=>some (.int k (bXor k (if k.signed then -1 else k.max) x))
 | _=>none
theorem OV.iun {op:UnOp} {t:TypeId} {x:Operand} {k0:IntKind} {a:Int} {v:Value} (hx:opv l x=some (.int k0 a)) (hv:Sx.iun op k0 a=some v):OV P C n l H ⟨some d,.unOp op t x,ty,pos,after,g⟩ (v):=
 (fun ac w hf hs=>by
  simp only [execOp,hf.ev hx]
  cases op <;> simp only [Sx.iun,Option.some.injEq,reduceCtorEq] at hv <;> subst hv <;> simp [Op.unary,Op.intArith,Op.intBits,Sx.w,bXor])
theorem OV.not {t:TypeId} {x:Operand} {b:Bool} (hx:opv l x=some (.bool b)):OV P C n l H ⟨some d,.unOp .not t x,ty,pos,after,g⟩ (.bool (!b)):=
 (fun ac w hf hs=>by simp [execOp,hf.ev hx,Op.unary])
theorem OV.convInt {s dt:TypeId} {x:Operand} {k0 k1:IntKind} {a:Int} (hx:opv l x=some (.int k0 a)) (hs:(P.underlying s).isSome=true) (ht:P.underlying dt=some (.int k1)):OV P C n l H ⟨some d,.convert s dt x,ty,pos,after,g⟩ (.int k1 (Sx.w k1 a)):=
 (fun ac w hf hst=>by
  obtain ⟨ds,hds⟩:=Option.isSome_iff_exists.1 hs
  simp only [execOp,hf.ev hx,convert,bind_pure_comp,Sem.run_map,Sem.run_bind,underlying,run_program,Result.andThen_ok,hds,ht,Sem.run_pure]
  cases ds <;> simp [Conv.intToInt,Sx.w])
def slt (s t:Str):Bool:=Op.bytesLess s t
def sbin (op:BinOp) (s t:Str):Option Value:=
 match op with
 | .eql=>some (.bool (s == t))
 | .neq=>some (.bool (!(s == t)))
 | .lss=>some (.bool (slt s t))
 | .leq=>some (.bool (slt s t || (s == t)))
 | .gtr=>some (.bool (!(slt s t || (s == t))))
 | .geq=>some (.bool (!(slt s t)))
 | _=>none
theorem QeO (P:Program) (op:BinOp) (t:TypeId) (x y:Operand) (a b:ByteArray) (w:World):(eqGuard op t x y (.string a) (.string b)).run P w=.ok () w:=by
 unfold eqGuard; cases op <;> rfl
theorem OV.sbin {op:BinOp} {t yt:TypeId} {x y:Operand} {a b:Str} {v:Value} (hx:opv l x=some (sv a)) (hy:opv l y=some (sv b))
 (hv:Sx.sbin op a b=some v):OV P C n l H ⟨some d,.binOp op t x y yt,ty,pos,after,g⟩ (v):=
 (fun ac w hf hs=>by
  simp only [execOp,hf.ev hx,hf.ev hy,sv]
  simp only [bind_pure_comp,Sem.run_map,Sem.run_bind,QeO,Result.andThen_ok]
  cases op <;> simp only [Sx.sbin,Option.some.injEq,reduceCtorEq] at hv <;> subst hv <;> simp [Go.binOp,Op.stringOp,slt])
theorem OV.cat {t yt:TypeId} {x y:Operand} {a b:Str} (hx:opv l x=some (sv a)) (hy:opv l y=some (sv b)) (hl:a.length+b.length < 9223372036854775807):OV P C n l H ⟨some d,.binOp .add t x y yt,ty,pos,after,g⟩ (sv (a++b)):=
 (fun ac w hf hs=>by
  simp only [execOp,hf.ev hx,hf.ev hy,sv]
  simp only [bind_pure_comp,Sem.run_map,Sem.run_bind,QeO,Result.andThen_ok]
  have h1:¬ (((⟨a.toArray⟩:ByteArray).size+(⟨b.toArray⟩:ByteArray).size:Nat):Int) > IntKind.i64.max:=by
   simp [ByteArray.size,IntKind.max,IntKind.bits,IntKind.signed]; omega
  have h2:(⟨a.toArray⟩:ByteArray)++⟨b.toArray⟩=⟨(a++b).toArray⟩:=by
   apply ByteArray.ext; simp
  simp only [Go.binOp,Op.stringOp,h1,if_false,Sem.run_pure,Result.andThen_ok,h2])
theorem OV.extract {x:Operand} {i:Nat} {vs:Array Value} {v:Value} (hx:opv l x=some (.tuple vs)) (hv:vs[i]? = some v):OV P C n l H ⟨some d,.extract x i,ty,pos,after,g⟩ (v):=
 (fun ac w hf hs=>by simp [execOp,hf.ev hx,Instr.extract,hv])
theorem OV.nilCheck {x:Operand} {p:Nat×Nat} {q:Option (Nat×Nat)} (hx:opv l x=some (pv q)) (hq:q=some p):OV P C n l H ⟨some d,.nilCheck x,ty,pos,after,g⟩ (pv (some p)):=
 (fun ac w hf hs=>by subst hq; simp [execOp,hf.ev hx,pv])
theorem OV.nilCheckF {x:Operand} {f:Nat} {fs cs:Array Value} (hx:opv l x=some (.func (.func f) fs cs)):OV P C n l H ⟨some d,.nilCheck x,ty,pos,after,g⟩ (.func (.func f) fs cs):=
 (fun ac w hf hs=>by simp [execOp,hf.ev hx])
def fieldOff (P:Program) (t:TypeId) (i:Nat):Option Nat:=
 match P.underlying t with
 | some (.struct fs) => match fs[i]? with
  | some f => match P.info? f.type with
   | some inf=>if inf.size=0 then none else some f.offset
   | none=>none
  | none=>none
 | _=>none
theorem Qna {t:TypeId} {i off:Nat} {p:Nat×Nat} (w:World) (h:fieldOff P t i=some off):(Instr.fieldAt t (pv (some p)) i).run P w=.ok (pv (some (p.1,p.2+off))) w:=by
 unfold fieldOff at h
 split at h
 ·rename_i fs hfs
  split at h
  ·rename_i f hf
   split at h
   ·rename_i inf hinf
    split at h
    ·cases h
    ·rename_i hz
     injection h with h
     subst h
     simp [Instr.fieldAt,underlying,hfs,hf,Instr.sureAddr,pv,fieldPlace,Go.sizeOf,typeInfo,hinf,hz,QiL]
   ·cases h
  ·cases h
 ·cases h
theorem OV.fieldAddr {t:TypeId} {x:Operand} {i off:Nat} {p:Nat×Nat} (hx:opv l x=some (pv (some p))) (ho:fieldOff P t i=some off):OV P C n l H ⟨some d,.fieldAddr t x i,ty,pos,after,g⟩ (pv (some (p.1,p.2+off))):=
 (fun ac w hf hs=>by simp [execOp,hf.ev hx,Qna w ho])
theorem OV.makeFunc {fn:Fn} {fs cs:Array Operand} {vs us:List Value} (hx:opvs l fs.toList=some vs) (hy:opvs l cs.toList=some us):OV P C n l H ⟨some d,.makeFunc fn fs cs,ty,pos,after,g⟩ (.func fn vs.toArray us.toArray):=
 (fun ac w hf hs=>by
  have h1:fs.map ac.eval=vs.toArray:=by apply Array.ext'; simp [hf.evs hx]
  have h2:cs.map ac.eval=us.toArray:=by apply Array.ext'; simp [hf.evs hy]
  simp [execOp,Instr.makeFunc,h1,h2])
/-- an operation on values alone, its run given -/
theorem OV.field {t:TypeId} {x:Operand} {i:Nat} {u v:Value} (hx:opv l x=some u) (hr:∀ w,(Instr.field t u i).run P w=.ok v w):OV P C n l H ⟨some d,.field t x i,ty,pos,after,g⟩ (v):=
 (fun ac w hf hs=>by simp [execOp,hf.ev hx,hr])
def partVals (l:List (Nat×Value)):List (Nat×Operand)→Option (List (Nat×Value))
 | []=>some []
 | (i, x) :: xs => match opv l x, partVals l xs with
  | some v,some vs=>some ((i,v)::vs)
  | _,_=>none
theorem Fr.parts {a : Act} (h : Fr n l a) : ∀ {xs : List (Nat × Operand)} {vs : List (Nat × Value)}, partVals l xs = some vs → xs.map (fun p => (p.1, a.eval p.2)) = vs
 | [],vs,hx=>by simpa [partVals] using hx
 | (i,x)::xs,vs,hx=>by
  simp only [partVals] at hx
  split at hx
  ·rename_i v us h1 h2
   injection hx with hx
   subst hx
   simp [h.ev h1,h.parts h2]
  ·cases hx
theorem OV.build {t:TypeId} {ps:Array (Nat×Operand)} {vs:List (Nat×Value)} {v:Value} (hx:partVals l ps.toList=some vs)
 (hr:∀ w,(Instr.build t vs.toArray).run P w=.ok v w):OV P C n l H ⟨some d,.build t ps,ty,pos,after,g⟩ (v):=
 (fun ac w hf hs=>by
  have h1:ps.map (fun p=>(p.1,ac.eval p.2))=vs.toArray:=by apply Array.ext'; simp [hf.parts hx]
  simp only [execOp]
  rw [show (ps.map fun x=>match x with | (i,x)=>(i,ac.eval x))=ps.map (fun p=>(p.1,ac.eval p.2)) from rfl,h1]
  simp [hr])
theorem Qew (P:Program) (op:BinOp) (t:TypeId) (x y:Operand) (a b:Option Addr) (w:World):(eqGuard op t x y (.pointer a) (.pointer b)).run P w=.ok () w:=by
 unfold eqGuard; cases op <;> rfl
theorem OV.eqlNil {t yt e:TypeId} {x y:Operand} {p:Option (Nat×Nat)} (hx:opv l x=some (pv p)) (hy:opv l y=some (.pointer none)) (ht:P.underlying t=some (.pointer e)):OV P C n l H ⟨some d,.binOp .eql t x y yt,ty,pos,after,g⟩ (.bool p.isNone):=
 (fun ac w hf hs=>by
  simp only [execOp,hf.ev hx,hf.ev hy,pv]
  simp only [bind_pure_comp,Sem.run_map,Sem.run_bind,Qew,Result.andThen_ok]
  have he:P.pointee t=e:=by simp [Program.pointee,ht]
  have:=run_eql_pointer_nil (P:=P) w t (p.map adv) (by rw [he]; exact ht)
  rw [this]; simp)
theorem OV.neqNil {t yt e:TypeId} {x y:Operand} {p:Option (Nat×Nat)} (hx:opv l x=some (pv p)) (hy:opv l y=some (.pointer none)) (ht:P.underlying t=some (.pointer e)):OV P C n l H ⟨some d,.binOp .neq t x y yt,ty,pos,after,g⟩ (.bool (!p.isNone)):=
 (fun ac w hf hs=>by
  simp only [execOp,hf.ev hx,hf.ev hy,pv]
  simp only [bind_pure_comp,Sem.run_map,Sem.run_bind,Qew,Result.andThen_ok]
  have he:P.pointee t=e:=by simp [Program.pointee,ht]
  have:=run_neq_pointer_nil (P:=P) w t (p.map adv) (by rw [he]; exact ht)
  rw [this]; simp)
theorem Qgm (P:Program) (op:BinOp) (t:TypeId) (x y:Operand) (a b:Bool) (w:World):(eqGuard op t x y (.bool a) (.bool b)).run P w=.ok () w:=by
 unfold eqGuard; cases op <;> rfl
theorem OV.eqlBool {t yt:TypeId} {x y:Operand} {a b:Bool} (hx:opv l x=some (.bool a)) (hy:opv l y=some (.bool b)) (ht:P.underlying t=some .bool):OV P C n l H ⟨some d,.binOp .eql t x y yt,ty,pos,after,g⟩ (.bool (a == b)):=
 (fun ac w hf hs=>by
  simp only [execOp,hf.ev hx,hf.ev hy]
  simp only [bind_pure_comp,Sem.run_map,Sem.run_bind,Qgm,Result.andThen_ok]
  rw [run_eql_bool (P:=P) w t a b ht]; rfl)
theorem OV.neqBool {t yt:TypeId} {x y:Operand} {a b:Bool} (hx:opv l x=some (.bool a)) (hy:opv l y=some (.bool b)) (ht:P.underlying t=some .bool):OV P C n l H ⟨some d,.binOp .neq t x y yt,ty,pos,after,g⟩ (.bool (!(a == b))):=
 (fun ac w hf hs=>by
  simp only [execOp,hf.ev hx,hf.ev hy]
  simp only [bind_pure_comp,Sem.run_map,Sem.run_bind,Qgm,Result.andThen_ok]
  rw [run_neq_bool (P:=P) w t a b ht]; rfl)
end
end
section
open Go
def splice (c:List Value) (o:Nat) (vs:List Value):List Value:=c.take o++vs++c.drop (o+vs.length)
theorem QiU (c:List Value) (o:Nat):splice c o []=c:=by simp [splice]
theorem QlO {c:List Value} {o:Nat} {vs:List Value} (h:o+vs.length≤c.length):(splice c o vs).length=c.length:=by simp [splice]; omega
theorem Qh7 {c:List Value} {o:Nat} {v:Value} {vs:List Value} (h:o+(vs.length+1)≤c.length):splice (c.set o v) (o+1) vs=splice c o (v::vs):=by
 unfold splice
 have h1:(c.set o v).take (o+1)=c.take o++[v]:=by
  rw [List.take_succ_eq_append_getElem (by simp; omega)]
  simp [List.take_set_of_le]
 have h2:(c.set o v).drop (o+1+vs.length)=c.drop (o+(vs.length+1)):=by
  rw [List.drop_set_of_lt (by omega)]
  congr 1; omega
 rw [h1,h2]
 simp
def one (v:Value):Bool:=v.oneCell'
theorem St.setCell {C:Ctx} {w:World} {H:Heap} (h:St C w H) {b o:Nat} {c:List Value} {v:Value} (hb:H b=some (true,.row c)) (ho:o < c.length) :
 (∃ u,w.cell? ⟨b,o,none⟩=some u)∧w.frozen? ⟨b,o,none⟩=false∧St C (w.setCell ⟨b,o,none⟩ v) (H.put b (.row (c.set o v))):=by
 obtain ⟨ob,hob,hrel⟩:=h.blk _ _ _ hb
 cases ob <;> simp only [GO.rel] at hrel
 rename_i c' t fr
 obtain ⟨hc,hfr⟩:=hrel
 subst hc
 refine ⟨⟨c[o],?_⟩,?_,?_⟩
 ·simp [World.cell?,hob,ho]
 ·have:=hfr trivial
  obtain ⟨lo,hi⟩:=fr
  simp only [World.frozen?,hob]
  simp only [] at this
  simp; omega
 ·refine h.set hb (o' := .cells (c.set o v).toArray t fr) ⟨rfl, rfl, ?_, ?_⟩ ⟨rfl, fun _ => by simpa using hfr trivial⟩
  ·have:b < w.heap.size:=(Array.getElem?_eq_some_iff.1 hob).1
   simp [World.setCell,Array.getElem?_modify,hob]
  ·intro x hx
   simp [World.setCell,Array.getElem?_modify,Ne.symm hx]
theorem St.stores {P:Program} {C:Ctx} {b o:Nat}:∀ (vs:List Value) (i:Nat) (w:World) (H:Heap) (c:List Value),St C w H→H b=some (true,.row c)→o+i+vs.length≤c.length→(∀ v ∈ vs,v.oneCell' = true)→
 ∃ w',(storeCells ⟨b,o,none⟩ vs i).run P w=.ok () w'∧St C w' (H.put b (.row (splice c (o+i) vs)))
 | [],i,w,H,c,h,hb,hl,h1=>by
  refine ⟨w,rfl,?_⟩
  rw [QiU]
  have:H.put b (.row c)=H:=by
   funext x; by_cases hx:x=b
   ·subst hx; rw [Heap.put_same,hb]
   ·rw [Heap.put_ne _ _ _ hx]
  rw [this]; exact h
 | v::vs,i,w,H,c,h,hb,hl,h1=>by
  simp only [List.length_cons] at hl
  obtain ⟨⟨u,hu⟩,hf,hst⟩:=h.setCell (v:=v) hb (o:=o+i) (by omega)
  have hadd:(⟨b,o,none⟩:Addr).add i=⟨b,o+i,none⟩:=QiL (b,o) i
  obtain ⟨w',hr,hs'⟩:=St.stores (P:=P) vs (i+1) _ _ (c.set (o+i) v) hst (Heap.put_same ..) (show o+(i+1)+vs.length≤(c.set (o+i) v).length by rw [List.length_set]; omega) (fun v' hv'=>h1 v' (List.mem_cons_of_mem _ hv'))
  refine ⟨w',?_,?_⟩
  ·simp only [storeCells,Sem.run_bind,hadd]
   rw [run_store P w _ v _ (h1 v (List.mem_cons_self ..))]
   simp only [hu,hf,Bool.false_eq_true,if_false,Result.andThen_ok]
   exact hr
  ·have : (Heap.put (Heap.put H b (.row (c.set (o + i) v))) b (.row (splice (c.set (o + i) v) (o + (i + 1)) vs))) = H.put b (.row (splice c (o + i) (v :: vs))) := by
    funext x; by_cases hx:x=b
    ·subst hx; rw [Heap.put_same,Heap.put_same,← Qh7 (by omega)]; rfl
    ·rw [Heap.put_ne _ _ _ hx,Heap.put_ne _ _ _ hx,Heap.put_ne _ _ _ hx]
   rw [← this]; exact hs'
theorem Qh5 {H:Heap}:∀ {cs:List Value} {p:Nat×Nat},rds H p cs→∀ j v,cs[j]? = some v→rd H (p.1,p.2+j)=some v
 | [],p,_,j,v,h=>by simp at h
 | c::cs,p,hr,0,v,h=>by simp at h; subst h; exact hr.1
 | c::cs,p,hr,j+1,v,h=>by
  have:=Qh5 hr.2 j v (by simpa using h)
  rw [show p.2+(j+1)=p.2+1+j by omega]; exact this
theorem QiY {H:Heap}:∀ {cs:List Value} {p:Nat×Nat},(∀ j v,cs[j]? = some v→rd H (p.1,p.2+j)=some v)→rds H p cs
 | [],p,_=>trivial
 | c::cs,p,h=>⟨by simpa using h 0 c (by simp),QiY (p:=(p.1,p.2+1)) fun j v hj=>by
  have:=h (j+1) v (by simpa using hj)
  rw [show p.2+1+j=p.2+(j+1) by omega]; exact this⟩
theorem St.loads {P:Program} {C:Ctx} {w:World} {H:Heap} (h:St C w H) {p:Nat×Nat} {cs:List Value} (hr:rds H p cs) {n:Nat} (hn:n=cs.length):(loadCells (adv p) n).run P w=.ok cs.toArray w:=by
 subst hn
 refine run_loadCells_list w (adv p) cs fun j v hj=>?_
 rw [QiL]; exact h.cell (Qh5 hr j v hj)
/-- the first cells of a slice -/
def rdsl (H:Heap) (s:Sl) (cs:List Value):Prop:=cs=[]∨(s.x=none∧∃ p,s.p=some p∧rds H p cs)
theorem Sl.ad_some {s:Sl} {p:Nat×Nat} (hx:s.x=none) (hp:s.p=some p):s.ad=some (adv p):=by simp [Sl.ad,hp,hx,adv]
theorem St.loadsl {P:Program} {C:Ctx} {w:World} {H:Heap} (h:St C w H) {s:Sl} {cs:List Value} (hr:rdsl H s cs) {n:Nat} (hn:n=cs.length) {a:Addr} (ha:s.ad=some a):(loadCells a n).run P w=.ok cs.toArray w:=by
 rcases hr with rfl | ⟨hx,p,hp,hr⟩
 ·subst hn; rfl
 ·rw [Sl.ad_some hx hp] at ha
  injection ha with ha; subst ha
  exact h.loads hr hn
theorem Qr3 {H H':Heap} (h:H.le H') {p:Nat×Nat} {v:Value} (hr:rd H p=some v):rd H' p=some v:=by
 unfold rd at *
 split at hr
 ·rename_i m c hb; rw [h _ _ hb]; exact hr
 ·cases hr
theorem Qqr {H H':Heap} (h:H.le H'):∀ {cs:List Value} {p:Nat×Nat},rds H p cs→rds H' p cs
 | [],_,_=>trivial
 | _::_,_,hr=>⟨Qr3 h hr.1,Qqr h hr.2⟩
theorem QiT {H H':Heap} (h:H.le H') {s:Sl} {cs:List Value} (hr:rdsl H s cs):rdsl H' s cs:=by
 rcases hr with rfl | ⟨hx,p,hp,hr⟩
 ·exact .inl rfl
 ·exact .inr ⟨hx,p,hp,Qqr h hr⟩
section
variable {P:Program} {C:Ctx} {Q:Exit→Act→World→Prop} {n:FN} {l:List (Nat×Value)} {H:Heap} {ops:Array Oper} {rest:List Oper} {d:Nat} {ty:TypeId} {pos:String} {after:Array Edge} {g:Option (Nat×Bool)}
def aggB (P:Program) (t:TypeId):Bool:=
 match P.underlying t with
 | some (.struct _) | some (.array _ _) | none=>true
 | some _=>false
theorem Qex {t:TypeId} (h:aggB P t=false) (w:World):(isAgg t).run P w=.ok false w:=by
 unfold aggB at h
 split at h
 ·cases h
 ·cases h
 ·cases h
 ·rename_i d h1 h2 h3
  cases d <;> simp_all [isAgg,underlying]
def aggT (P:Program) (t:TypeId):Bool:=
 match P.underlying t with
 | some (.struct _) | some (.array _ _)=>true
 | _=>false
theorem Qfc {t:TypeId} (h:aggT P t=true) (w:World):(isAgg t).run P w=.ok true w:=by
 unfold aggT at h
 split at h
 ·rename_i h1; simp [isAgg,underlying,h1]
 ·rename_i h1; simp [isAgg,underlying,h1]
 ·cases h
theorem OV.load {t:TypeId} {x:Operand} {p:Nat×Nat} {v:Value} (hx:opv l x=some (pv (some p))) (ht:aggB P t=false) (hr:rd H p=some v):OV P C n l H ⟨some d,.load t x,ty,pos,after,g⟩ (v):=
 (fun ac w hf hs=>by
  have:=hs.cell hr
  simp only [execOp,hf.ev hx,pv,Option.map_some,Instr.loadAt,Instr.sureAddr,loadVar]
  simp only [bind_pure_comp,Sem.run_map,Sem.run_bind,Sem.run_pure,Result.andThen_ok,Qex ht]
  simp [this])
theorem OV.loadT {t:TypeId} {x:Operand} {p:Nat×Nat} {cs:List Value} (hx:opv l x=some (pv (some p))) (ht:aggT P t=true) (hi:(P.info? t).map (·.size)=some cs.length) (hr:rds H p cs):OV P C n l H ⟨some d,.load t x,ty,pos,after,g⟩ (.agg cs.toArray):=
 (fun ac w hf hs=>by
  cases hinf:P.info? t with
  | none=>rw [hinf] at hi; cases hi
  | some inf=>
   rw [hinf] at hi
   have hsz:inf.size=cs.length:=by simpa using hi
   simp only [execOp,hf.ev hx,pv,Option.map_some,Instr.loadAt,Instr.sureAddr,loadVar]
   simp only [bind_pure_comp,Sem.run_map,Sem.run_bind,Sem.run_pure,Result.andThen_ok,Qfc ht]
   simp [Go.sizeOf,typeInfo,hinf,hs.loads (P:=P) hr hsz])
def ldI (H:Heap) (k:IntKind) (p:Nat×Nat) (K:Int→Prop):Prop:=∃ x,rd H p=some (.int k x)∧K x
def ldB (H:Heap) (p:Nat×Nat) (K:Bool→Prop):Prop:=∃ x,rd H p=some (.bool x)∧K x
def ldS (H:Heap) (p:Nat×Nat) (K:Str→Prop):Prop:=∃ x,rd H p=some (sv x)∧K x
def ldP (H:Heap) (p:Nat×Nat) (K:Option (Nat×Nat)→Prop):Prop:=∃ x,rd H p=some (pv x)∧K x
def ldL (H:Heap) (p:Nat×Nat) (K:Sl→Prop):Prop:=∃ x,rd H p=some (slv x)∧K x
def ldM (H:Heap) (p:Nat×Nat) (K:Option Nat→Prop):Prop:=∃ x,rd H p=some (mv x)∧K x
def ldV (H:Heap) (p:Nat×Nat) (K:Value→Prop):Prop:=∃ x,rd H p=some x∧K x
def ldT {α:Type} (H:Heap) (c:α→List Value) (p:Nat×Nat) (K:α→Prop):Prop:=∃ x,rds H p (c x)∧K x
/-- a store of one cell -/
def st (p:Nat×Nat) (v:Value) (K:Heap→Prop) (H:Heap):Prop:=∃ c,H p.1=some (true,.row c)∧p.2 < c.length∧K (H.put p.1 (.row (c.set p.2 v)))
/-- a store of several -/
def stT (p:Nat×Nat) (vs:List Value) (K:Heap→Prop) (H:Heap):Prop:=∃ c,H p.1=some (true,.row c)∧p.2+vs.length≤c.length∧K (H.put p.1 (.row (splice c p.2 vs)))
theorem GL.run0 {op:Op} (hw:Wt ops l g)
 (hr:∀ a w,Fr n l a→St C w H→∃ w' H',(execOp a.eval ⟨none,op,ty,pos,after,g⟩).run P w=.ok .skip w'∧St C w' H'∧GL P C ops Q n rest l H') :
 GL P C ops Q n (⟨none,op,ty,pos,after,g⟩::rest) l H:=by
 intro a w hf hs
 have hx:=hw.wanted (o:=⟨none,op,ty,pos,after,g⟩) rfl hf
 obtain ⟨w',H',h1,h2,h3⟩:=hr a w hf hs
 simp only [wpList,hx,if_true]
 refine .inl ?_
 unfold Oper.wp
 rw [h1]
 exact h3 _ _ hf h2
theorem Qha {t:TypeId} {w:World} {H:Heap} (hs:St C w H) {p:Nat×Nat} {v:Value} {vs:List Value} {c:List Value} (hv:v.cells=vs.toArray) (hi:(P.info? t).map (·.size)=some vs.length)
 (h1:∀ u ∈ vs,u.oneCell' = true) (hb:H p.1=some (true,.row c)) (hl:p.2+vs.length≤c.length) :
 ∃ w',(storeVar t (adv p) v).run P w=.ok () w'∧St C w' (H.put p.1 (.row (splice c p.2 vs))):=by
 cases hinf:P.info? t with
 | none=>rw [hinf] at hi; cases hi
 | some inf=>
  rw [hinf] at hi
  have hsz:inf.size=vs.length:=by simpa using hi
  obtain ⟨w',h2,h3⟩:=St.stores (P:=P) (b:=p.1) (o:=p.2) vs 0 w H c hs hb (by simpa using hl) h1
  refine ⟨w',?_,by simpa using h3⟩
  simp [storeVar,hv,Go.sizeOf,typeInfo,hinf,hsz]
  exact h2
theorem Qok {c:List Value} {o:Nat} {v:Value} (h:o < c.length):splice c o [v]=c.set o v:=by
 rw [← Qh7 (by simp; omega),QiU]
theorem GL.store {t:TypeId} {x y:Operand} {p:Nat×Nat} {v:Value} {K:Heap→Prop} (h:st p v K H) (hw:Wt ops l g) (hx:opv l x=some (pv (some p))) (hy:opv l y=some v) (h1:v.oneCell' = true)
 (hi:(P.info? t).map (·.size)=some 1) (k:∀ H',K H'→GL P C ops Q n rest l H'):GL P C ops Q n (⟨none,.store t x y,ty,pos,after,g⟩::rest) l H:=by
 obtain ⟨c,hb,hl,hk⟩:=h
 refine GL.run0 hw fun a w hf hs=>?_
 have hv:v.cells=[v].toArray:=by cases v <;> simp_all [Value.cells,Value.oneCell']
 obtain ⟨w',h2,h3⟩:=Qha (P:=P) (t:=t) hs (p:=p) hv hi (by simpa using h1) hb (by simp; omega)
 rw [Qok hl] at h3
 refine ⟨w',_,?_,h3,k _ hk⟩
 simp only [execOp,hf.ev hx,hf.ev hy,pv,Option.map_some,Instr.storeAt,Instr.sureAddr]
 simp [h2]
theorem GL.storeT {t:TypeId} {x y:Operand} {p:Nat×Nat} {vs:List Value} {K:Heap→Prop} (h:stT p vs K H) (hw:Wt ops l g) (hx:opv l x=some (pv (some p))) (hy:opv l y=some (.agg vs.toArray)) (h1:vs.all Value.oneCell' = true)
 (hi:(P.info? t).map (·.size)=some vs.length) (k:∀ H',K H'→GL P C ops Q n rest l H'):GL P C ops Q n (⟨none,.store t x y,ty,pos,after,g⟩::rest) l H:=by
 obtain ⟨c,hb,hl,hk⟩:=h
 refine GL.run0 hw fun a w hf hs=>?_
 obtain ⟨w',h2,h3⟩:=Qha (P:=P) (t:=t) hs (p:=p) (v:=.agg vs.toArray) rfl hi (by simpa using h1) hb hl
 refine ⟨w',_,?_,h3,k _ hk⟩
 simp only [execOp,hf.ev hx,hf.ev hy,pv,Option.map_some,Instr.storeAt,Instr.sureAddr]
 simp [h2]
/-- new memory -/
def nw (cs:List Value) (K:Nat→Heap→Prop) (H:Heap):Prop:=∀ b,H b=none→K b (H.put b (.row cs))
theorem St.newRow {w:World} {H:Heap} (hs:St C w H) (e:TypeId) (cs:Array Value):St C { w with heap:=w.heap.push (.cells cs e) } (H.put w.heap.size (.row cs.toList)):=
 hs.push ⟨by simp,fun _=>.inl rfl⟩
theorem GL.alloc {e:TypeId} {cs:List Value} {z:Value} {K:Nat→Heap→Prop} (h:nw cs K H) (hw:Wt ops l g) (hd:Nat.blt d n.n=true) (hz:(P.info? e).bind (·.zero)=some z) (hc:z.cells=cs.toArray)
 (k:∀ b H',K b H'→GL P C ops Q n rest ((d,pv (some (b,0)))::l) H'):GL P C ops Q n (⟨some d,.alloc e,ty,pos,after,g⟩::rest) l H:=by
 cases hinf:P.info? e with
 | none=>rw [hinf] at hz; cases hz
 | some inf=>
  rw [hinf] at hz
  simp only [Option.bind_some] at hz
  refine GL.run (v:=z) hw hd fun a w hf hs=>⟨pv (some (w.heap.size,0)),_,_,?_,hs.newRow e cs.toArray,k _ _ (by simpa using h _ hs.fresh)⟩
  simp only [execOp,Instr.alloc]
  simp [zeroValue,typeInfo,hinf,hz,newVar,Go.newRow,hc,pv,adv]
theorem GL.box {e:TypeId} {x:Operand} {v:Value} {cs:List Value} {K:Nat→Heap→Prop} (h:nw cs K H) (hw:Wt ops l g) (hd:Nat.blt d n.n=true) (hx:opv l x=some v) (hc:v.cells=cs.toArray)
 (k:∀ b H',K b H'→GL P C ops Q n rest ((d,pv (some (b,0)))::l) H'):GL P C ops Q n (⟨some d,.box e x,ty,pos,after,g⟩::rest) l H:=by
 refine GL.run (v:=v) hw hd fun a w hf hs=>⟨pv (some (w.heap.size,0)),_,_,?_,hs.newRow e cs.toArray,k _ _ (by simpa using h _ hs.fresh)⟩
 simp only [execOp,hf.ev hx,Instr.box]
 simp [newVar,Go.newRow,hc,pv,adv]
/-- the run of a slice literal, given -/
def litRun (P:Program) (t:TypeId) (m:Nat) (vs:List (Nat×Value)) (cs:List Value):Prop:=
 ∃ e,∀ w,(Instr.buildSlice t m vs.toArray).run P w=.ok (.slice (some ⟨w.heap.size,0,none⟩) m m) { w with heap:=w.heap.push (.cells cs.toArray e) }
theorem GL.buildSlice {t:TypeId} {m:Nat} {ps:Array (Nat×Operand)} {vs:List (Nat×Value)} {cs:List Value} {K:Nat→Heap→Prop} (h:nw cs K H) (hw:Wt ops l g) (hd:Nat.blt d n.n=true) (hx:partVals l ps.toList=some vs)
 (hr:litRun P t m vs cs) (k:∀ b H',K b H'→GL P C ops Q n rest ((d,slv (Sl.of (some (b,0)) m m))::l) H'):GL P C ops Q n (⟨some d,.buildSlice t m ps,ty,pos,after,g⟩::rest) l H:=by
 obtain ⟨e,hr⟩:=hr
 refine GL.run (v:=undef) hw hd fun a w hf hs=>⟨slv (Sl.of (some (w.heap.size,0)) m m),_,_,?_,hs.newRow e cs.toArray,k _ _ (by simpa using h _ hs.fresh)⟩
 have h1:ps.map (fun p=>(p.1,a.eval p.2))=vs.toArray:=by apply Array.ext'; simp [hf.parts hx]
 simp only [execOp]
 rw [show (ps.map fun x=>match x with | (i,x)=>(i,a.eval x))=ps.map (fun p=>(p.1,a.eval p.2)) from rfl,h1]
 simp [hr,slv,Sl.ad]
theorem OV.lenStr {x:Operand} {t:TypeId} {s:Str} (hx:opv l x=some (sv s)) (ht:P.underlying t=some .string):OV P C n l H ⟨some d,.call { callee:=.builtin .len,args:=#[x],argTypes:=#[t] },ty,pos,after,g⟩ (.int .i64 (s.length:Int)):=
 (fun ac w hf hs=>by
  have hsz:(⟨s.toArray⟩:ByteArray).size=s.length:=rfl
  simp only [execOp,resolve,invoke,builtin,List.map_toArray,List.map_cons,List.map_nil,hf.ev hx,sv]
  simp [Builtin.len_,underlying,ht,goInt,hsz])
theorem OV.lenSl {x:Operand} {t e:TypeId} {s:Sl} (hx:opv l x=some (slv s)) (ht:P.underlying t=some (.slice e)):OV P C n l H ⟨some d,.call { callee:=.builtin .len,args:=#[x],argTypes:=#[t] },ty,pos,after,g⟩ (.int .i64 (s.len:Int)):=
 (fun ac w hf hs=>by
  simp only [execOp,resolve,invoke,builtin,List.map_toArray,List.map_cons,List.map_nil,hf.ev hx,slv]
  simp [Builtin.len_,underlying,ht,goInt])
/-- a slice's place -/
def ixa (s:Sl) (i:Int) (K:Nat×Nat→Prop):Prop:=∃ p,s.p=some p∧s.x=none∧0≤i∧i < s.len∧K p
theorem OV.indexAddr {x y:Operand} {t e:TypeId} {s:Sl} {i:Int} {k0:IntKind} {sz:Nat} {p:Nat×Nat} (hx:opv l x=some (slv s)) (hy:opv l y=some (.int k0 i))
 (ht:P.underlying t=some (.slice e)) (he:(P.info? e).map (·.size)=some sz) (hp:s.p=some p) (hx0:s.x=none) (h0:0≤i) (h1:i < s.len) :
 OV P C n l H ⟨some d,.indexAddr t x y,ty,pos,after,g⟩ (pv (some (p.1,p.2+i.toNat*sz))):=by
 cases hinf:P.info? e with
 | none=>rw [hinf] at he; cases he
 | some inf=>
  rw [hinf] at he
  have hsz:inf.size=sz:=by simpa using he
  intro ac w hf hs
  simp only [execOp,hf.ev hx,hf.ev hy,slv,Sl.ad_some hx0 hp,Instr.indexAt]
  simp [asIntOf,underlying,ht,h0,h1,Go.sizeOf,typeInfo,hinf,hsz,pv,QiL]
/-- a string's byte -/
def ixs (s:Str) (i:Int) (K:UInt8→Prop):Prop:=∃ c:UInt8,0≤i∧s[i.toNat]? = some c∧K c
theorem OV.indexStr {x y:Operand} {t:TypeId} {s:Str} {i:Int} {k0:IntKind} {c:UInt8} (hx:opv l x=some (sv s)) (hy:opv l y=some (.int k0 i))
 (ht:P.underlying t=some .string) (h0:0≤i) (h1:s[i.toNat]? = some c):OV P C n l H ⟨some d,.index t x y,ty,pos,after,g⟩ (.int .u8 (c.toNat:Int)):=by
 intro ac w hf hs
 have h2:(⟨s.toArray⟩:ByteArray)[i.toNat]? = some c:=by
  obtain ⟨hlt,he⟩:=List.getElem?_eq_some_iff.1 h1
  rw [getElem?_pos _ _ (by simpa [ByteArray.size] using hlt)]
  simp [ByteArray.getElem_eq_getElem_data,he]
 simp [execOp,hf.ev hx,hf.ev hy,sv,Instr.index,asIntOf,underlying,ht,h0,h2]
/-- s[lo:hi] of a string -/
def slS (s:Str) (lo hi:Int) (K:Str→Prop):Prop:=0≤lo∧lo≤hi∧hi≤s.length∧∃ t,t=(s.take hi.toNat).drop lo.toNat∧K t
theorem Qga (s:Str) (a b:Nat):(⟨s.toArray⟩:ByteArray).extract a b=⟨((s.take b).drop a).toArray⟩:=by
 apply ByteArray.ext
 rw [ByteArray.data_extract]
 apply Array.ext'
 rw [Array.toList_extract,List.drop_take]
def optInt (l:List (Nat×Value)):Option Operand→Option (Option (IntKind×Int))
 | none=>some none
 | some x=>match opv l x with | some (.int k i)=>some (some (k,i)) | _=>none
theorem Fr.optInt {a:Act} (h:Fr n l a) {x:Option Operand} {r:Option (IntKind×Int)} (hx:Sx.optInt l x=some r):x.map a.eval=r.map fun p=>Value.int p.1 p.2:=by
 cases x with
 | none=>simp [Sx.optInt] at hx; subst hx; rfl
 | some x=>
  simp only [Sx.optInt] at hx
  split at hx
  ·rename_i k i h1
   injection hx with hx; subst hx
   simp [h.ev h1]
  ·cases hx
theorem OV.sliceStr {x:Operand} {lo hi:Option Operand} {t:TypeId} {s:Str} {rlo rhi:Option (IntKind×Int)} {a b:Int} (h0:0≤a) (h1:a≤b) (h2:b≤s.length) {t':Str} (ht':t' = (s.take b.toNat).drop a.toNat) (hx:opv l x=some (sv s))
 (hlo:Sx.optInt l lo=some rlo) (hhi:Sx.optInt l hi=some rhi) (ha:a=(rlo.map fun p=>p.2).getD 0) (hb:b=(rhi.map fun p=>p.2).getD (s.length:Int))
 (ht:P.underlying t=some .string):OV P C n l H ⟨some d,.slice t x lo hi none,ty,pos,after,g⟩ (sv t'):=by
 subst ht'
 intro ac w hf hs
 simp only [execOp,hf.ev hx,hf.optInt hlo,hf.optInt hhi,Option.map_none,Instr.sliceAt,sv]
 have hsz:(⟨s.toArray⟩:ByteArray).size=s.length:=by simp [ByteArray.size]
 rcases rlo with _ | ⟨kl,il⟩ <;> rcases rhi with _ | ⟨kh,ih⟩ <;> simp only [Option.map_none,Option.map_some,Option.getD_none,Option.getD_some] at ha hb <;> subst ha <;> subst hb
 ·simp [underlying,ht,Instr.slice,Instr.sliceBounds]
 ·have hb1:=run_sliceBound (P:=P) w kh b s.length .sliceAlen h1 h2
  simp [underlying,ht,Instr.slice,Instr.sliceBounds,hb1,hsz,Qga]
 ·have hb1:=run_sliceBound (P:=P) w kl a s.length .sliceB h0 h1
  simp [underlying,ht,Instr.slice,Instr.sliceBounds,hb1,hsz,Qga]
 ·have hb1 := run_sliceBound (P := P) w kh b s.length .sliceAlen (by omega) h2
  have hb2:=run_sliceBound (P:=P) w kl a b.toNat .sliceB h0 (by omega)
  simp [underlying,ht,Instr.slice,Instr.sliceBounds,hb1,hb2,hsz,Qga]
/-- s[lo:hi:max] of a slice -/
def slL (s:Sl) (lo hi mx:Int) (sz:Nat) (K:Sl→Prop):Prop:=
 0≤lo∧lo≤hi∧hi≤mx∧mx≤s.cap∧∃ t,t=⟨if mx=lo then s.p else s.p.map (fun p=>(p.1,p.2+lo.toNat*sz)),(hi - lo).toNat,(mx - lo).toNat,if mx=lo∨lo.toNat*sz=0 then s.x else none⟩∧K t
theorem OV.sliceSl {x : Operand} {lo hi mx : Option Operand} {t e : TypeId} {s : Sl} {sz : Nat} {rlo rhi rmx : Option (IntKind × Int)} {a b c : Int} (h0 : 0 ≤ a) (h1 : a ≤ b) (h2 : b ≤ c) (h3 : c ≤ s.cap) {t' : Sl} (ht' : t' = ⟨if c = a then s.p else s.p.map (fun p => (p.1, p.2 + a.toNat * sz)), (b - a).toNat, (c - a).toNat, if c = a ∨ a.toNat * sz = 0 then s.x else none⟩)
 (hx:opv l x=some (slv s)) (hlo:Sx.optInt l lo=some rlo) (hhi:Sx.optInt l hi=some rhi) (hmx:Sx.optInt l mx=some rmx) (ha:a=(rlo.map fun p=>p.2).getD 0) (hb:b=(rhi.map fun p=>p.2).getD (s.len:Int)) (hc:c=(rmx.map fun p=>p.2).getD (s.cap:Int))
 (hno:rmx.isSome=true→rhi.isSome=true)
 (ht:P.underlying t=some (.slice e)) (he:(P.info? e).map (·.size)=some sz):OV P C n l H ⟨some d,.slice t x lo hi mx,ty,pos,after,g⟩ (slv t'):=by
 subst ht'
 cases hinf:P.info? e with
 | none=>rw [hinf] at he; cases he
 | some inf=>
  rw [hinf] at he
  have hsz:inf.size=sz:=by simpa using he
  intro ac w hf hs
  simp only [execOp,hf.ev hx,hf.optInt hlo,hf.optInt hhi,hf.optInt hmx,Instr.sliceAt,slv]
  have hbounds:(Instr.sliceBounds true s.len s.cap (rlo.map fun p=>Value.int p.1 p.2) (rhi.map fun p=>Value.int p.1 p.2) (rmx.map fun p=>Value.int p.1 p.2)).run P w=.ok (a.toNat,b.toNat,c.toNat) w:=by
   have b0:0≤b:=by omega
   have c0:0≤c:=by omega
   have e1:b≤(c.toNat:Int):=by omega
   have e2:a≤(b.toNat:Int):=by omega
   rcases rlo with _ | ⟨kl,il⟩ <;> rcases rhi with _ | ⟨kh,ih⟩ <;> rcases rmx with _ | ⟨km,im⟩ <;> simp only [Option.map_none,Option.map_some,Option.getD_none,Option.getD_some] at ha hb hc <;> simp only [Option.isSome_some,Option.isSome_none,forall_const,Bool.false_eq_true] at hno <;> subst ha <;> subst hb <;> subst hc
   all_goals simp_all [Instr.sliceBounds,Instr.sliceBound,asIntOf]
   all_goals (try omega)
   all_goals (rw [if_pos (by omega)]; simp; try (rw [if_pos (by omega)]; simp))
  have e3:(c.toNat=a.toNat)↔c=a:=by omega
  have e4:b.toNat - a.toNat=(b - a).toNat:=by omega
  have e5:c.toNat - a.toNat=(c - a).toNat:=by omega
  simp only [Sem.run_bind,underlying,run_program,ht,Sem.run_pure,Result.andThen_ok,Instr.slice,hbounds]
  simp [Go.sizeOf,typeInfo,hinf,hsz,e3,e4,e5]
  simp only [Sl.ad]
  by_cases hca:c=a
  ·simp [hca]
  ·cases hp:s.p with
   | none=>simp [hca]
   | some p=>
    by_cases hz:a.toNat*sz=0
    ·simp [hca,hz,Addr.add]
    ·simp [hca,hz,Addr.add]
structure CallOk (P:Program) (f:FuncId):Prop where
 ok : ∃ fn, P.funcs[f]? = some fn ∧ fn.body.isSome = true ∧ (fn.name == "runtime.NumGoroutine") = false
theorem Qc8 {f:FuncId} (h:CallOk P f) (args:Array Value) (w:World):(callFunc f args).run P w=.ok (.enter f args) w:=by
 obtain ⟨fn,h1,h2,h3⟩:=h.ok
 have h4:fn.body.isNone=false:=by cases hb:fn.body <;> simp_all
 simp only [callFunc,Sem.run_bind,run_program,Result.andThen_ok,h1,h3,h4,Bool.false_eq_true,if_false]
 rfl
theorem GL.callWp {o:Oper} {f:FuncId} {vs:List Value} {Φ:Value→Heap→Prop} (hc:Spec P C f vs H Φ) (hdo:o.dst=some d) (hw:Wt ops l g) (hg:o.guard=g) (hd:Nat.blt d n.n=true)
 (hrun:∀ a w,Fr n l a→(execOp a.eval o).run P w=.ok (.enter f vs.toArray) w)
 (k:∀ v H',Φ v H'→GL P C ops Q n rest ((d,v)::l) H'):GL P C ops Q n (o::rest) l H:=by
 intro a w hf hs
 have hx:=hw.wanted (o:=o) hg hf
 simp only [wpList,hx,if_true]
 refine .inl ?_
 unfold Oper.wp
 rw [hrun a w hf]
 refine (hc w hs).mono fun e w' he=>?_
 obtain ⟨v,H',rfl,h2,h3⟩:=he
 simp only [hdo]
 exact k v H' h3 _ _ (hf.put hd) h2
/-- a call of a function by its name -/
theorem GL.call {f:FuncId} {xs:Array Operand} {ats:Array TypeId} {vs:List Value} {Φ:Value→Heap→Prop} (hc:Spec P C f vs H Φ) (hw:Wt ops l g) (hd:Nat.blt d n.n=true) (hok:CallOk P f) (hx:opvs l xs.toList=some vs)
 (k:∀ v H',Φ v H'→GL P C ops Q n rest ((d,v)::l) H'):GL P C ops Q n (⟨some d,.call { callee:=.value (.func f),args:=xs,argTypes:=ats },ty,pos,after,g⟩::rest) l H:=
 GL.callWp hc rfl hw rfl hd (fun a w hf=>by
  have h1:xs.map a.eval=vs.toArray:=by apply Array.ext'; simp [hf.evs hx]
  simp [execOp,resolve,invoke,Deferred.ofValue,Act.eval,h1,Qc8 hok]) k
/-- a call of a function value -/
theorem GL.callV {f:FuncId} {x:Operand} {fs cs:List Value} {xs:Array Operand} {ats:Array TypeId} {vs:List Value} {Φ:Value→Heap→Prop} (hc:Spec P C f (fs++vs++cs) H Φ) (hw:Wt ops l g) (hd:Nat.blt d n.n=true) (hok:CallOk P f)
 (hfx:opv l x=some (.func (.func f) fs.toArray cs.toArray)) (hx:opvs l xs.toList=some vs)
 (k:∀ v H',Φ v H'→GL P C ops Q n rest ((d,v)::l) H'):GL P C ops Q n (⟨some d,.call { callee:=.value x,args:=xs,argTypes:=ats },ty,pos,after,g⟩::rest) l H:=
 GL.callWp hc rfl hw rfl hd (fun a w hf=>by
  have h1:xs.map a.eval=vs.toArray:=by apply Array.ext'; simp [hf.evs hx]
  simp [execOp,resolve,invoke,Deferred.ofValue,hf.ev hfx,h1,Qc8 hok]) k
def bytesV (s:Str):List Value:=s.map fun b=>.int .u8 (b.toNat:Int)
theorem OV.b2s {x:Operand} {src dst e:TypeId} {b:Sl} {s:Str} (hl:s.length=b.len) (hr:rdsl H b (bytesV s)) (hx:opv l x=some (slv b)) (hs:P.underlying src=some (.slice e)) (he:P.underlying e=some (.int .u8)) (ht:P.underlying dst=some .string) :
 OV P C n l H ⟨some d,.convert src dst x,ty,pos,after,g⟩ (sv s):=by
 intro ac w hf hst
 simp only [execOp,hf.ev hx,slv]
 rcases hr with hr | ⟨hx0,p,hp,hr⟩
 ·have : s = [] := by simpa [bytesV] using hr
  subst this
  have hl0:b.len=0:=by simpa using hl.symm
  have h2:=run_convert_bytes_string (P:=P) w src dst e b.ad b.len b.cap hs he ht
  rw [hl0] at h2 ⊢
  simp only [bind_pure_comp,Sem.run_map,h2]
  cases b.ad with
  | none=>simp [Conv.bytesToString,sv]; rfl
  | some a=>simp [Conv.bytesToString,sv,loadCells,loadCellsFrom]; rfl
 ·rw [Sl.ad_some hx0 hp]
  have h2:=run_convert_bytes_back (P:=P) w src dst e (adv p) b.cap s hs he ht (fun j hj=>by
   rw [QiL]
   exact hst.cell (Qh5 hr j _ (by simp [bytesV,hj])))
  rw [hl] at h2
  simp only [bind_pure_comp,Sem.run_map,h2]
  rfl
theorem St.freeze {w:World} {H:Heap} (h:St C w H) {b:Nat} {c:List Value} (hb:H b=some (true,.row c)):St C (w.freeze ⟨b,c.length,none⟩ 1) H:=by
 obtain ⟨ob,hob,hrel⟩:=h.blk _ _ _ hb
 cases ob <;> simp only [GO.rel] at hrel
 rename_i c' t fr
 obtain ⟨hc,hfr⟩:=hrel
 subst hc
 have hlt:b < w.heap.size:=(Array.getElem?_eq_some_iff.1 hob).1
 have hput:H.put b (.row c)=H:=by
  funext x; by_cases hx:x=b
  ·subst hx; rw [Heap.put_same,hb]
  ·rw [Heap.put_ne _ _ _ hx]
 rw [← hput]
 obtain ⟨lo,hi⟩:=fr
 refine h.set hb (o':=.cells c.toArray t (if lo == hi then (c.length,c.length+1) else (min lo c.length,max hi (c.length+1)))) ⟨rfl,rfl,?_,?_⟩ ⟨rfl,fun _=>?_⟩
 ·simp [World.freeze,Array.getElem?_modify,hob]
 ·intro x hx
  simp [World.freeze,Array.getElem?_modify,Ne.symm hx]
 ·have:=hfr trivial
  simp only [] at this
  by_cases h1:lo=hi
  ·simp [h1]
  ·simp [h1]; omega
end
end
section
open Go
def zeros (zc:List Value):Nat→List Value
 | 0=>[]
 | k+1=>zc++zeros zc k
theorem Qdk (zc:List Value):∀ k,(zeros zc k).length=k*zc.length
 | 0=>by simp [zeros]
 | k+1=>by simp [zeros,Qdk zc k]; rw [Nat.add_mul]; omega
theorem QmD (zc:List Value):∀ (k i:Nat),i < k*zc.length→(zeros zc k)[i]? = zc[i % zc.length]?
 | 0,i,h=>by omega
 | k+1,i,h=>by
  rw [Nat.add_mul] at h
  simp only [zeros]
  by_cases hi:i < zc.length
  ·rw [List.getElem?_append_left hi,Nat.mod_eq_of_lt hi]
  ·rw [List.getElem?_append_right (by omega), QmD zc k (i - zc.length) (by omega)]
   congr 1
   rw [Nat.mod_eq_sub_mod (a:=i) (by omega)]
theorem QeS (zc:List Value) (k:Nat):Builtin.zeroCells zc.toArray k=(zeros zc k).toArray:=by
 apply Array.ext'
 apply List.ext_getElem?
 intro i
 simp only [Builtin.zeroCells,List.size_toArray,Array.toList_map,Array.toList_range,List.getElem?_map]
 by_cases hi:i < k*zc.length
 ·have hz:=QmD zc k i hi
  have hpos:0 < zc.length:=by
   rcases Nat.eq_zero_or_pos zc.length with h | h
   ·rw [h] at hi; omega
   ·exact h
  have hm:i % zc.length < zc.length:=Nat.mod_lt _ hpos
  simp [hi,hz,hm]
 ·have h1 : (zeros zc k)[i]? = none := by rw [List.getElem?_eq_none]; rw [Qdk]; omega
  simp [hi,h1]
/-- append of m elements, whose cells are ys, to s; an element has sz cells and 'bytes' bytes; zc: the zero element's cells -/
def apd (zc:List Value) (bytes:Nat) (s:Sl) (ys:List Value) (m:Nat) (K:Sl→Heap→Prop) (H:Heap):Prop:=
 ∃ xs,rdsl H s xs∧xs.length=s.len*zc.length∧ys.length=m*zc.length∧(s.len+m)*bytes≤140737488355328∧s.len+m≤9223372036854775807∧
  (s.len+m≤s.cap→(ys=[]∧K ⟨s.p,s.len+m,s.cap,s.x⟩ H)∨
   (∃ p c,s.p=some p∧s.x=none∧H p.1=some (true,.row c)∧p.2+s.len*zc.length+ys.length≤c.length∧K ⟨s.p,s.len+m,s.cap,s.x⟩ (H.put p.1 (.row (splice c (p.2+s.len*zc.length) ys)))))∧
  (s.cap < s.len+m→∀ b cap,H b=none→s.len+m≤cap→K (Sl.of (some (b,0)) (s.len+m) cap) (H.put b (.row (xs++ys++zeros zc (cap - (s.len+m))))))
/-- the cells of what is appended -/
structure Src (P:Program) (C:Ctx) (H:Heap) (x:Value) (sz:Nat) (ys:List Value) (m:Nat):Prop where
 len:∀ w,(Builtin.lenOf x).run P w=.ok m w
 cells:∀ w,St C w H→(Builtin.firstCells sz m x).run P w=.ok ys.toArray w
theorem Src.slice {P:Program} {C:Ctx} {H:Heap} {t:Sl} {sz:Nat} {ys:List Value} (hr:rdsl H t ys) (hl:ys.length=t.len*sz):Src P C H (slv t) sz ys t.len:=by
 refine ⟨fun w=>by simp [Builtin.lenOf,slv],fun w hs=>?_⟩
 simp only [Builtin.firstCells,slv]
 cases ha:t.ad with
 | none=>
  rcases hr with rfl | ⟨hx,p,hp,hr⟩
  ·rfl
  ·rw [Sl.ad_some hx hp] at ha; cases ha
 | some a=>exact hs.loadsl hr hl.symm ha
theorem Src.str {P:Program} {C:Ctx} {H:Heap} {s:Str}:Src P C H (sv s) 1 (bytesV s) s.length:=by
 refine ⟨fun w=>by simp [Builtin.lenOf,sv,ByteArray.size],fun w hs=>?_⟩
 simp only [Builtin.firstCells,sv,Sem.run_pure]
 congr 1
 rw [Qga]
 simp [bytesV]
section
variable {P:Program} {C:Ctx} {Q:Exit→Act→World→Prop} {n:FN} {l:List (Nat×Value)} {H:Heap} {ops:Array Oper} {rest:List Oper} {d:Nat} {ty:TypeId} {pos:String} {after:Array Edge} {g:Option (Nat×Bool)}
/-- the element type's row -/
structure Elem (P:Program) (t:TypeId) (zc:List Value) (bytes:Nat):Prop where
 ok:∃ e i z,P.underlying t=some (.slice e)∧P.info? e=some i∧i.size=zc.length∧i.bytes=bytes∧i.zero=some z∧z.cells=zc.toArray
theorem Qk8 {t t2:TypeId} {s:Sl} {x:Value} {ys:List Value} {m:Nat} {zc:List Value} {bytes:Nat} {K:Sl→Heap→Prop} {w:World}
 (h:apd zc bytes s ys m K H) (hs:St C w H) (he:Elem P t zc bytes) (h2:∃ u,P.underlying t2=some u∧∀ k,u≠.int k) (hx:Src P C H x zc.length ys m) (h1:∀ u ∈ ys,u.oneCell' = true) :
 ∃ r w' H',(Builtin.append_ #[t,t2] ty #[slv s,x]).run P w=.ok (slv r) w'∧St C w' H'∧K r H':=by
 obtain ⟨e,i,z,hu,hi,hsz,hby,hz,hzc⟩:=he.ok
 obtain ⟨u2,hu2,hne⟩:=h2
 obtain ⟨xs,hxr,hxl,hyl,hb,h63,hfit,hgrow⟩:=h
 by_cases hle:s.len+m≤s.cap
 ·rcases hfit hle with ⟨hy0,hk⟩ | ⟨p,c,hp,hx0,hc,hlen,hk⟩
  ·subst hy0
   refine ⟨_,w,H,?_,hs,hk⟩
   have hc0:=hx.cells w hs
   have hs2:slv ⟨s.p,s.len+m,s.cap,s.x⟩=.slice s.ad (s.len+m) s.cap:=rfl
   rw [hs2]
   cases hp:s.ad with
   | none=>
    simp [Builtin.append_,underlying,hu,hu2,Go.sizeOf,typeInfo,hi,slv,hp,hx.len w,hle,hsz,hc0]
   | some p=>
    simp [Builtin.append_,underlying,hu,hu2,Go.sizeOf,typeInfo,hi,slv,hp,hx.len w,hle,hsz,hc0,storeCells]
  ·have hc0:=hx.cells w hs
   obtain ⟨w',hst,hs'⟩:=St.stores (P:=P) (C:=C) (b:=p.1) (o:=p.2+s.len*zc.length) ys 0 w H c hs hc (by omega) h1
   refine ⟨_,w',_,?_,hs',hk⟩
   have ha:(adv p).add (s.len*zc.length)=⟨p.1,p.2+s.len*zc.length,none⟩:=QiL p _
   have hs2:slv ⟨s.p,s.len+m,s.cap,s.x⟩=.slice s.ad (s.len+m) s.cap:=rfl
   rw [hs2]
   simp [Builtin.append_,underlying,hu,hu2,Go.sizeOf,typeInfo,hi,slv,Sl.ad_some hx0 hp,hx.len w,hle,hsz,hc0,ha,hst]
 ·have hgt : s.cap < s.len + m := by omega
  have hd:St C w.drew H:=hs.drew
  have hc0:=hx.cells w.drew hd
  have h63':¬ (9223372036854775807 < ((s.len:Int)+(m:Int))):=by omega
  have h48':¬ (281474976710656 < Builtin.nextslicecap (s.len+m) s.cap*bytes):=by have:=growslice_fits (bytes:=bytes) hgt hb; omega
  have hold:(Builtin.firstCells zc.length s.len (slv s)).run P w.drew=.ok xs.toArray w.drew:=(Src.slice (P:=P) (C:=C) hxr hxl).cells w.drew hd
  have hcap:=grownCap_ge w (s.len+m) s.cap e
  have hrow:xs.toArray++ys.toArray++Builtin.zeroCells z.cells (grownCap w (s.len+m) s.cap e - (s.len+m))=(xs++ys++zeros zc (grownCap w (s.len+m) s.cap e - (s.len+m))).toArray:=by
   rw [hzc,QeS]; simp
  refine ⟨Sl.of (some (w.heap.size,0)) (s.len+m) (grownCap w (s.len+m) s.cap e),w.drew.alloc (.cells (xs++ys++zeros zc (grownCap w (s.len+m) s.cap e - (s.len+m))).toArray e),_,?_,?_,hgrow hgt w.heap.size (grownCap w (s.len+m) s.cap e) hs.fresh hcap⟩
  ·rw [← hrow]
   have hs2:slv s=.slice s.ad s.len s.cap:=rfl
   have hs3:∀ a c:Nat,slv (Sl.of (some (w.heap.size,0)) a c)=.slice (some ⟨w.heap.size,0,none⟩) a c:=fun _ _=>rfl
   rw [hs3]
   rw [hs2] at hold ⊢
   simp [Builtin.append_,underlying,hu,hu2,Go.sizeOf,typeInfo,zeroValue,hi,hz,hby,hsz,hx.len w,hle,h63',h48',Question.forced,hc0,hold,Go.newRow,grownCap]
   refine congrArg (fun a:Array Value=>w.drew.alloc (.cells a e)) ?_
   apply Array.ext'
   simp
  ·exact hd.push ⟨rfl,fun _=>.inl rfl⟩
theorem GL.append {x y:Operand} {t t2:TypeId} {s:Sl} {yv:Value} {ys:List Value} {m:Nat} {zc:List Value} {bytes:Nat} {K:Sl→Heap→Prop} (h:apd zc bytes s ys m K H) (hw:Wt ops l g) (hd:Nat.blt d n.n=true)
 (hx:opv l x=some (slv s)) (hy:opv l y=some yv) (he:Elem P t zc bytes) (h2:∃ u,P.underlying t2=some u∧∀ k,u≠.int k) (hsrc:Src P C H yv zc.length ys m) (h1:∀ u ∈ ys,u.oneCell' = true)
 (k:∀ r H',K r H'→GL P C ops Q n rest ((d,slv r)::l) H'):GL P C ops Q n (⟨some d,.call { callee:=.builtin .append,args:=#[x,y],argTypes:=#[t,t2] },ty,pos,after,g⟩::rest) l H:=by
 refine GL.run (v:=undef) hw hd fun a w hf hst=>?_
 obtain ⟨r,w',H',hr,hs',hk⟩:=Qk8 (P:=P) (ty:=ty) h hst he h2 hsrc h1
 refine ⟨slv r,w',H',?_,hs',k _ _ hk⟩
 simp only [execOp,resolve,invoke,builtin,List.map_toArray,List.map_cons,List.map_nil,hf.ev hx,hf.ev hy]
 simp [hr]
/-- append of a slice -/
def apS (zc:List Value) (bytes:Nat) (s t:Sl) (K:Sl→Heap→Prop) (H:Heap):Prop:=
 ∃ ys,rdsl H t ys∧(∀ u ∈ ys,u.oneCell' = true)∧apd zc bytes s ys t.len K H
theorem GL.appendS {x y:Operand} {t t2 e2:TypeId} {s s2:Sl} {zc:List Value} {bytes:Nat} {K:Sl→Heap→Prop} (h:apS zc bytes s s2 K H) (hw:Wt ops l g) (hd:Nat.blt d n.n=true)
 (hx:opv l x=some (slv s)) (hy:opv l y=some (slv s2)) (he:Elem P t zc bytes) (h2:P.underlying t2=some (.slice e2))
 (k:∀ r H',K r H'→GL P C ops Q n rest ((d,slv r)::l) H'):GL P C ops Q n (⟨some d,.call { callee:=.builtin .append,args:=#[x,y],argTypes:=#[t,t2] },ty,pos,after,g⟩::rest) l H:=by
 obtain ⟨ys,h3,h4,h5⟩:=h
 have hl:=h5
 obtain ⟨_,_,_,hyl,_⟩:=hl
 exact GL.append h5 hw hd hx hy he ⟨_,h2,fun _ h=>by cases h⟩ (Src.slice h3 hyl) h4 k
theorem Qm9 {b:Nat} {cs:List Value} {m:Bool}:rds (H.put b (.row cs) m) (b,0) cs:=
 QiY fun j v hj=>by simp [rd,Heap.put_same,GO.cells?,hj]
theorem Heap.le.puts {A B:Heap} (h:A.le B) (b:Nat) (g:GO) (m:Bool):(A.put b g m).le (B.put b g m):=fun x e hx=>by
 by_cases hxb:x=b
 ·subst hxb; rw [Heap.put_same] at hx ⊢; exact hx
 ·rw [Heap.put_ne _ _ _ hxb] at hx ⊢; exact h x e hx
theorem apd.frame {zc:List Value} {bytes:Nat} {s:Sl} {ys:List Value} {m:Nat} {K:Sl→Heap→Prop} {H':Heap} (h:apd zc bytes s ys m K H) (hle:H.le H') :
 apd zc bytes s ys m (fun r H2=>∃ H0,K r H0∧H0.le H2) H':=by
 obtain ⟨xs,h1,h2,h3,h4,h5,h6,h7⟩:=h
 refine ⟨xs,QiT hle h1,h2,h3,h4,h5,fun hc=>?_,fun hc b cap hb hcap=>⟨_,h7 hc b cap (hle.none hb) hcap,hle.puts _ _ _⟩⟩
 rcases h6 hc with ⟨e,hk⟩ | ⟨p,c,e1,e0,e2,e3,hk⟩
 ·exact .inl ⟨e,_,hk,hle⟩
 ·exact .inr ⟨p,c,e1,e0,hle _ _ e2,e3,_,hk,hle.puts _ _ _⟩
theorem GL.weaken {H':Heap} (hle:H.le H') (k:GL P C ops Q n rest l H):GL P C ops Q n rest l H':=fun a w hf hs=>k a w hf (hs.weaken hle)
/-- append of elements that are written out: a slice literal, then the append -/
theorem GL.appendLit {x y:Operand} {t t2 e2 t3 ty2:TypeId} {d2 m:Nat} {s:Sl} {ps:Array (Nat×Operand)} {vs:List (Nat×Value)} {ys:List Value} {zc:List Value} {bytes:Nat} {K:Sl→Heap→Prop} {pos2:String} {after2:Array Edge} {g2:Option (Nat×Bool)}
 (h:apd zc bytes s ys m K H) (hw:Wt ops l g) (hd:Nat.blt d n.n=true) (hw2:∀ v,Wt ops ((d,v)::l) g2) (hd2:Nat.blt d2 n.n=true)
 (hx:∀ v,opv ((d,v)::l) x=some (slv s)) (hy:∀ v,opv ((d,v)::l) y=some v) (hp:partVals l ps.toList=some vs) (hr:litRun P t3 m vs ys) (he:Elem P t zc bytes) (h2:P.underlying t2=some (.slice e2)) (h1:ys.all Value.oneCell' = true)
 (k:∀ v r H',K r H'→GL P C ops Q n rest ((d2,slv r)::(d,v)::l) H') :
 GL P C ops Q n (⟨some d,.buildSlice t3 m ps,ty,pos,after,g⟩::⟨some d2,.call { callee:=.builtin .append,args:=#[x,y],argTypes:=#[t,t2] },ty2,pos2,after2,g2⟩::rest) l H:=by
 refine GL.buildSlice (K:=fun b H'=>H' = H.put b (.row ys)∧H b=none) (fun b hb=>⟨rfl,hb⟩) hw hd hp hr ?_
 rintro b H' ⟨rfl,hb⟩
 refine GL.appendS (s2:=Sl.of (some (b,0)) m m) ⟨ys,.inr ⟨rfl,_,rfl,Qm9⟩,by simpa using h1,h.frame ((Heap.le.refl H).put _ _ hb)⟩ (hw2 _) hd2 (hx _) (hy _) he h2 ?_
 rintro r H2 ⟨H0,hk,hle⟩
 exact GL.weaken hle (k _ r H0 hk)
end
end
section
open Go
section
variable {P:Program} {C:Ctx} {Q:Exit→Act→World→Prop} {n:FN} {l:List (Nat×Value)} {H:Heap} {ops:Array Oper} {rest tl:List Oper} {d:Nat} {ty:TypeId} {pos:String} {after:Array Edge} {g:Option (Nat×Bool)}
theorem GC.sub {c:Code} (l':List (Nat×Value)) (hs:Sub l l') (k:GC P C Q n c l' H):GC P C Q n c l H:=fun a w hf hw=>k a w (hf.sub hs) hw
/-- a piece of the list, then the rest -/
theorem Qho {K:Act→World→Prop}:∀ (x:List Oper) {y:List Oper} {a:Act} {w:World},wpList P ops (Exit.then K Q) x a w→(∀ a w,K a w→wpList P ops Q y a w)→wpList P ops Q (x++y) a w
 | [],y,a,w,h,hk=>hk a w h
 | o::x,y,a,w,h,hk=>by
  simp only [List.cons_append,wpList] at h ⊢
  split
  ·rename_i hw
   rw [if_pos hw] at h
   rcases h with h | ⟨h1,a0,w0,h2⟩
   ·refine .inl ?_
    have hm:∀ a w,wpList P ops (Exit.then K Q) x a w→wpList P ops Q (x++y) a w:=fun a w h=>Qho x h hk
    unfold Oper.wp at h ⊢
    generalize (execOp a.eval o).run P w=r at *
    cases r with
    | ok nx w'=>
     cases nx <;> simp only [Oper.upon] at h ⊢ <;>
      first
       | exact hm _ _ h
       | exact Calls.mono h (fun e w'' he=>by
        cases e with
        | returned v=>exact hm _ _ he
        | panicked c=>exact he
        | outgrown=>obtain ⟨a0,w0,h3⟩:=he; exact ⟨a0,w0,h3⟩)
       | exact Rows.mono h (fun _ _ he=>hm _ _ he)
    | halt hh w'=>cases hh <;> simp only [Oper.upon] at h ⊢ <;> exact h
   ·exact .inr ⟨h1,a0,w0,h2⟩
  ·rename_i hw
   rw [if_neg hw] at h
   exact Qho x h hk
theorem GL.split {α:Type} (x:List Oper) {y:List Oper} (J:α→Heap→Prop) (e:α→List (Nat×Value)) (h1:GL P C ops (Exit.then (Meet C n J e) Q) n x l H) (h2:∀ v H',J v H'→GL P C ops Q n y (e v) H') :
 GL P C ops Q n (x++y) l H:=
 fun a w hf hs=>Qho x (h1 a w hf hs) fun a' w' ⟨v,H',hj,hf',hs'⟩=>h2 v H' hj a' w' hf' hs'
/-- the first k of a list -/
theorem GL.cut {α:Type} (k:Nat) {r:List Oper} (J:α→Heap→Prop) (e:α→List (Nat×Value)) (h1:GL P C ops (Exit.then (Meet C n J e) Q) n (r.take k) l H) (h2:∀ v H',J v H'→GL P C ops Q n (r.drop k) (e v) H') :
 GL P C ops Q n r l H:=by
 have:=GL.split (r.take k) J e h1 h2
 rwa [List.take_append_drop] at this
theorem GL.cut0 (k : Nat) {r : List Oper} (l' : List (Nat × Value)) (h1 : GL P C ops (Exit.then (Meet C n (fun (_ : Unit) H2 => H2 = H) (fun _ => l')) Q) n (r.take k) l H) (h2 : GL P C ops Q n (r.drop k) l' H) :
 GL P C ops Q n r l H:=GL.cut k _ _ h1 fun _ _ e=>by subst e; exact h2
/-- ways meet behind a piece of code -/
theorem GC.meet {α:Type} {c:Code} (J:α→Heap→Prop) (e:α→List (Nat×Value)) (h1:GC P C (Exit.then (Meet C n J e) Q) n c l H) (h2:∀ x H',J x H'→GL P C #[] Q n [] (e x) H'):GC P C Q n c l H:=
 fun a w hf hs=>wp_mono (h1 a w hf hs) fun ex a' w' hq=>by
  cases ex with
  | normal=>obtain ⟨x,H',hj,hf',hs'⟩:=hq; exact h2 x H' hj a' w' hf' hs'
  | _=>exact hq
def GQ (P:Program) (C:Ctx) (ops:Array Oper) (Q:Exit→Act→World→Prop) (n:FN) (rest:List Oper) (l:List (Nat×Value)) (H:Heap):Prop:=
 ∀ a w,Fr n l a→St C w H→wpQuiet P ops (fun w=>St C w H) (fun a'=>∀ w',St C w' H→Q .normal a' w') rest a
theorem GC.draw {id:Nat} {ops:List Oper} (hm:P.follows .mixedOrders=true) (hB:Region.lexB .any ops.toArray=true) (k:GQ P C ops.toArray Q n ops l H):GC P C Q n (.region id ops.toArray true) l H:=
 fun a w hf hs=>wp_region_quiet (C:=fun w=>St C w H) hm hB hs.drew (by simpa using k a w hf hs)
theorem GQ.val {op:Op} {v:Value} (hw:Wt ops l g) (hd:Nat.blt d n.n=true) (hr:OV P C n l H ⟨some d,op,ty,pos,after,g⟩ v) (k:GQ P C ops Q n rest ((d,v)::l) H) :
 GQ P C ops Q n (⟨some d,op,ty,pos,after,g⟩::rest) l H:=by
 intro a w0 hf hs0
 have hx:=hw.wanted (o:=⟨some d,op,ty,pos,after,g⟩) rfl hf
 simp only [wpQuiet,hx,if_true]
 refine ⟨v,fun w hs=>?_,k _ w0 (hf.put hd) hs0⟩
 unfold Oper.quietAt
 rw [hr a w hf hs]
 exact ⟨rfl,rfl⟩
theorem GQ.nil (k:GL P C ops Q n [] l H):GQ P C ops Q n [] l H:=fun a _ hf _ w hs=>k a w hf hs
end
end
section
open Go
def nck (q:Option (Nat×Nat)) (K:Nat×Nat→Prop):Prop:=∃ p,q=some p∧K p
def catOk (a b:Str):Prop:=a.length+b.length < 9223372036854775807
section
variable {P:Program} {C:Ctx} {Q Q':Exit→Act→World→Prop} {n:FN} {l:List (Nat×Value)} {H:Heap} {ops:Array Oper} {rest tl:List Oper} {d:Nat} {ty:TypeId} {pos:String} {after:Array Edge} {g:Option (Nat×Bool)}
theorem GC.exit_to {id:Nat} {y:Code} (hq:∀ a w,y.wp P Q' a w→Q (.exit id) a w) (k:GC P C Q' n y l H):GC P C Q n (.exit id) l H:=fun a w hf hs=>wp_exit (hq a w (k a w hf hs))
theorem GC.exit_ends {id:Nat} (h:∀ a w,Fr n l a→St C w H→Q (.exit id) a w):GC P C Q n (.exit id) l H:=fun a w hf hs=>wp_exit (h a w hf hs)
theorem GC.skip_to {y:Code} (hq:∀ a w,y.wp P Q' a w→Q .normal a w) (k:GC P C Q' n y l H):GC P C Q n .skip l H:=fun a w hf hs=>wp_skip (hq a w (k a w hf hs))
theorem GL.nil_to {y:Code} (hq:∀ a w,y.wp P Q' a w→Q .normal a w) (k:GC P C Q' n y l H):GL P C ops Q n [] l H:=fun a w hf hs=>hq a w (k a w hf hs)
theorem GL.jump0 {α:Type} {J:α→Heap→Prop} {e:α→List (Nat×Value)} (hq:∀ a w,Meet C n J e a w→Q .normal a w) (x:α) (hj:J x H) (hs:Sub l (e x)):GL P C ops Q n [] l H:=GL.jump hq x hj hs
theorem OV.convStr {s dt:TypeId} {x:Operand} {s':Str} (hx:opv l x=some (sv s')) (hs:(P.underlying s)=some .string) (ht:P.underlying dt=some .string) :
 OV P C n l H ⟨some d,.convert s dt x,ty,pos,after,g⟩ (sv s'):=fun ac w hf hst=>by
 simp only [execOp,hf.ev hx,convert,bind_pure_comp,Sem.run_map,Sem.run_bind,underlying,run_program,Result.andThen_ok,hs,ht,Sem.run_pure,sv]
theorem OV.maxI {x y:Operand} {ats:Array TypeId} {k0:IntKind} {a b:Int} (hx:opv l x=some (.int k0 a)) (hy:opv l y=some (.int k0 b)) :
 OV P C n l H ⟨some d,.call { callee:=.builtin .max,args:=#[x,y],argTypes:=ats },ty,pos,after,g⟩ (.int k0 (if b > a then b else a)):=fun ac w hf hs=>by
 simp only [execOp,resolve,invoke,builtin,List.map_toArray,List.map_cons,List.map_nil,hf.ev hx,hf.ev hy]
 simp [Builtin.max_,Builtin.max2]
theorem Qmi (zc:List Value) (k:Nat):madeCells zc.toArray (k*zc.length)=(zeros zc k).toArray:=by
 rw [← QeS]
 simp [madeCells,Builtin.zeroCells]
end
end
section
open Go
/-- a region that asks in which order: Hs: what its looks lean on, kept by all that acts -/
def dr (H:Heap) (K:Heap→Prop):Prop:=∃ Hs,Heap.le Hs H∧K Hs
def GA (P:Program) (C:Ctx) (ops:Array Oper) (Q:Exit→Act→World→Prop) (n:FN) (fuel:Nat) (listed:Array Bool) (l:List (Nat×Value)) (H Hs:Heap):Prop:=
 ∀ a w,Fr n l a→St C w H→St C w Hs→wpAnyH P .any ops Q (fun w=>St C w Hs) fuel listed a w
section
variable {P:Program} {C:Ctx} {Q:Exit→Act→World→Prop} {n:FN} {l:List (Nat×Value)} {H Hs:Heap} {ops:Array Oper} {fuel:Nat} {listed:Array Bool} {d:Nat} {op:Op} {ty:TypeId} {pos:String} {after:Array Edge} {g:Option (Nat×Bool)}
theorem GC.any {id:Nat} {ops:List Oper} (hm:P.follows .mixedOrders=true) (hle:Hs.le H) (k:GA P C ops.toArray Q n ops.toArray.size (Array.replicate ops.toArray.size false) l H Hs):GC P C Q n (.region id ops.toArray true) l H:=
 fun a w hf hs=>wp_region_held hm (k a _ hf hs.drew (hs.drew.weaken hle))
theorem GA.take (i:Nat) {v:Value} (hi:ops[i]? = some ⟨some d,op,ty,pos,after,g⟩) (hs:Region.noSelect ops=true) (hf:Region.free .any ops listed i=true) (hr:(Region.ready .any ops listed).contains i=true)
 (hQ:∀ c a w,Q (.panic c) a w→False) (hw:Wt ops l g) (hd:Nat.blt d n.n=true) (hv:OV P C n l Hs ⟨some d,op,ty,pos,after,g⟩ v)
 (k:GA P C ops Q n fuel (listed.setIfInBounds i true) ((d,v)::l) H Hs):GA P C ops Q n (fuel+1) listed l H Hs:=by
 intro a w hfr hst hss
 exact wpAnyH_take hi hs hf hr (fun c a w h=>(hQ c _ w h).elim) (.inl ⟨hw.wanted (o:=⟨some d,op,ty,pos,after,g⟩) rfl hfr,fun w' hw'=>hv a w' hfr hw'⟩) hss (k _ w (hfr.put hd) hst hss)
theorem GA.skip (i:Nat) (hi:ops[i]? = some ⟨some d,op,ty,pos,after,g⟩) (hs:Region.noSelect ops=true) (hf:Region.free .any ops listed i=true) (hr:(Region.ready .any ops listed).contains i=true)
 (hQ:∀ c a w,Q (.panic c) a w→False) (hw:Wn ops l g) (hd:Nat.blt d n.n=true)
 (k:GA P C ops Q n fuel (listed.setIfInBounds i true) ((d,undef)::l) H Hs):GA P C ops Q n (fuel+1) listed l H Hs:=by
 intro a w hfr hst hss
 exact wpAnyH_take hi hs hf hr (fun c a w h=>(hQ c _ w h).elim) (.inr ⟨hw.wanted (o:=⟨some d,op,ty,pos,after,g⟩) rfl hfr,rfl⟩) hss (k _ w (hfr.put hd) hst hss)
theorem GA.eff (i:Nat) {o:Oper} (hi:ops[i]? = some o) (hr:Region.ready .any ops listed=[i])
 (k:GL P C ops (Exit.then (fun a w=>St C w Hs∧wpAnyH P .any ops Q (fun w=>St C w Hs) fuel (listed.setIfInBounds i true) a w) Q) n [o] l H):GA P C ops Q n (fuel+1) listed l H Hs:=by
 intro a w hfr hst hss
 refine wpAnyH_all hr (by simp) fun j hj=>?_
 have hji:j=i:=by simpa using hj
 subst hji
 have h:=k a w hfr hst
 unfold wpOp
 simp only [hi]
 simp only [wpList] at h
 split
 ·rename_i hw
  rw [if_pos hw] at h
  rcases h with h | ⟨h1,a0,w0,h2⟩
  ·refine .inl ?_
   unfold Oper.wp at h ⊢
   generalize (execOp a.eval o).run P w=r at *
   cases r with
   | ok nx w'=>
    cases nx <;> simp only [Oper.upon] at h ⊢ <;>
     first
      | exact h
      | exact Calls.mono h (fun e w'' he=>by
       cases e with
       | returned v=>exact he
       | panicked c=>exact he
       | outgrown=>obtain ⟨a0,w0,h3⟩:=he; exact ⟨a0,w0,h3⟩)
   | halt hh w'=>cases hh <;> simp only [Oper.upon] at h ⊢ <;> exact h
  ·exact .inr ⟨h1,a0,w0,h2⟩
 ·rename_i hw
  rw [if_neg hw] at h
  exact h
theorem GA.back {fuel':Nat} {listed':Array Bool} (hle:Hs.le H) (k:GA P C ops Q n fuel' listed' l H Hs) :
 GL P C ops (Exit.then (fun a w=>St C w Hs∧wpAnyH P .any ops Q (fun w=>St C w Hs) fuel' listed' a w) Q) n [] l H:=
 fun a w hf hs=>⟨hs.weaken hle,k a w hf hs (hs.weaken hle)⟩
theorem GA.done (hr:Region.ready .any ops listed=[]) (k:GL P C ops Q n [] l H):GA P C ops Q n fuel listed l H Hs:=
 fun a w hf hs _=>wpAnyH_done hr (k a w hf hs) fuel
def wpHd (P:Program) (ops:Array Oper) (Q:Exit→Act→World→Prop) (S:World→Prop) (t:Nat):Nat→Array Bool→Act→World→Prop
 | 0,listed,a,w=>Region.seqB .any ops (ops.size - t) t listed=true∧wpList P ops Q (ops.toList.drop t) a w
 | f+1,listed,a,w=>Region.ready .any ops listed≠[]∧∀ i ∈ Region.ready .any ops listed,i < t∧wpOp P ops Q i (fun a' w'=>S w'∧wpHd P ops Q S t f (listed.setIfInBounds i true) a' w') a w
theorem Qkj {S:World→Prop} {t:Nat}:∀ (f:Nat) (listed:Array Bool) (a:Act) (w:World),wpHd P ops Q S t f listed a w→wpAny P .any ops Q (f+(ops.size - t)) listed a w
 | 0,listed,a,w,h=>by
  rw [Nat.zero_add]
  have h2:=wpAny_of_seq (P:=P) (ops:=ops) (md:=.any) (Q':=Q) (ops.toList.drop t) t listed a w (fun j=>by simp) (by simpa using h.1) h.2
  simpa using h2
 | f+1,listed,a,w,h=>by
  rw [show f+1+(ops.size - t)=(f+(ops.size - t))+1 by omega]
  exact ⟨fun h0=>absurd h0 h.1,fun i hi=>wpOp_mono (fun a' w' h'=>Qkj f _ a' w' h'.2) (h.2 i hi).2⟩
theorem Qpu {S:World→Prop} {t i:Nat} {oi:Oper} {v:Value} (hi:ops[i]? = some oi) (hsel:∀ (j:Nat) (o:Oper) cs b,ops[j]? = some o→o.op≠.select cs b)
 (hs:Region.sinkB .any ops t=true) (hc:Region.chainB .any ops t=true) (ht:t < ops.size) (hit:i < t)
 (hQ:∀ c a w,Q (.panic c) (a.put oi.dst v) w→Q (.panic c) a w):∀ (f:Nat) (listed:Array Bool) (a:Act) (w:World),HeadInv .any ops t listed→
  (∀ j oj,ops[j]? = some oj→j≠i→listed.getD j true=false→(∀ e ∈ oj.after,Region.binds .any e=true→e.on≠i)→oi.apart ops oj=true)→
  i ∈ Region.ready .any ops listed→YieldsIf P ops S oi v a→S w→
  wpHd P ops Q S t f (listed.setIfInBounds i true) (a.put oi.dst v) w→wpHd P ops Q S t (f+1) listed a w:=by
 intro f
 induction f with
 | zero=>
  intro listed a w inv _ hr hy hS h
  have hun:=(mem_ready.1 hr).1
  refine ⟨fun h0=>(by rw [h0] at hr; cases hr),fun j hj=>?_⟩
  have hjt:j < t:=by
   rcases Nat.lt_or_ge j t with h1 | h1
   ·exact h1
   ·exact absurd hj (tail_waits hs hc ht inv _ i rfl hit hun j h1)
  refine ⟨hjt,?_⟩
  by_cases hji:j=i
  ·subst hji; exact hy.wpOp hi hS ⟨hS,h⟩
  ·have:=seqB_ready h.1 j (ready_mono hj hji)
   omega
 | succ f ih=>
  intro listed a w inv hfree hr hy hS h
  have hun:=(mem_ready.1 hr).1
  refine ⟨fun h0=>(by rw [h0] at hr; cases hr),fun j hj=>?_⟩
  have hjt:j < t:=by
   rcases Nat.lt_or_ge j t with h1 | h1
   ·exact h1
   ·exact absurd hj (tail_waits hs hc ht inv _ i rfl hit hun j h1)
  refine ⟨hjt,?_⟩
  by_cases hji:j=i
  ·subst hji; exact hy.wpOp hi hS ⟨hS,h⟩
  ·have h1:=(h.2 j (ready_mono hj hji)).2
   obtain ⟨hjun,oj,hoj,hall⟩:=mem_ready.1 hj
   have hnot:∀ e ∈ oj.after,Region.binds .any e=true→e.on≠i:=fun e he hb heq=>by
    have h2:=hall e he hb
    rw [heq,getD_both hun] at h2
    cases h2
   have h2:=wpOp_putIf hoj (hfree j oj hoj hji hjun hnot) (fun cs b=>hsel i oi cs b hi) (fun cs b=>hsel j oj cs b hoj) hQ hy h1
   have hfree':∀ k ok,ops[k]? = some ok→k≠i→(listed.setIfInBounds j true).getD k true=false→(∀ e ∈ ok.after,Region.binds .any e=true→e.on≠i)→oi.apart ops ok=true:=fun k ok hk hki hun' hno=>by
    refine hfree k ok hk hki ?_ hno
    by_cases hjk:j=k
    ·subst hjk; exact hjun
    ·rw [getD_set_ne true hjk] at hun'; exact hun'
   refine wpOp_mono (fun a' w' h3=>⟨h3.2.1,ih (listed.setIfInBounds j true) a' w' (inv.set hj hjt) hfree' (ready_mono hr (Ne.symm hji)) h3.1 h3.2.1 ?_⟩) h2
   rw [Array.setIfInBounds_comm _ _ hji]
   exact h3.2.2
def GT (P:Program) (C:Ctx) (ops:Array Oper) (Q:Exit→Act→World→Prop) (n:FN) (t:Nat) (fuel:Nat) (listed:Array Bool) (l:List (Nat×Value)) (H Hs:Heap):Prop:=
 ∀ a w,Fr n l a→St C w H→St C w Hs→HeadInv .any ops t listed→wpHd P ops Q (fun w=>St C w Hs) t fuel listed a w
def tailOk (ops:Array Oper) (t:Nat):Bool:=Region.noSelect ops && decide (t < ops.size) && Region.sinkB .any ops t && Region.chainB .any ops t
theorem GC.tail {id:Nat} {ops:List Oper} (t:Nat) (hm:P.follows .mixedOrders=true) (hle:Hs.le H) (hB:tailOk ops.toArray t=true) (k:GT P C ops.toArray Q n t t (Array.replicate ops.toArray.size false) l H Hs) :
 GC P C Q n (.region id ops.toArray true) l H:=by
 intro a w hf hs
 simp only [tailOk,Bool.and_eq_true,decide_eq_true_eq] at hB
 obtain ⟨⟨⟨h1,h2⟩,h3⟩,h4⟩:=hB
 have inv0:HeadInv .any ops.toArray t (Array.replicate ops.toArray.size false):=
  ⟨by simp,fun j oj _ hl=>(by rw [getD_replicate_false] at hl; cases hl),fun t _ ht=>getD_in (by simpa using ht) (getD_replicate_false _ _)⟩
 have:=Qkj _ _ _ _ (k a _ hf hs.drew (hs.drew.weaken hle) inv0)
 rw [show t+(ops.toArray.size - t)=ops.toArray.size by omega] at this
 exact wp_region_any hm this
theorem Qnf {K:Act→World→Prop} {i:Nat} {o:Oper} {a:Act} {w:World} (hi:ops[i]? = some o) (h:wpList P ops (Exit.then K Q) [o] a w):wpOp P ops Q i K a w:=by
 unfold wpOp
 simp only [hi]
 simp only [wpList] at h
 split
 ·rename_i hw
  rw [if_pos hw] at h
  rcases h with h | ⟨h1,a0,w0,h2⟩
  ·refine .inl ?_
   unfold Oper.wp at h ⊢
   generalize (execOp a.eval o).run P w=r at *
   cases r with
   | ok nx w'=>
    cases nx <;> simp only [Oper.upon] at h ⊢ <;>
     first
      | exact h
      | exact Calls.mono h (fun e w'' he=>by
       cases e with
       | returned v=>exact he
       | panicked c=>exact he
       | outgrown=>obtain ⟨a0,w0,h3⟩:=he; exact ⟨a0,w0,h3⟩)
   | halt hh w'=>cases hh <;> simp only [Oper.upon] at h ⊢ <;> exact h
  ·exact .inr ⟨h1,a0,w0,h2⟩
 ·rename_i hw
  rw [if_neg hw] at h
  exact h
theorem GT.eff {t:Nat} (i:Nat) {o:Oper} (hi:ops[i]? = some o) (hr:Region.ready .any ops listed=[i]) (hit:Nat.blt i t=true)
 (k:GL P C ops (Exit.then (fun a w=>St C w Hs∧(HeadInv .any ops t (listed.setIfInBounds i true)→wpHd P ops Q (fun w=>St C w Hs) t fuel (listed.setIfInBounds i true) a w)) Q) n [o] l H):GT P C ops Q n t (fuel+1) listed l H Hs:=by
 intro a w hfr hst hss inv
 have hit':i < t:=by simpa using hit
 refine ⟨by rw [hr]; simp,fun j hj=>?_⟩
 have hji:j=i:=by rw [hr] at hj; simpa using hj
 subst hji
 exact ⟨hit',wpOp_mono (fun a' w' h=>⟨h.1,h.2 (inv.set hj hit')⟩) (Qnf hi (k a w hfr hst))⟩
theorem GT.back {t fuel':Nat} {listed':Array Bool} (hle:Hs.le H) (k:GT P C ops Q n t fuel' listed' l H Hs) :
 GL P C ops (Exit.then (fun a w=>St C w Hs∧(HeadInv .any ops t listed'→wpHd P ops Q (fun w=>St C w Hs) t fuel' listed' a w)) Q) n [] l H:=
 fun a w hf hs=>⟨hs.weaken hle,fun inv=>k a w hf hs (hs.weaken hle) inv⟩
theorem GT.done {t:Nat} (hq:Region.seqB .any ops (ops.size - t) t listed=true) (k:GL P C ops Q n (ops.toList.drop t) l H):GT P C ops Q n t 0 listed l H Hs:=
 fun a w hf hs _ _=>⟨hq,k a w hf hs⟩
end
end
section
open Go
def heapOf (W:World):Heap:=fun b=>(W.heap[b]?).map fun o=>(false,match o with | .cells c _ _=>.row c.toList | o=>.obj o)
def ctxOf (W:World):Ctx:=⟨W.heap,W.output,W.os,W.tape,W.drawn⟩
theorem Qpq (W:World):St (ctxOf W) W (heapOf W):=by
 refine ⟨fun b m g h=>?_,fun b g h=>?_,fun _ _=>rfl,rfl,⟨rfl,Nat.le_refl _⟩,fun _=>none,fun b m T e bs h=>?_,fun b b' g m T e bs m' T' e' bs' _ _ h=>by cases h⟩
 rotate_left 2
 ·simp only [heapOf,Option.map_eq_some_iff,Prod.mk.injEq] at h
  obtain ⟨o,ho,hm,hg⟩:=h
  cases o <;> cases hg
 ·simp only [heapOf,Option.map_eq_some_iff,Prod.mk.injEq] at h
  obtain ⟨o,ho,hm,hg⟩:=h
  refine ⟨o,ho,?_⟩
  subst hm
  cases o <;> simp only at hg <;> subst hg
  ·exact ⟨by simp,fun h=>by cases h⟩
  all_goals exact ⟨rfl,fun _ _ _ h=>by cases h⟩
 ·simp only [heapOf,Option.map_eq_some_iff,Prod.mk.injEq] at h
  obtain ⟨o,ho,hm,hg⟩:=h
  cases hm
theorem St.sameAt {W W':World} {H:Heap} (h:St (ctxOf W) W' H) {p:MemPlace} (hp:p.block < W.heap.size):W.sameAt W' p:=by
 have hb:W'.heap[p.block]? = W.heap[p.block]?:=h.old p.block hp
 cases p with
 | cell b o=>exact World.cell?_of_block (w:=W) hb
 | map b=>exact hb
theorem St.frame {W W':World} {H:Heap} (h:St (ctxOf W) W' H) (may:MemPlace→Prop):W.keptBut W' may:=by
 refine ⟨congrArg (fun q:Os×(Nat→Question→Nat)=>q.1) h.os.1,h.out,fun i hi=>?_⟩
 rw [show W'.heap[i]? = W.heap[i]? from h.old i hi]
 split <;> simp_all
section
variable {H:Type} {enc:TypeId×Value→H} {P:Program}
theorem Qmx (hl : laidOutB P = true) {W W' : World} {G : Heap} (hst : St (ctxOf W) W' G) : ∀ {ts : List TypeId} {vs : List Value} {ds : List (DataW H)} {ps : List MemPlace}, ts.all (fun t => P.readableRec t && decide (t < P.types.size)) = true →
 DataW.TrodAll enc P W 0 (fun _=>true) true ts vs ds ps→(∀ x ∈ ps,x.block < W.heap.size)→DataW.TrodAll enc P W' 0 (fun b=>decide (b < W.heap.size)) true ts vs ds ps
 | [],vs,ds,ps,_,h,_=>by
  cases vs <;> cases ds <;> simp_all [DataW.TrodAll]
 | t::ts,vs,ds,ps,ht,h,hlt=>by
  obtain ⟨v,vs',d,ds',p,q,rfl,rfl,rfl,h1,h2⟩:=ChangeShapes.trodAll_cons h
  simp only [List.all_cons,Bool.and_eq_true,decide_eq_true_eq] at ht
  exact trodAll_cons_mk (WideElems.Trod_stays hl ht.1.1 ht.1.2 h1 (fun x hx => hst.sameAt (hlt x (List.mem_append_left _ hx))) (fun x hx => by simpa using hlt x (List.mem_append_left _ hx)))
   (Qmx hl hst ht.2 h2 (fun x hx=>hlt x (List.mem_append_right _ hx)))
end
end
section
open Go
theorem Qbl {x:Int} (h0:-9223372036854775808≤x) (h1:x≤9223372036854775807):w .i64 x=x:=IntWalk.i64_in x ⟨h0,h1⟩
def Gh (C:Ctx) (A B:Heap):Prop:=∀ w,St C w A→St C w B
theorem Gh.refl {C:Ctx} (A:Heap):Gh C A A:=fun _ h=>h
theorem Gh.trans {C:Ctx} {A B D:Heap} (h:Gh C A B) (h':Gh C B D):Gh C A D:=fun w hw=>h' w (h w hw)
theorem Gh.le {C:Ctx} {A B:Heap} (h:B.le A):Gh C A B:=fun _ hw=>hw.weaken h
theorem Spec.gh {P:Program} {C:Ctx} {f:FuncId} {args:List Value} {H:Heap} {Φ:Value→Heap→Prop} (h:Spec P C f args H (fun v H2=>∃ H0,Gh C H2 H0∧Φ v H0)):Spec P C f args H Φ:=
 fun w hw=>(h w hw).mono fun e w' ⟨v,H',h1,h2,H0,h3,h4⟩=>⟨v,H0,h1,h3 _ h2,h4⟩
theorem Heap.le_put {H:Heap} {b:Nat} {g:GO} {m:Bool} (hb:H b=none):H.le (H.put b g m):=(Heap.le.refl H).put g m hb
theorem Heap.put_put (H:Heap) (b:Nat) (g g':GO) (m m':Bool):(H.put b g m).put b g' m' = H.put b g' m':=by
 funext x; by_cases hx:x=b
 ·subst hx; rw [Heap.put_same,Heap.put_same]
 ·rw [Heap.put_ne _ _ _ hx,Heap.put_ne _ _ _ hx,Heap.put_ne _ _ _ hx]
/-- but for block b, what is known stays -/
def Heap.but (b:Nat) (H H':Heap):Prop:=∀ x e,x≠b→H x=some e→H' x=some e
theorem Heap.but.trans {b:Nat} {A B D:Heap} (h:Heap.but b A B) (h':Heap.but b B D):Heap.but b A D:=fun x e hx hh=>h' x e hx (h x e hx hh)
theorem Heap.but.put (b:Nat) (H:Heap) (g:GO) (m:Bool):Heap.but b H (H.put b g m):=fun x e hx h=>by rw [Heap.put_ne _ _ _ hx]; exact h
theorem QaL {H:Heap} {b o:Nat} {c:List Value} {m:Bool} (h:H b=some (m,.row c)):rd H (b,o)=c[o]?:=by simp [rd,h,GO.cells?]
theorem Qev {H:Heap} {b o:Nat} {c cs:List Value} {m:Bool} (h:H b=some (m,.row c)) (hc:∀ j v,cs[j]? = some v→c[o+j]? = some v):rds H (b,o) cs:=
 QiY fun j v hj=>by rw [QaL h]; exact hc j v hj
theorem Qp5 {H:Heap} {cs:List Value} {p:Nat×Nat} (k:Nat) (h:rds H p cs):rds H p (cs.take k):=
 QiY fun j v hj=>Qh5 h j v (by rw [List.getElem?_take] at hj; split at hj <;> simp_all)
theorem Qp4 {H:Heap} {cs:List Value} {p:Nat×Nat} (k:Nat) (h:rds H p cs):rds H (p.1,p.2+k) (cs.drop k):=
 QiY fun j v hj=>by
  rw [List.getElem?_drop] at hj
  have:=Qh5 h (k+j) v hj
  rw [show p.2+k+j=p.2+(k+j) by omega]; exact this
/-- nobody's slice, or all of a row that may be written: cs are its elements' cells -/
def Own (H:Heap) (z:Nat) (s:Sl) (cs:List Value):Prop:=
 cs.length=s.len*z∧s.x=none∧s.len≤s.cap∧((s.p=none∧s.cap=0)∨∃ b sp,s.p=some (b,0)∧H b=some (true,.row (cs++sp))∧s.cap*z≤(cs++sp).length)
theorem Own.rdsl {H:Heap} {z:Nat} {s:Sl} {cs:List Value} (h:Own H z s cs):Sx.rdsl H s cs:=by
 obtain ⟨hl,hx,hc,⟨hp,h0⟩ | ⟨b,sp,hp,hb,_⟩⟩:=h
 ·left
  have:s.len=0:=by omega
  rw [this] at hl
  exact List.length_eq_zero_iff.1 (by simpa using hl)
 ·exact .inr ⟨hx, _, hp, Qev hb fun j v hj => by
   have:=(List.getElem?_eq_some_iff.1 hj).1
   rw [Nat.zero_add,List.getElem?_append_left this]; exact hj⟩
theorem Own.nil (H:Heap) (z:Nat):Own H z Sl.nil []:=⟨by simp [Sl.nil],rfl,Nat.le_refl _,.inl ⟨rfl,rfl⟩⟩
/-- the slice's block is new over H -/
def Fresh (H:Heap) (s:Sl):Prop:=∀ p,s.p=some p→H p.1=none
theorem Fresh.nil (H:Heap):Fresh H Sl.nil:=fun _ h=>by cases h
theorem Own.le {A B:Heap} {z:Nat} {s:Sl} {cs:List Value} (h:Own A z s cs) (hle:A.le B):Own B z s cs:=by
 obtain ⟨hl,hx,hc,h0 | ⟨b,sp,hp,hb,h1⟩⟩:=h
 ·exact ⟨hl,hx,hc,.inl h0⟩
 ·exact ⟨hl,hx,hc,.inr ⟨b,sp,hp,hle _ _ hb,h1⟩⟩
theorem Own.but {A B:Heap} {z:Nat} {s:Sl} {cs:List Value} {k:Nat} (h:Own A z s cs) (hle:Heap.but k A B) (hk:∀ p,s.p=some p→p.1≠k):Own B z s cs:=by
 obtain ⟨hl,hx,hc,h0 | ⟨b,sp,hp,hb,h1⟩⟩:=h
 ·exact ⟨hl,hx,hc,.inl h0⟩
 ·exact ⟨hl,hx,hc,.inr ⟨b,sp,hp,hle _ _ (hk _ hp) hb,h1⟩⟩
/-- owned, its block not among those of H0, of which all is kept -/
structure OwnF (H0 H:Heap) (z:Nat) (s:Sl) (cs:List Value):Prop where
 le:H0.le H
 own:Own H z s cs
 fresh:Fresh H0 s
theorem Qll {H0 H:Heap} {zc:List Value} {bytes:Nat} {s:Sl} {cs ys:List Value} {m:Nat} {K:Sl→Heap→Prop} (h:OwnF H0 H zc.length s cs) (hy:ys.length=m*zc.length)
 (hb:(s.len+m)*bytes≤140737488355328) (h63:s.len+m≤9223372036854775807) (k:∀ r H2,OwnF H0 H2 zc.length r (cs++ys)→r.len=s.len+m→K r H2):apd zc bytes s ys m K H:=by
 obtain ⟨hle,ho,hf⟩:=h
 have ho':=ho
 obtain ⟨hl,hx,hc,hcase⟩:=ho
 refine ⟨cs,ho'.rdsl,hl,hy,hb,h63,fun hfit=>?_,fun hgrow b cap hnone hcap=>?_⟩
 ·rcases hcase with ⟨hp,h0⟩ | ⟨b,sp,hp,hbk,hcl⟩
  ·left
   have hm:m=0:=by omega
   subst hm
   have hy0:ys=[]:=List.length_eq_zero_iff.1 (by simpa using hy)
   subst hy0
   refine ⟨rfl,k _ _ ⟨hle,⟨?_,hx,hfit,.inl ⟨hp,h0⟩⟩,hf⟩ rfl⟩
   simpa using hl
  ·right
   have hle2:(s.len+m)*zc.length≤s.cap*zc.length:=Nat.mul_le_mul_right _ hfit
   rw [Nat.add_mul] at hle2
   refine ⟨_,_,hp,hx,hbk,?_,k _ _ ⟨fun x e hx'=>?_,⟨?_,hx,hfit,.inr ⟨b,sp.drop ys.length,hp,?_,?_⟩⟩,hf⟩ rfl⟩
   ·simp only [Nat.zero_add]; rw [hy]; omega
   ·have : x ≠ b := fun e' => by subst e'; have := hf _ hp; simp only at this; rw [this] at hx'; cases hx'
    rw [Heap.put_ne _ _ _ this]; exact hle _ _ hx'
   ·simp only [List.length_append,hl,hy,Nat.add_mul]
   ·rw [Heap.put_same]
    simp only [Nat.zero_add,splice,← hl]
    rw [List.take_append_of_le_length (Nat.le_refl _),List.take_length,List.drop_append,List.drop_eq_nil_of_le (by omega)]
    simp
   ·simp only [List.length_append,List.length_drop] at hcl ⊢
    omega
 ·refine k _ _ ⟨hle.put _ _ (hle.none hnone), ⟨by simp only [List.length_append, hl, hy, Nat.add_mul], rfl, hcap, .inr ⟨b, zeros zc (cap - (s.len + m)), rfl, by rw [Heap.put_same], ?_⟩⟩, ?_⟩ rfl
  ·simp only [List.length_append,Qdk,hl,hy]
   rw [← Nat.add_mul,← Nat.add_mul]
   exact Nat.mul_le_mul_right _ (by omega)
  ·intro p hp
   simp only [Option.some.injEq] at hp
   subst hp
   exact hle.none hnone
theorem Qqm {H:Heap} {s:Sl} {cs:List Value} {i:Int} {K:Nat×Nat→Prop} (hr:Sx.rdsl H s cs) (h0:0≤i) (h1:i < s.len) (hne:cs≠[]) (k:∀ p,s.p=some p→rds H p cs→K p):ixa s i K:=by
 rcases hr with rfl | ⟨hx,p,hp,hr⟩
 ·exact absurd rfl hne
 ·exact ⟨p,hp,hx,h0,h1,k p hp hr⟩
theorem Qog {H:Heap} {s:Sl} {cs:List Value} (hr:Sx.rdsl H s cs) {lo hi mx:Int} {z:Nat} (h0:0≤lo) (h1:lo≤hi) (h2:hi≤mx) (hl:lo.toNat*z≤cs.length) :
 Sx.rdsl H ⟨if mx=lo then s.p else s.p.map (fun p=>(p.1,p.2+lo.toNat*z)),(hi - lo).toNat,(mx - lo).toNat,if mx=lo∨lo.toNat*z=0 then s.x else none⟩ ((cs.drop (lo.toNat*z)).take ((hi - lo).toNat*z)):=by
 by_cases hm:mx=lo
 ·left
  have:(hi - lo).toNat=0:=by omega
  simp [this]
 ·rcases hr with rfl | ⟨hx,p,hp,hr⟩
  ·left; simp
  ·right
   refine ⟨by simp [hx],(p.1,p.2+lo.toNat*z),by simp [hm,hp],Qp5 _ (Qp4 _ hr)⟩
theorem QhZ {c:Bool} {A B:Prop} (hc:c=true) (h:A):ift c A B:=⟨fun _=>h,fun h'=>by rw [hc] at h'; cases h'⟩
theorem QhY {c:Bool} {A B:Prop} (hc:c=false) (h:B):ift c A B:=⟨fun h'=>(by rw [hc] at h'; cases h'),fun _=>h⟩
end
section
open Go
section
variable {P:Program} {C:Ctx} {Q Q':Exit→Act→World→Prop} {n:FN} {l:List (Nat×Value)} {H:Heap} {ops:Array Oper} {rest:List Oper} {d:Nat} {ty:TypeId} {pos:String} {after:Array Edge} {g:Option (Nat×Bool)}
theorem QfO (P:Program) (op:BinOp) (t:TypeId) (x y:Operand) (a b:Option Addr) (n c n' c':Nat) (w:World):(eqGuard op t x y (.slice a n c) (.slice b n' c')).run P w=.ok () w:=by
 unfold eqGuard; cases op <;> rfl
theorem Qg9 (P:Program) (op:BinOp) (t:TypeId) (x y:Operand) (a b:Option Nat) (w:World):(eqGuard op t x y (.map a) (.map b)).run P w=.ok () w:=by
 unfold eqGuard; cases op <;> rfl
def Sl.isNil (s:Sl):Bool:=s.p.isNone
theorem Sl.ad_isNone (s:Sl):s.ad.isNone=s.isNil:=by unfold Sl.ad Sl.isNil; cases s.p <;> rfl
theorem OV.eqlSl {t yt e:TypeId} {x y:Operand} {s:Sl} (hx:opv l x=some (slv s)) (hy:opv l y=some (slv Sl.nil)) (ht:P.underlying t=some (.slice e)):OV P C n l H ⟨some d,.binOp .eql t x y yt,ty,pos,after,g⟩ (.bool s.isNil):=
 (fun ac w hf hs=>by
  simp only [execOp,hf.ev hx,hf.ev hy]
  have h0:slv Sl.nil=.slice none 0 0:=rfl
  rw [h0]
  simp only [slv,bind_pure_comp,Sem.run_map,Sem.run_bind,QfO,Result.andThen_ok]
  rw [Lib.run_eql_slice_nil (P:=P) w t e s.ad s.len s.cap 0 0 ht,Sl.ad_isNone]; rfl)
theorem OV.neqSl {t yt e:TypeId} {x y:Operand} {s:Sl} (hx:opv l x=some (slv s)) (hy:opv l y=some (slv Sl.nil)) (ht:P.underlying t=some (.slice e)):OV P C n l H ⟨some d,.binOp .neq t x y yt,ty,pos,after,g⟩ (.bool (!s.isNil)):=
 (fun ac w hf hs=>by
  simp only [execOp,hf.ev hx,hf.ev hy]
  have h0:slv Sl.nil=.slice none 0 0:=rfl
  rw [h0]
  simp only [slv,bind_pure_comp,Sem.run_map,Sem.run_bind,QfO,Result.andThen_ok]
  rw [run_neq_slice_nil_any (P:=P) w t e s.ad s.len s.cap 0 0 ht,Sl.ad_isNone]; rfl)
def callU (P:Program) (C:Ctx) (x:Value) (vs:List Value) (H:Heap) (Φ:Value→Heap→Prop):Prop:=
 ∃ f fs cs,x=.func (.func f) (List.toArray fs) (List.toArray cs)∧CallOk P f∧Spec P C f (fs++vs++cs) H Φ
theorem callU.mono {x:Value} {vs:List Value} {Φ Ψ:Value→Heap→Prop} (h:callU P C x vs H Φ) (hh:∀ v H',Φ v H'→Ψ v H'):callU P C x vs H Ψ:=by
 obtain ⟨f,fs,cs,h1,h2,h3⟩:=h
 exact ⟨f,fs,cs,h1,h2,h3.mono hh⟩
theorem GL.callU {x:Operand} {xv:Value} {xs:Array Operand} {ats:Array TypeId} {vs:List Value} {Φ:Value→Heap→Prop} (hc:Sx.callU P C xv vs H Φ) (hw:Wt ops l g) (hd:Nat.blt d n.n=true)
 (hfx:opv l x=some xv) (hx:opvs l xs.toList=some vs)
 (k:∀ v H',Φ v H'→GL P C ops Q n rest ((d,v)::l) H'):GL P C ops Q n (⟨some d,.call { callee:=.value x,args:=xs,argTypes:=ats },ty,pos,after,g⟩::rest) l H:=by
 obtain ⟨f,fs,cs,h1,h2,h3⟩:=hc
 exact GL.callV h3 hw hd h2 (by rw [hfx,h1]) hx k
structure ExtOk (P:Program) (f:FuncId) (e:Array Value→Sem Value):Prop where
 ok : ∃ fn, P.funcs[f]? = some fn ∧ (fn.name == "runtime.NumGoroutine") = false ∧ fn.body.isNone = true ∧ Extern.findNext fn = none ∧ Extern.find fn = some e
theorem Qrj {f:FuncId} {e:Array Value→Sem Value} (h:ExtOk P f e) (args:Array Value) (w:World):(callFunc f args).run P w=((e args).run P w).andThen fun v w'=>.ok (.value v) w':=by
 obtain ⟨fn,h1,h2,h3,h4,h5⟩:=h.ok
 exact run_callFunc_extern h1 h2 h3 h4 h5 args w
/-- one that only reckons -/
theorem OV.ext {f:FuncId} {e:Array Value→Sem Value} {xs:Array Operand} {ats:Array TypeId} {vs:List Value} {v:Value} (hok:ExtOk P f e) (hx:opvs l xs.toList=some vs) (hr:∀ w,(e vs.toArray).run P w=.ok v w) :
 OV P C n l H ⟨some d,.call { callee:=.value (.func f),args:=xs,argTypes:=ats },ty,pos,after,g⟩ v:=fun a w hf hs=>by
 have h1:xs.map a.eval=vs.toArray:=by apply Array.ext'; simp [hf.evs hx]
 simp [execOp,resolve,invoke,Deferred.ofValue,Act.eval,h1,Qrj hok,hr]
def idxB (s:Str) (c:Int):Int:=Lib.indexByte s c.toNat.toUInt8
def cntB (s:Str) (c:Int):Nat:=s.count c.toNat.toUInt8
theorem QnM (s:Str) (c:Int) (w:World):(Extern.BytealgIndexByte.indexByte #[sv s,.int .u8 c]).run P w=.ok (.int .i64 (idxB s c)) w:=Lib.run_indexByteString _ _ _
theorem Qp7 (s:Str) (c:Int) (w:World):(Extern.BytealgCount.count #[sv s,.int .u8 c]).run P w=.ok (.int .i64 (cntB s c:Int)) w:=by
 have:=Lib.run_countString (P:=P) ⟨s.toArray⟩ c w
 simpa [cntB,Lib.countByte,sv] using this
theorem Qlw {C:Ctx} {w:World} {H:Heap} (hs:St C w H) {t:Sl} {ys:List Value} {m z:Nat} (hr:rdsl H t ys) (hl:ys.length=m*z):(Builtin.firstCells z m (slv t)).run P w=.ok ys.toArray w:=by
 simp only [Builtin.firstCells,slv]
 cases ha:t.ad with
 | none=>
  rcases hr with rfl | ⟨hx,p,hp,hr⟩
  ·rfl
  ·rw [Sl.ad_some hx hp] at ha; cases ha
 | some a=>exact hs.loadsl hr hl.symm ha
theorem GC.never {c:Code} (h:False):GC P C Q n c l H:=h.elim
structure ElemG (P:Program) (t e:TypeId) (zc:List Value) (bytes:Nat):Prop where
 ok:∃ i z,P.underlying t=some (.slice e)∧P.info? e=some i∧i.size=zc.length∧i.bytes=bytes∧i.zero=some z∧z.cells=zc.toArray
end
end
section
open Go
section
variable {P:Program} {C:Ctx} {Q:Exit→Act→World→Prop} {n:FN} {l:List (Nat×Value)} {H:Heap} {ops:Array Oper} {rest:List Oper} {d:Nat} {ty:TypeId} {pos:String} {after:Array Edge} {g:Option (Nat×Bool)}
/-- an array's element's place -/
def ixr (p:Nat×Nat) (n:Nat) (i:Int) (K:Prop):Prop:=0≤i∧i < n∧K
theorem OV.indexAddrA {x y:Operand} {t e:TypeId} {m:Nat} {p:Nat×Nat} {i:Int} {k0:IntKind} {sz:Nat} (hx:opv l x=some (pv (some p))) (hy:opv l y=some (.int k0 i))
 (ht:P.underlying t=some (.array m e)) (he:(P.info? e).map (·.size)=some sz) (h0:0≤i) (h1:i < m) :
 OV P C n l H ⟨some d,.indexAddr t x y,ty,pos,after,g⟩ (pv (some (p.1,p.2+i.toNat*sz))):=by
 cases hinf:P.info? e with
 | none=>rw [hinf] at he; cases he
 | some inf=>
  rw [hinf] at he
  have hsz:inf.size=sz:=by simpa using he
  intro ac w hf hs
  simp only [execOp,hf.ev hx,hf.ev hy,pv,Option.map_some,Instr.indexAt]
  simp [asIntOf,underlying,ht,Instr.sureAddr,h0,h1,Go.sizeOf,typeInfo,hinf,hsz,adv,Addr.add]
/-- a load of an array -/
def ldC (H:Heap) (m:Nat) (p:Nat×Nat) (K:List Value→Prop):Prop:=∃ x:List Value,x.length=m∧rds H p x∧K x
/-- a store of an array -/
def stC (m:Nat) (p:Nat×Nat) (vs:List Value) (K:Heap→Prop) (H:Heap):Prop:=vs.length=m∧vs.all Value.oneCell' = true∧stT p vs K H
theorem Qnb {t:TypeId} {p:Nat×Nat} {v:Value} {w:World} (ht:aggB P t=false) (hr:rd H p=some v) (hs:St C w H):(loadVar t (adv p)).run P w=.ok v w:=by
 have:=hs.cell hr
 simp only [loadVar]
 simp only [bind_pure_comp,Sem.run_map,Sem.run_bind,Sem.run_pure,Result.andThen_ok,Qex ht]
 simp [this]
theorem Qmw {t:TypeId} {p:Nat×Nat} {cs:List Value} {w:World} (ht:aggT P t=true) (hi:(P.info? t).map (·.size)=some cs.length) (hr:rds H p cs) (hs:St C w H):(loadVar t (adv p)).run P w=.ok (.agg cs.toArray) w:=by
 cases hinf:P.info? t with
 | none=>rw [hinf] at hi; cases hi
 | some inf=>
  rw [hinf] at hi
  have hsz:inf.size=cs.length:=by simpa using hi
  simp only [loadVar]
  simp only [bind_pure_comp,Sem.run_map,Sem.run_bind,Sem.run_pure,Result.andThen_ok,Qfc ht]
  simp [Go.sizeOf,typeInfo,hinf,hs.loads (P:=P) hr hsz]
/-- what a result reads azs -/
def RV (P:Program) (C:Ctx) (l:List (Nat×Value)) (H:Heap):ResultVar→Value→Prop
 | .tmp t,v=>lk l t=some v
 | .cell a t,v=>∃ p,lk l a=some (pv (some p))∧∀ w,St C w H→(loadVar t (adv p)).run P w=.ok v w
theorem RV.tmp {t:Nat} {v:Value} (h:lk l t=some v):RV P C l H (.tmp t) v:=h
theorem RV.cell {a:Nat} {t:TypeId} {p:Nat×Nat} {v:Value} (h:lk l a=some (pv (some p))) (ht:aggB P t=false) (hr:rd H p=some v):RV P C l H (.cell a t) v:=⟨p,h,fun w hs=>Qnb ht hr hs⟩
theorem RV.cellT {a:Nat} {t:TypeId} {p:Nat×Nat} {cs:List Value} (h:lk l a=some (pv (some p))) (ht:aggT P t=true) (hi:(P.info? t).map (·.size)=some cs.length) (hr:rds H p cs):RV P C l H (.cell a t) (.agg cs.toArray):=⟨p,h,fun w hs=>Qmw ht hi hr hs⟩
theorem RV.run {r:ResultVar} {v:Value} {a:Act} {w:World} (h:RV P C l H r v) (hf:Fr n l a) (hs:St C w H) :
 (∃ t,r=.tmp t∧a.tmps[t]?.getD undef=v)∨(∃ x t p,r=.cell x t∧a.tmps[x]?.getD undef=pv (some p)∧(loadVar t (adv p)).run P w=.ok v w):=by
 cases r with
 | tmp t=>
  have:=hf.get t v h
  exact .inl ⟨t,rfl,by rw [this]; rfl⟩
 | cell x t=>
  obtain ⟨p,h1,h2⟩:=h
  have:=hf.get x _ h1
  exact .inr ⟨x,t,p,rfl,by rw [this]; rfl,h2 w hs⟩
theorem Qmq {fn:Func} {Φ:Value→Heap→Prop} {r:ResultVar} {v:Value} {a:Act} {w:World} (hr:fn.results = #[r]) (h1:RV P C l H r v) {m:Nat} (hf:Fr ⟨m,[]⟩ l a) (hw:St C w H) (h:Φ v H):SpecPost P C fn Φ .ret a w:=by
 refine Qbb (v:=v) ?_ hf.defers ⟨v,H,rfl,hw,h⟩
 rcases h1.run hf hw with ⟨t,rfl,e⟩ | ⟨x,t,p,rfl,e,e2⟩
 ·simp [results,hr,e]
 ·simp [results,hr,e,pv,asAddr,e2]
theorem Qkd {fn:Func} {Φ:Value→Heap→Prop} {r s:ResultVar} {x y:Value} {a:Act} {w:World} (hr:fn.results = #[r,s]) (h1:RV P C l H r x) (h2:RV P C l H s y) {m:Nat} (hf:Fr ⟨m,[]⟩ l a) (hw:St C w H) (h:Φ (.tuple #[x,y]) H):SpecPost P C fn Φ .ret a w:=by
 refine Qbb (v:=.tuple #[x,y]) ?_ hf.defers ⟨_,H,rfl,hw,h⟩
 rcases h1.run hf hw with ⟨t,rfl,e⟩ | ⟨_,t,p,rfl,e,e2⟩ <;> rcases h2.run hf hw with ⟨t',rfl,e'⟩ | ⟨_,t',p',rfl,e',e2'⟩ <;>
  simp_all [results,pv,asAddr]
end
end
section
open Go
def Heap.del (H:Heap) (g:Nat):Heap:=fun x=>if x=g then none else H x
theorem Heap.del_same (H:Heap) (g:Nat):H.del g g=none:=by simp [Heap.del]
theorem Heap.del_ne (H:Heap) {g x:Nat} (h:x≠g):H.del g x=H x:=by simp [Heap.del,h]
theorem Heap.del_le (H:Heap) (g:Nat):(H.del g).le H:=fun x e h=>by
 by_cases hx:x=g
 ·subst hx; rw [Heap.del_same] at h; cases h
 ·rwa [Heap.del_ne _ hx] at h
/-- a builder's buffer: bs, in a row of its own -/
def Buf (H:Heap) (b:Nat) (e:TypeId) (s:Sl) (bs:Str):Prop:=
 (s=Sl.nil∧bs=[])∨∃ g k row,g≠b∧s=⟨some (g,0),bs.length,row.length,none⟩∧H g=some (true,.trow e k row)∧k≤bs.length∧row.length≠0∧bs.length≤row.length∧∀ (j:Nat) (c:UInt8),bs[j]? = some c→row[j]? = some (Value.int .u8 (c.toNat:Int))
/-- a builder that is open, over H0 -/
structure OpenB (H0 H:Heap) (b:Nat) (T e:TypeId) (bs:Str) (p:Option (Nat×Nat)) (s:Sl):Prop where
 self:p=none∨p=some (b,0)
 row:H b=some (true,.trow T 0 [pv p,slv s])
 buf:Buf H b e s bs
 gnot:∀ q,s.p=some q→H0 q.1=none
 but:∀ x v,x≠b→H0 x=some v→H x=some v
section
variable {P:Program} {C:Ctx} {Q Q':Exit→Act→World→Prop} {n:FN} {l:List (Nat×Value)} {H:Heap} {ops:Array Oper} {rest:List Oper} {d:Nat} {ty:TypeId} {pos:String} {after:Array Edge} {g:Option (Nat×Bool)}
end
/-- a builder: one that was never written, or a hidden one -/
def IsB (T e:TypeId) (H:Heap) (b:Nat) (bs:Str):Prop:=H b=some (true,.bld T e bs)∨(bs=[]∧H b=some (true,.trow T 0 [pv none,slv Sl.nil]))
theorem IsB.some {T e:TypeId} {H:Heap} {b:Nat} {bs:Str} (h:IsB T e H b bs):∃ g,H b=some (true,g):=by
 rcases h with h | ⟨h0,h⟩ <;> exact ⟨_,h⟩
end
section
open Go
section
variable {P:Program} {C:Ctx} {Q:Exit→Act→World→Prop} {n:FN} {l:List (Nat×Value)} {H:Heap} {ops:Array Oper} {rest:List Oper} {d:Nat} {ty:TypeId} {pos:String} {after:Array Edge} {g:Option (Nat×Bool)}
end
end
section
open Go
section
variable {P:Program} {C:Ctx} {Q:Exit→Act→World→Prop} {n:FN} {l:List (Nat×Value)} {H Hs Hs0:Heap} {ops:Array Oper} {fuel z:Nat} {listed:Array Bool} {d:Nat} {op:Op} {ty:TypeId} {pos:String} {after:Array Edge} {g:Option (Nat×Bool)}
end
end
end Sx
end
noncomputable section
set_option linter.unusedVariables false
namespace Sx
namespace Rf
open Go
/-- a function's frame; a round's frame -/
def FRo (ro:Option Nat):Fence:={ fn:=fun _=>True,depth:=none,alive:=false,round:=ro }
def mark (D:Nat):Deferred:={ target:=.collected D,args:=#[] }
theorem Qix {ro:Option Nat} {ρ:Operand→Value} {o:Oper} (h:∀ c,o.op≠.defer c):o.semAt ro ρ=execOp ρ o:=by
 cases ro with
 | none=>simp [Oper.semAt]
 | some l=>exact Oper.semAt_some l ρ o h
theorem QhW {P:Program} {ro:Option Nat} {n:Nat} {f:FuncId} {args:Array Value} {w:World} {R:Ending→World→Prop} (h:Calls P f args w R):CallsIn (FRo ro) n P f args w R:=by
 have h2:CallsIn Fence.wide n P f args w R:=callsIn_wide.2 h
 cases ro with
 | none=>exact h2
 | some l=>exact h2
section
variable {P:Program} {C:Ctx} {Q:Exit→Act→World→Prop} {ro:Option Nat} {a:Act} {w:World} {ops:Array Oper}
end
section
variable (ro:Option Nat) (P:Program) (C:Ctx)
end
section
variable {ro:Option Nat} {P:Program} {C:Ctx} {Q Q':Exit→Act→World→Prop} {n:FN} {l:List (Nat×Value)} {H:Heap}
theorem Qk2 {w:World} {b:Nat} {o:Obj} (hs:St C w H) (h:H b=some (true,.obj o)):w.heap[b]? = some o:=by
 obtain ⟨o',ho,hrel⟩:=hs.blk _ _ _ h
 simp only [GO.rel] at hrel
 rw [hrel.1] at ho
 exact ho
/-- at a function's end: what the ranges over functions have left -/
theorem leavesM {fn:Func} {tmps:Array Value} {R:Ending→World→Prop}:∀ (L:List Nat) (w:World) (H:Heap),St C w H→L.Nodup→(∀ D ∈ L,H D=some (true,.obj (.deferred (some []))))→
 (∀ w' H',St C w' H'→(∀ b,b ∉ L→H' b=H b)→LeavesInM Fence.wide 0 P fn tmps R [] .returning w')→LeavesInM Fence.wide 0 P fn tmps R (L.map mark) .returning w
 | [],w,H,hs,_,_,hk=>hk w H hs fun _ _=>rfl
 | D::L,w,H,hs,hn,hD,hk=>by
  have hn':=List.nodup_cons.1 hn
  have h1:=hD D (List.mem_cons_self ..)
  have h2:=Qk2 hs h1
  refine ⟨by simp,.inl ⟨D,w.putObj D (.deferred none),rfl,run_takeDeferred (P:=P) h2,?_⟩⟩
  have hlt:D < w.heap.size:=(Array.getElem?_eq_some_iff.1 h2).1
  have hs':St C (w.putObj D (.deferred none)) (H.put D (.obj (.deferred none))):=
   hs.set h1 ⟨rfl,rfl,World.putObj_heap_same hlt,fun x hx=>World.putObj_heap_other hx⟩ ⟨rfl,fun _ _ _ h=>by cases h⟩
  refine leavesM L _ _ hs' hn'.2 (fun D' hD'=>?_) fun w' H' hs2 hb=>hk w' H' hs2 fun b hb'=>?_
  ·have hne : D' ≠ D := fun e => hn'.1 (by rw [← e]; exact hD')
   rw [Heap.put_ne _ _ _ hne]; exact hD D' (List.mem_cons_of_mem _ hD')
  ·have hne : b ≠ D := fun e => hb' (by rw [e]; exact List.mem_cons_self ..)
   rw [hb b fun h=>hb' (List.mem_cons_of_mem _ h),Heap.put_ne _ _ _ hne]
end
end Rf
end Sx
end

noncomputable section
set_option linter.unusedVariables false
set_option linter.unusedSimpArgs false
set_option maxRecDepth 10000
namespace Sx
section
open Go
section
variable {P:Program} {C:Ctx} {Q:Exit→Act→World→Prop} {n:FN} {l:List (Nat×Value)} {H Hs:Heap} {ops:Array Oper} {rest:List Oper} {fuel:Nat} {listed:Array Bool} {d:Nat} {op:Op} {ty:TypeId} {pos:String} {after:Array Edge} {g:Option (Nat×Bool)}
theorem ghm {P:Program} {C:Ctx} {f:FuncId} {args:List Value} {H:Heap} {α:Type} {R:α→Value→Prop} {K:α→Heap→Prop} (h:Spec P C f args H (fun v H2=>∃ r0,R r0 v∧∃ H0,Gh C H2 H0∧K r0 H0)):Spec P C f args H (fun v H2=>∃ r0,R r0 v∧K r0 H2):=
 Spec.gh (Spec.mono h fun _ _ ⟨r0,hv,H0,hg,hk⟩=>⟨H0,hg,r0,hv,hk⟩)
theorem okx {f : FuncId} {fn : Func} (h : P.funcs[f]? = some fn) (h2 : fn.body.isSome = true ∧ (fn.name == "runtime.NumGoroutine") = false := by decide +kernel) : CallOk P f := ⟨⟨_, h, h2⟩⟩
theorem Zv {op : Op} {v : Value} (hr : OV P C n l H ⟨some d, op, ty, pos, after, none⟩ v) (k : GL P C ops Q n rest ((d, v) :: l) H) (hd : Nat.blt d n.n = true := by exact rfl) :
 GL P C ops Q n (⟨some d,op,ty,pos,after,none⟩::rest) l H:=GL.val trivial hd hr k
theorem Zm {x : Operand} {v : Value} (k : GL P C ops Q n rest ((d, v) :: l) H) (hx : opv l x = some v := by exact rfl) (hd : Nat.blt d n.n = true := by exact rfl) :
 GL P C ops Q n (⟨some d,.move x,ty,pos,after,none⟩::rest) l H:=GL.val trivial hd (OV.move hx) k
theorem Za {x : Operand} {v : Value} (k : GL P C ops Q n rest ((d, v) :: l) H) (hx : opv l x = some v := by exact rfl) (hd : Nat.blt d n.n = true := by exact rfl) :
 GL P C ops Q n (⟨some d,.assign x,ty,pos,after,none⟩::rest) l H:=GL.val trivial hd (OV.assign hx) k
theorem Zi {op : BinOp} {t yt : TypeId} {x y : Operand} {k0 : IntKind} {a b : Int} (v : Value) (k : GL P C ops Q n rest ((d, v) :: l) H) (hx : opv l x = some (.int k0 a) := by exact rfl) (hy : opv l y = some (.int k0 b) := by exact rfl)
 (hv:Sx.ibin op k0 a b=some v:=by exact rfl) (hd:Nat.blt d n.n=true:=by exact rfl):GL P C ops Q n (⟨some d,.binOp op t x y yt,ty,pos,after,none⟩::rest) l H:=GL.val trivial hd (OV.ibin hx hy hv) k
theorem Zf {t : TypeId} {x : Operand} {i off : Nat} {p : Nat × Nat} (k : GL P C ops Q n rest ((d, pv (some (p.1, p.2 + off))) :: l) H) (hx : opv l x = some (pv (some p)) := by exact rfl) (ho : fieldOff P t i = some off := by exact rfl) (hd : Nat.blt d n.n = true := by exact rfl) :
 GL P C ops Q n (⟨some d,.fieldAddr t x i,ty,pos,after,none⟩::rest) l H:=GL.val trivial hd (OV.fieldAddr hx ho) k
theorem Zt {c x y : Operand} {b : Bool} {v : Value} (hb : b = true) (k : GL P C ops Q n rest ((d, v) :: l) H) (hc : opv l c = some (.bool b) := by exact rfl) (hx : opv l x = some v := by exact rfl) (hd : Nat.blt d n.n = true := by exact rfl) :
 GL P C ops Q n (⟨some d,.pick c x y,ty,pos,after,none⟩::rest) l H:=GL.val trivial hd (OV.pickT hc hb hx) k
theorem Zn {c x y : Operand} {b : Bool} {v : Value} (hb : b = false) (k : GL P C ops Q n rest ((d, v) :: l) H) (hc : opv l c = some (.bool b) := by exact rfl) (hx : opv l y = some v := by exact rfl) (hd : Nat.blt d n.n = true := by exact rfl) :
 GL P C ops Q n (⟨some d,.pick c x y,ty,pos,after,none⟩::rest) l H:=GL.val trivial hd (OV.pickF hc hb hx) k
theorem Zq {x : Operand} {t e : TypeId} {s : Sl} (k : GL P C ops Q n rest ((d, .int .i64 (s.len : Int)) :: l) H) (hx : opv l x = some (slv s) := by exact rfl) (ht : P.underlying t = some (.slice e) := by exact rfl) (hd : Nat.blt d n.n = true := by exact rfl) :
 GL P C ops Q n (⟨some d,.call { callee:=.builtin .len,args:=#[x],argTypes:=#[t] },ty,pos,after,none⟩::rest) l H:=GL.val trivial hd (OV.lenSl hx ht) k
theorem Zr {x : Operand} {t : TypeId} {s : Str} (k : GL P C ops Q n rest ((d, .int .i64 (s.length : Int)) :: l) H) (hx : opv l x = some (sv s) := by exact rfl) (ht : P.underlying t = some .string := by exact rfl) (hd : Nat.blt d n.n = true := by exact rfl) :
 GL P C ops Q n (⟨some d,.call { callee:=.builtin .len,args:=#[x],argTypes:=#[t] },ty,pos,after,none⟩::rest) l H:=GL.val trivial hd (OV.lenStr hx ht) k
/-- a guard that says yes, or no -/
theorem Zu {op:Op} {v:Value} {j d':Nat} {want b:Bool} (hb:b=want) (hr:OV P C n l H ⟨some d,op,ty,pos,after,some (j,want)⟩ v) (k:GL P C ops Q n rest ((d,v)::l) H)
 (h1:(ops[j]?).bind (·.dst)=some d':=by exact rfl) (h2:lk l d' = some (.bool b):=by exact rfl) (hd:Nat.blt d n.n=true:=by exact rfl) :
 GL P C ops Q n (⟨some d,op,ty,pos,after,some (j,want)⟩::rest) l H:=GL.val ⟨d',b,h1,h2,hb⟩ hd hr k
theorem Zk {op:Op} {j d':Nat} {want b:Bool} (hb:b=!want) (k:GL P C ops Q n rest ((d,undef)::l) H)
 (h1:(ops[j]?).bind (·.dst)=some d':=by exact rfl) (h2:lk l d' = some (.bool b):=by exact rfl) (hd:Nat.blt d n.n=true:=by exact rfl) :
 GL P C ops Q n (⟨some d,op,ty,pos,after,some (j,want)⟩::rest) l H:=GL.skip ⟨d',h1,.inl ⟨b,h2,hb⟩⟩ hd k
theorem Zc {f:FuncId} {xs:Array Operand} {ats:Array TypeId} {vs:List Value} {Φ:Value→Heap→Prop} (hc:Spec P C f vs H Φ) (hok:CallOk P f)
 (k:∀ v H',Φ v H'→GL P C ops Q n rest ((d,v)::l) H') (hx:opvs l xs.toList=some vs:=by exact rfl) (hd:Nat.blt d n.n=true:=by exact rfl) :
 GL P C ops Q n (⟨some d,.call { callee:=.value (.func f),args:=xs,argTypes:=ats },ty,pos,after,none⟩::rest) l H:=GL.call hc trivial hd hok hx k
/-- a look in a region whose order is drawn -/
theorem Zp (i : Nat) {v : Value} (hi : ops[i]? = some ⟨some d, op, ty, pos, after, none⟩) (hv : OV P C n l Hs ⟨some d, op, ty, pos, after, none⟩ v) (k : GA P C ops Q n fuel (listed.setIfInBounds i true) ((d, v) :: l) H Hs) (hQ : ∀ c a w, Q (.panic c) a w → False := by exact fun _ _ _ => False.elim)
 (hs:Region.noSelect ops=true:=by kernel_rfl) (hf:Region.free .any ops listed i=true:=by kernel_rfl) (hr:(Region.ready .any ops listed).contains i=true:=by kernel_rfl)
 (hd:Nat.blt d n.n=true:=by exact rfl):GA P C ops Q n (fuel+1) listed l H Hs:=GA.take i hi hs hf hr hQ trivial hd hv k
theorem Zg (i : Nat) {v : Value} (hi : ops[i]? = some ⟨some d, op, ty, pos, after, g⟩) (hw : Wt ops l g) (hv : OV P C n l Hs ⟨some d, op, ty, pos, after, g⟩ v) (k : GA P C ops Q n fuel (listed.setIfInBounds i true) ((d, v) :: l) H Hs) (hQ : ∀ c a w, Q (.panic c) a w → False := by exact fun _ _ _ => False.elim)
 (hs:Region.noSelect ops=true:=by kernel_rfl) (hf:Region.free .any ops listed i=true:=by kernel_rfl) (hr:(Region.ready .any ops listed).contains i=true:=by kernel_rfl)
 (hd:Nat.blt d n.n=true:=by exact rfl):GA P C ops Q n (fuel+1) listed l H Hs:=GA.take i hi hs hf hr hQ hw hd hv k
theorem Zj (i : Nat) (hi : ops[i]? = some ⟨some d, op, ty, pos, after, g⟩) (hw : Wn ops l g) (k : GA P C ops Q n fuel (listed.setIfInBounds i true) ((d, undef) :: l) H Hs) (hQ : ∀ c a w, Q (.panic c) a w → False := by exact fun _ _ _ => False.elim)
 (hs:Region.noSelect ops=true:=by kernel_rfl) (hf:Region.free .any ops listed i=true:=by kernel_rfl) (hr:(Region.ready .any ops listed).contains i=true:=by kernel_rfl)
 (hd:Nat.blt d n.n=true:=by exact rfl):GA P C ops Q n (fuel+1) listed l H Hs:=GA.skip i hi hs hf hr hQ hw hd k
theorem Zo {id:Nat} {ops:List Oper} {y:Code} (k:GL P C ops.toArray (Exit.then (y.wp P Q) Q) n ops l H):GC P C Q n (.seq (.region id ops.toArray false) y) l H:=GC.seq (GC.region k)
theorem Zd {c:Operand} {x y:Code} {b:Bool} (h1:b=true→GC P C Q n x l H) (h2:b=false→GC P C Q n y l H) (hc:opv l c=some (.bool b):=by exact rfl):GC P C Q n (.cond c x y) l H:=GC.cond hc h1 h2
theorem Qmr {fn:Func} {Φ:Value→Heap→Prop} {r s q:ResultVar} {x y z:Value} {a:Act} {w:World} (hr:fn.results = #[r,s,q]) (h1:RV P C l H r x) (h2:RV P C l H s y) (h3:RV P C l H q z) {m:Nat} (hf:Fr ⟨m,[]⟩ l a) (hw:St C w H) (h:Φ (.tuple #[x,y,z]) H):SpecPost P C fn Φ .ret a w:=by
 refine Qbb (v:=.tuple #[x,y,z]) ?_ hf.defers ⟨_,H,rfl,hw,h⟩
 rcases h1.run hf hw with ⟨t,rfl,e⟩ | ⟨_,t,p,rfl,e,e2⟩ <;> rcases h2.run hf hw with ⟨t',rfl,e'⟩ | ⟨_,t',p',rfl,e',e2'⟩ <;> rcases h3.run hf hw with ⟨t'',rfl,e''⟩ | ⟨_,t'',p'',rfl,e'',e2''⟩ <;>
  simp_all [results,pv,asAddr]
theorem Zb (b:Bool):b=true∨b=false:=Bool.eq_false_or_eq_true b
end
end
section
open Go
theorem I3 {α β:Type} {M:α→β→Prop}:∀ a w,M a w→M a w:=fun _ _ h=>h
theorem ift.em {c:Bool} {A B:Prop} (h:ift c A B):c=true∧A∨c=false∧B:=by
 cases c
 ·exact .inr ⟨rfl,h.2 rfl⟩
 ·exact .inl ⟨rfl,h.1 rfl⟩
section
variable {P:Program} {C:Ctx} {Q:Exit→Act→World→Prop} {n:FN} {l:List (Nat×Value)} {H Hs:Heap} {ops:Array Oper} {rest:List Oper} {fuel:Nat} {listed:Array Bool} {d:Nat} {op:Op} {ty:TypeId} {pos:String} {after:Array Edge} {g:Option (Nat×Bool)}
theorem Yj {α:Type} {J:α→Heap→Prop} {e:α→List (Nat×Value)} (hq:∀ a w,Meet C n J e a w→Q .normal a w) (x:α) (hj:J x H) (hs:Sub l (e x):=by (repeat refine ⟨rfl,?_⟩); exact trivial):GL P C ops Q n [] l H:=GL.jump hq x hj hs
theorem Yk {α:Type} {J:α→Heap→Prop} {e:α→List (Nat×Value)} (hq:∀ a w,Meet C n J e a w→Q .normal a w) (x:α) (hj:J x H) (hs:Sub l (e x):=by (repeat refine ⟨rfl,?_⟩); exact trivial):GC P C Q n .skip l H:=GC.jump hq x hj hs
theorem Yp {α:Type} {x0:α} {body:α→(α→Heap→Prop)→Heap→Prop} (h:lp x0 H body) (e:α→List (Nat×Value)) {c:Code}
 (round:∀ x H' (J:α→Heap→Prop),body x J H'→GC P C (Exit.then (Meet C n J e) Q) n c (e x) H') (hs:Sub l (e x0):=by (repeat refine ⟨rfl,?_⟩); exact trivial):GC P C Q n (.loop c) l H:=GC.loop h e hs round
theorem Y1 {fn:Func} {Φ:Value→Heap→Prop} {t m:Nat} {v:Value} (hq:∀ a w,SpecPost P C fn Φ .ret a w→Q .ret a w) (h:Φ v H) (hr:fn.results = #[.tmp t]:=by exact rfl) (hl:lk l t=some v:=by exact rfl):GC P C Q ⟨m,[]⟩ .ret l H:=
 GC.ret fun a w hf hs=>hq a w (Qg8 hr hl hf hs h)
theorem Y2 {fn:Func} {Φ:Value→Heap→Prop} {t u m:Nat} {x y:Value} (hq:∀ a w,SpecPost P C fn Φ .ret a w→Q .ret a w) (h:Φ (.tuple #[x,y]) H) (hr:fn.results = #[.tmp t,.tmp u]:=by exact rfl) (hl:lk l t=some x:=by exact rfl) (hl2:lk l u=some y:=by exact rfl):GC P C Q ⟨m,[]⟩ .ret l H:=
 GC.ret fun a w hf hs=>hq a w (Qpb hr hl hl2 hf hs h)
theorem Y3 {fn:Func} {Φ:Value→Heap→Prop} {t u s m:Nat} {x y z:Value} (hq:∀ a w,SpecPost P C fn Φ .ret a w→Q .ret a w) (h:Φ (.tuple #[x,y,z]) H) (hr:fn.results = #[.tmp t,.tmp u,.tmp s]:=by exact rfl) (hl:lk l t=some x:=by exact rfl) (hl2:lk l u=some y:=by exact rfl) (hl3:lk l s=some z:=by exact rfl):GC P C Q ⟨m,[]⟩ .ret l H:=
 GC.ret fun a w hf hs=>hq a w (Qpc hr hl hl2 hl3 hf hs h)
theorem Yd {c:Operand} {x y:Code} {b:Bool} {A B:Prop} (h:ift b A B) (h1:b=true→A→GC P C Q n x l H) (h2:b=false→B→GC P C Q n y l H) (hc:opv l c=some (.bool b):=by exact rfl):GC P C Q n (.cond c x y) l H:=
 GC.cond hc (fun e=>h1 e (h.1 e)) fun e=>h2 e (h.2 e)
theorem Yl {t : TypeId} {x : Operand} {p : Nat × Nat} {α : Type} {f : α → Value} {K : α → Prop} (h : ∃ x, rd H p = some (f x) ∧ K x) (k : ∀ x, K x → GL P C ops Q n rest ((d, f x) :: l) H) (hx : opv l x = some (pv (some p)) := by exact rfl) (ht : aggB P t = false := by exact rfl) (hd : Nat.blt d n.n = true := by exact rfl) :
 GL P C ops Q n (⟨some d,.load t x,ty,pos,after,none⟩::rest) l H:=by
 obtain ⟨y,hr,hk⟩:=h
 exact GL.val trivial hd (OV.load hx ht hr) (k y hk)
theorem Yx {x y:Operand} {t e:TypeId} {s:Sl} {i:Int} {k0:IntKind} {sz:Nat} {K:Nat×Nat→Prop} (h:ixa s i K) (k:∀ p,K p→GL P C ops Q n rest ((d,pv (some (p.1,p.2+i.toNat*sz)))::l) H)
 (hx:opv l x=some (slv s):=by exact rfl) (hy:opv l y=some (.int k0 i):=by exact rfl) (ht:P.underlying t=some (.slice e):=by exact rfl) (he:(P.info? e).map (·.size)=some sz:=by exact rfl) (hd:Nat.blt d n.n=true:=by exact rfl) :
 GL P C ops Q n (⟨some d,.indexAddr t x y,ty,pos,after,none⟩::rest) l H:=by
 obtain ⟨p,hp,hx0,h0,h1,hk⟩:=h
 exact GL.val trivial hd (OV.indexAddr hx hy ht he hp hx0 h0 h1) (k p hk)
theorem Ys {x y:Operand} {t:TypeId} {s:Str} {i:Int} {k0:IntKind} {K:UInt8→Prop} (h:ixs s i K) (k:∀ c:UInt8,K c→GL P C ops Q n rest ((d,.int .u8 (c.toNat:Int))::l) H)
 (hx:opv l x=some (sv s):=by exact rfl) (hy:opv l y=some (.int k0 i):=by exact rfl) (ht:P.underlying t=some .string:=by exact rfl) (hd:Nat.blt d n.n=true:=by exact rfl) :
 GL P C ops Q n (⟨some d,.index t x y,ty,pos,after,none⟩::rest) l H:=by
 obtain ⟨c,h0,h1,hk⟩:=h
 exact GL.val trivial hd (OV.indexStr hx hy ht h0 h1) (k c hk)
theorem Ye {m:Nat} {f:FuncId} {fn:Func} {c:Code} {args:List Value} {Φ:Value→Heap→Prop} (hf:P.funcs[f]? = some fn) (hb:fn.body=some c) (hn:fn.ntmps=m) (l':List (Nat×Value))
 (k:GC P C (SpecPost P C fn Φ) ⟨m,[]⟩ c l' H) (ha:Nat.ble args.length m=true:=by exact rfl) (hs:Sub (argFrame args) l':=by (repeat refine ⟨rfl,?_⟩); exact trivial):Spec P C f args H Φ:=Spec.enter hf hb hn ha (GC.sub l' hs k)
theorem Ym {x:Operand} {v:Value} (hx:opv l x=some v:=by exact rfl):OV P C n l H ⟨some d,.move x,ty,pos,after,g⟩ v:=OV.move hx
theorem Ya {x:Operand} {v:Value} (hx:opv l x=some v:=by exact rfl):OV P C n l H ⟨some d,.assign x,ty,pos,after,g⟩ v:=OV.assign hx
theorem Yo {t:TypeId} {x:Operand} {p:Nat×Nat} {v:Value} (hr:rd H p=some v) (hx:opv l x=some (pv (some p)):=by exact rfl) (ht:aggB P t=false:=by exact rfl):OV P C n l H ⟨some d,.load t x,ty,pos,after,g⟩ v:=OV.load hx ht hr
theorem Yf {t:TypeId} {x:Operand} {i off:Nat} {p:Nat×Nat} (hx:opv l x=some (pv (some p)):=by exact rfl) (ho:fieldOff P t i=some off:=by exact rfl):OV P C n l H ⟨some d,.fieldAddr t x i,ty,pos,after,g⟩ (pv (some (p.1,p.2+off))):=OV.fieldAddr hx ho
theorem Yv {x:Operand} {i:Nat} {vs:Array Value} (v:Value) (hx:opv l x=some (.tuple vs)) (hv:vs[i]? = some v) (k:GL P C ops Q n rest ((d,v)::l) H) (hd:Nat.blt d n.n=true:=by exact rfl):GL P C ops Q n (⟨some d,.extract x i,ty,pos,after,none⟩::rest) l H:=
 GL.val trivial hd (OV.extract hx hv) k
theorem Yw {j d':Nat} {want b:Bool} (hb:b=!want) (h1:(ops[j]?).bind (·.dst)=some d':=by exact rfl) (h2:lk l d' = some (.bool b):=by exact rfl):Wn ops l (some (j,want)):=⟨d',h1,.inl ⟨b,h2,hb⟩⟩
theorem Yt {j d':Nat} {want b:Bool} (hb:b=want) (h1:(ops[j]?).bind (·.dst)=some d':=by exact rfl) (h2:lk l d' = some (.bool b):=by exact rfl):Wt ops l (some (j,want)):=⟨d',b,h1,h2,hb⟩
end
end
section
set_option linter.unusedSectionVars false
open Go
section
variable {α:Type} {κ:Type} [DecidableEq κ] {ke:κ→Value} {enc:α→Value}
def lkL (k:κ):List (κ×α)→Option α
 | []=>none
 | p::l=>if p.1=k then some p.2 else lkL k l
theorem QnB {k:κ}:∀ {l:List (κ×α)},(∀ p ∈ l,p.1≠k)→lkL k l=none
 | [],_=>rfl
 | p::l,h=>by
  simp only [lkL]
  rw [if_neg (h p (List.mem_cons_self ..))]
  exact QnB fun q hq=>h q (List.mem_cons_of_mem _ hq)
theorem QoT {k : κ} {x : α} : ∀ {l : List (κ × α)}, l.Pairwise (fun p q => p.1 ≠ q.1) → (k, x) ∈ l → lkL k l = some x
 | p::l,h,hm=>by
  have h1:=List.pairwise_cons.1 h
  simp only [lkL]
  rcases List.mem_cons.1 hm with rfl | hm
  ·rw [if_pos rfl]
  ·rw [if_neg (h1.1 _ hm)]; exact QoT h1.2 hm
theorem QkZ {k k2:κ} {x:α}:∀ {l:List (κ×α)},lkL k l=none→lkL k2 (l++[(k,x)])=if k2=k then some x else lkL k2 l
 | [],_=>by
  simp only [List.nil_append,lkL]
  by_cases h:k2=k
  ·rw [if_pos h.symm,if_pos h]
  ·rw [if_neg (Ne.symm h),if_neg h]
 | p::l,h=>by
  simp only [lkL] at h
  split at h <;> try (cases h; done)
  rename_i hp
  simp only [List.cons_append,lkL,QkZ (k2:=k2) (x:=x) h]
  by_cases h2:p.1=k2
  ·rw [if_pos h2,if_pos h2,if_neg (fun e=>hp (h2.trans e))]
  ·rw [if_neg h2,if_neg h2]
theorem QoU {k k2 : κ} {x y : α} : ∀ {l : List (κ × α)} {j : Nat}, l.Pairwise (fun p q => p.1 ≠ q.1) → l[j]? = some (k, x) → lkL k2 (l.set j (k, y)) = if k2 = k then some y else lkL k2 l
 | [],j,_,h=>by simp at h
 | p::l,0,_,h=>by
  simp at h; subst h
  simp only [List.set_cons_zero,lkL]
  by_cases h2:k=k2
  ·rw [if_pos h2,if_pos h2.symm]
  ·rw [if_neg h2,if_neg (Ne.symm h2),if_neg h2]
 | p::l,j+1,hp,h=>by
  have h1:=List.pairwise_cons.1 hp
  have hm:l[j]? = some (k,x):=by simpa using h
  have hne:=h1.1 _ (List.mem_of_getElem? hm)
  simp only [List.set_cons_succ,lkL,QoU (k2:=k2) (y:=y) h1.2 hm]
  by_cases h2:p.1=k2
  ·rw [if_pos h2,if_pos h2,if_neg (fun e=>hne (h2.trans e))]
  ·rw [if_neg h2,if_neg h2]
structure MapIs (ke:κ→Value) (enc:α→Value) (H:Heap) (b:Nat) (l:List (κ×α)):Prop where
 ex:∃ (es:Array MapEntry) (ck:Nat),H b=some (true,.obj (.map es ck))∧es.toList.map (fun e=>(e.key,e.val))=l.map fun p=>(ke p.1,enc p.2)
 nd:l.Pairwise fun p q=>p.1≠q.1
theorem MapIs.mine {H:Heap} {b:Nat} {l:List (κ×α)} (h:MapIs ke enc H b l):∃ g,H b=some (true,g):=by
 obtain ⟨⟨es,ck,h1,h2⟩,h3⟩:=h
 exact ⟨_,h1⟩
def mkM (K:Nat→Heap→Prop) (H:Heap):Prop:=∀ b,H b=none→K b (H.put b (.obj (.map #[] 0)))
def Lk (ke:κ→Value) (enc:α→Value) (z:α) (q:Option Nat) (k:κ) (x:α) (b:Bool) (H:Heap):Prop:=
 (q=none∧x=z∧b=false)∨∃ r l,q=some r∧MapIs ke enc H r l∧(lkL k l=some x∧b=true∨lkL k l=none∧x=z∧b=false)
/-- a look into a map -/
def lkM (ke:κ→Value) (enc:α→Value) (z:α) (q:Option Nat) (k:κ) (K:α→Bool→Prop) (H:Heap):Prop:=∃ x b,Lk ke enc z q k x b H∧K x b
theorem MapIs.lk {H:Heap} {r:Nat} {l:List (κ×α)} {z:α} {k:κ} {K:α→Bool→Prop} (h:MapIs ke enc H r l) (k1:∀ x,lkL k l=some x→K x true) (k2:lkL k l=none→K z false):lkM ke enc z (some r) k K H:=by
 cases hl:lkL k l with
 | some x=>exact ⟨x,true,.inr ⟨r,l,rfl,h,.inl ⟨hl,rfl⟩⟩,k1 x hl⟩
 | none=>exact ⟨z,false,.inr ⟨r,l,rfl,h,.inr ⟨hl,rfl,rfl⟩⟩,k2 hl⟩
/-- what is asked of keys: they are told apart, and found -/
structure KOk (P:Program) (kt:TypeId) {κ:Type} (ke:κ→Value):Prop where
 inj:∀ {a b:κ},ke a=ke b→a=b
 check:∀ (w:World) (em:Bool) (k:κ),(Instr.checkKey em 10000 kt (ke k)).run P w=.ok () w
 find:∀ (w:World) (k:κ) (es:List MapEntry),(∀ e ∈ es,∃ k',e.key=ke k')→
  ((Instr.findKey kt (ke k) es).run P w=.ok none w∧∀ e ∈ es,e.key≠ke k)∨∃ j e,(Instr.findKey kt (ke k) es).run P w=.ok (some (j,e.val)) w∧es[j]? = some e∧e.key=ke k
 stays:∀ (w:World) (k:κ),(Instr.keyThatStays (ke k) (ke k)).run P w=.ok (ke k) w
theorem Qpr {a b:Str} (h:sv a=sv b):a=b:=by
 simp only [sv,Value.string.injEq,ByteArray.mk.injEq] at h
 have:=congrArg Array.toList h
 simpa using this
theorem kText {P:Program} {kt:TypeId} (hd:P.underlying kt=some .string):KOk P kt sv where
 inj:=Qpr
 check:=fun w em k=>MapKept.run_checkKey hd (k:=sv k) trivial em 9999
 find:=fun w k es hall=>by
  rcases MapKept.findNow_spec (d:=.string) (k:=sv k) trivial es 0 (fun e he=>by obtain ⟨k',hk'⟩:=hall e he; rw [hk']; exact trivial) with ⟨h1,h2⟩ | ⟨j,e,h1,h2,h3⟩
  ·exact .inl ⟨MapKept.run_findKey hd h1,h2⟩
  ·rw [Nat.zero_add] at h1
   exact .inr ⟨j,e,MapKept.run_findKey hd h1,h2,h3⟩
 stays:=fun w k=>MapKept.run_keyThatStays (d:=.string) trivial
/-- a pair of texts -/
def kp (p:Str×Str):Value:=.agg #[sv p.1,sv p.2]
def isTxt (P:Program) (t:TypeId):Bool:=match P.underlying t with
 | some .string=>true
 | _=>false
theorem Qny {P:Program} {t:TypeId} (h:isTxt P t=true):P.underlying t=some .string:=by
 unfold isTxt at h
 split at h
 ·assumption
 ·cases h
theorem Qmo {P:Program} {w:World} {t:TypeId} {cs:Array Value} {i:Nat} {v:Value} (ht:P.underlying t=some .string) (hv:cs[i]? = some v):(part t cs i).run P w=.ok v w:=by
 have ha:(isAgg t).run P w=.ok false w:=by simp [isAgg,ht,underlying]
 simp [part,ha,hv]
theorem Qma {P : Program} {kt : TypeId} (hd : KOk P kt ke) {es : Array MapEntry} {l : List (κ × α)} (he : es.toList.map (fun e => (e.key, e.val)) = l.map fun p => (ke p.1, enc p.2)) (nd : l.Pairwise fun p q => p.1 ≠ q.1) (k : κ) (w : World) :
 (lkL k l=none∧(Instr.findKey kt (ke k) es.toList).run P w=.ok none w)∨∃ j e x,lkL k l=some x∧(Instr.findKey kt (ke k) es.toList).run P w=.ok (some (j,enc x)) w∧es[j]? = some e∧e.key=ke k∧l[j]? = some (k,x):=by
 have hall:∀ e ∈ es.toList,∃ k',e.key=ke k':=fun e hm=>by
  have:(e.key,e.val) ∈ es.toList.map fun e=>(e.key,e.val):=List.mem_map.2 ⟨e,hm,rfl⟩
  rw [he] at this
  obtain ⟨p,_,hp⟩:=List.mem_map.1 this
  injection hp with hp _
  exact ⟨p.1,hp.symm⟩
 rcases hd.find w k es.toList hall with ⟨h1,h2⟩ | ⟨j,e,h1,h2,h3⟩
 ·refine .inl ⟨QnB fun p hp e => ?_, h1⟩
  have:(ke p.1,enc p.2) ∈ l.map fun p=>(ke p.1,enc p.2):=List.mem_map.2 ⟨p,hp,rfl⟩
  rw [← he] at this
  obtain ⟨x,hx,hxe⟩:=List.mem_map.1 this
  injection hxe with hxe _
  exact h2 x hx (by rw [hxe,e])
 ·have hj := congrArg (fun l => l[j]?) he
  simp only [List.getElem?_map,h2,Option.map_some] at hj
  cases hp:l[j]? with
  | none=>rw [hp] at hj; cases hj
  | some p=>
   rw [hp] at hj
   simp only [Option.map_some,Option.some.injEq,Prod.mk.injEq] at hj
   have hpk:p.1=k:=hd.inj (by rw [← hj.1,h3])
   have hpe:p=(k,p.2):=by rw [← hpk]
   rw [hpe] at hp
   refine .inr ⟨j,e,p.2,QoT nd (List.mem_of_getElem? hp),?_,by simpa using h2,h3,hp⟩
   rw [← hj.2]; exact h1
end
section
variable {P:Program} {C:Ctx} {Q:Exit→Act→World→Prop} {n:FN} {l:List (Nat×Value)} {H:Heap} {ops:Array Oper} {rest:List Oper} {d:Nat} {ty:TypeId} {pos:String} {after:Array Edge} {g:Option (Nat×Bool)} {α:Type} {κ:Type} [DecidableEq κ] {ke:κ→Value} {enc:α→Value}
theorem St.getO {w:World} {b:Nat} {ob:Obj} (hs:St C w H) (h:H b=some (true,.obj ob)):(getObj b).run P w=.ok ob w∧w.heap[b]? = some ob:=by
 obtain ⟨o1,ho,hrel⟩:=hs.blk _ _ _ h
 simp only [GO.rel] at hrel
 obtain ⟨h1,h2⟩:=hrel
 rw [h1] at ho
 refine ⟨?_,ho⟩
 cases ob <;> first | exact absurd rfl (h2 _ _ _) | simp [getObj,Sem.run,ho]
theorem GL.makeMap {t:TypeId} {K:Nat→Heap→Prop} (h:mkM K H) (hw:Wt ops l g) (hd:Nat.blt d n.n=true) (k:∀ b H',K b H'→GL P C ops Q n rest ((d,mv (some b))::l) H'):GL P C ops Q n (⟨some d,.makeMap t none,ty,pos,after,g⟩::rest) l H:=by
 refine GL.run (v:=.bool true) hw hd fun a w hf hs=>⟨mv (some w.heap.size),_,_,?_,hs.push (o:=.map #[] 0) (g:=.obj (.map #[] 0)) (m:=true) ⟨rfl,fun _ _ _ h=>by cases h⟩,k _ _ (h _ hs.fresh)⟩
 simp [execOp,Instr.makeMap,newObj,Sem.run,mv]
theorem OV.lookupM {t kt et:TypeId} {X Y:Operand} {c:Bool} {z x:α} {q:Option Nat} {k:κ} {b:Bool} (hL:Lk ke enc z q k x b H) (hx:opv l X=some (mv q)) (hy:opv l Y=some (ke k)) (ht:P.underlying t=some (.map kt et)) (hk:KOk P kt ke) (hz:(P.info? et).bind (·.zero)=some (enc z)) :
 OV P C n l H ⟨some d,.lookup t X Y c,ty,pos,after,g⟩ (if c then .tuple #[enc x,.bool b] else enc x):=by
 intro a w hf hs
 have hzv:(zeroValue et).run P w=.ok (enc z) w:=by
  cases hinf:P.info? et with
  | none=>rw [hinf] at hz; cases hz
  | some inf=>
   rw [hinf] at hz
   simp only [Option.bind_some] at hz
   simp [zeroValue,typeInfo,hinf,hz]
 have hck:∀ em,(Instr.checkKey em 10000 kt (ke k)).run P w=.ok () w:=fun em=>hk.check w em k
 simp only [execOp,hf.ev hx,hf.ev hy]
 rcases hL with ⟨rfl,rfl,rfl⟩ | ⟨r,es',rfl,⟨⟨es,ck,h1,h2⟩,nd⟩,hcase⟩
 ·have hfk : (Instr.findKey kt (ke k) []).run P w = .ok none w := by
   rcases hk.find w k [] (fun e he=>by cases he) with ⟨h,_⟩ | ⟨j,e,_,h,_⟩
   ·exact h
   ·simp at h
  simp only [Instr.lookup,mv]
  cases c <;> simp [underlying,ht,hck,hfk,hzv]
 ·obtain ⟨g1,_⟩:=St.getO (P:=P) hs h1
  simp only [Instr.lookup,mv]
  rcases Qma hk h2 nd k w with ⟨q1,q2⟩ | ⟨j,e,x',q1,q2,_⟩
  ·rcases hcase with ⟨c1,rfl⟩ | ⟨c1,rfl,rfl⟩
   ·rw [q1] at c1; cases c1
   ·cases c <;> simp [underlying,ht,hck,q2,hzv,g1]
  ·rcases hcase with ⟨c1,rfl⟩ | ⟨c1,rfl,rfl⟩
   ·rw [q1] at c1; injection c1 with c1; subst c1
    cases c <;> simp [underlying,ht,hck,q2,hzv,g1]
   ·rw [q1] at c1; cases c1
theorem OV.lookup2 {t kt et:TypeId} {X Y:Operand} {z x:α} {q:Option Nat} {k:κ} {b:Bool} {v:Value} (hv:v=.tuple #[enc x,.bool b]) (hL:Lk ke enc z q k x b H) (hx:opv l X=some (mv q)) (hy:opv l Y=some (ke k)) (ht:P.underlying t=some (.map kt et)) (hk:KOk P kt ke) (hz:(P.info? et).bind (·.zero)=some (enc z)) :
 OV P C n l H ⟨some d,.lookup t X Y true,ty,pos,after,g⟩ v:=by
 subst hv; exact OV.lookupM (c:=true) hL hx hy ht hk hz
theorem OV.lookup1 {t kt et:TypeId} {X Y:Operand} {z x:α} {q:Option Nat} {k:κ} {b:Bool} {v:Value} (hv:v=enc x) (hL:Lk ke enc z q k x b H) (hx:opv l X=some (mv q)) (hy:opv l Y=some (ke k)) (ht:P.underlying t=some (.map kt et)) (hk:KOk P kt ke) (hz:(P.info? et).bind (·.zero)=some (enc z)) :
 OV P C n l H ⟨some d,.lookup t X Y false,ty,pos,after,g⟩ v:=by
 subst hv; exact OV.lookupM (c:=false) hL hx hy ht hk hz
end
section
variable {α:Type} {κ:Type} [DecidableEq κ] {ke:κ→Value} {enc:α→Value}
/-- a map, whose entries' stamps are known -/
structure MapSt (ke:κ→Value) (enc:α→Value) (H:Heap) (b:Nat) (l:List (κ×α)) (es:Array MapEntry) (ck:Nat):Prop where
 at_:H b=some (true,.obj (.map es ck))
 ents:es.toList.map (fun e=>(e.key,e.val))=l.map fun p=>(ke p.1,enc p.2)
 st:MapKept.Stamped es ck
theorem MapSt.keys {H:Heap} {b:Nat} {l:List (κ×α)} {es:Array MapEntry} {ck:Nat} (h:MapSt ke enc H b l es ck):es.toList.map (fun e=>e.key)=l.map fun p=>ke p.1:=by
 have:=congrArg (List.map fun q:Value×Value=>q.1) h.ents
 simpa [List.map_map,Function.comp_def] using this
theorem MapSt.nd {H:Heap} {b:Nat} {l:List (κ×α)} {es:Array MapEntry} {ck:Nat} (h:MapSt ke enc H b l es ck):l.Pairwise fun p q=>p.1≠q.1:=by
 have h3:(es.toList.map fun e=>e.key).Nodup:=h.st.2.2
 rw [h.keys,List.Nodup,List.pairwise_map] at h3
 exact h3.imp fun {a b} hab e=>hab (by rw [e])
theorem MapSt.is {H:Heap} {b:Nat} {l:List (κ×α)} {es:Array MapEntry} {ck:Nat} (h:MapSt ke enc H b l es ck):MapIs ke enc H b l:=⟨⟨es,ck,h.at_,h.ents⟩,h.nd⟩
theorem MapSt.out {H:Heap} {b:Nat} {l:List (κ×α)} {es:Array MapEntry} {ck:Nat} (h:MapSt ke enc H b l es ck) {e:MapEntry} (he:e ∈ es.toList):∃ p ∈ l,ke p.1=e.key∧enc p.2=e.val:=by
 have:(e.key,e.val) ∈ es.toList.map fun e=>(e.key,e.val):=List.mem_map.2 ⟨e,he,rfl⟩
 rw [h.ents] at this
 obtain ⟨p,hp,e⟩:=List.mem_map.1 this
 injection e with e1 e2
 exact ⟨p,hp,e1,e2⟩
/-- an iterator over a map: what was told of it -/
structure It (ke:κ→Value) (enc:α→Value) (H:Heap) (it m:Nat) (l vs:List (κ×α)):Prop where
 ex:∃ es ck seen,MapSt ke enc H m l es ck∧H it=some (true,.obj (.mapIter (some m) ck seen ck))∧(∀ e ∈ es.toList,(seen.contains e.born=true ↔ ∃ p ∈ vs,ke p.1=e.key))∧(∀ us p,vs=us++[p]→∃ e ∈ es.toList,seen.back? = some e.born∧ke p.1=e.key∧enc p.2=e.val)∧seen.size=vs.length
 sub:∀ p ∈ vs,p ∈ l
 nd:vs.Pairwise fun p q=>p.1≠q.1
 ki:∀ {a b:κ},ke a=ke b→a=b
end
section
variable {P:Program} {C:Ctx} {Q:Exit→Act→World→Prop} {n:FN} {l:List (Nat×Value)} {H:Heap} {ops:Array Oper} {rest:List Oper} {d:Nat} {ty:TypeId} {pos:String} {after:Array Edge} {g:Option (Nat×Bool)} {α:Type} {κ:Type} [DecidableEq κ] {ke:κ→Value} {enc:α→Value}
end
section
variable {α:Type} {κ:Type} [DecidableEq κ] {ke:κ→Value} {enc:α→Value}
/-- a map whose stamps are kept in order -/
def MapS (ke:κ→Value) (enc:α→Value) (H:Heap) (b:Nat) (l:List (κ×α)):Prop:=∃ es ck,MapSt ke enc H b l es ck
theorem MapS.is {H:Heap} {b:Nat} {l:List (κ×α)} (h:MapS ke enc H b l):MapIs ke enc H b l:=by obtain ⟨es,ck,h⟩:=h; exact h.is
theorem MapS.le {A B:Heap} {b:Nat} {l:List (κ×α)} (h:MapS ke enc A b l) (hle:A.le B):MapS ke enc B b l:=by
 obtain ⟨es,ck,h⟩:=h
 exact ⟨es,ck,hle _ _ h.at_,h.ents,h.st⟩
theorem MapS.same {A B:Heap} {b:Nat} {l:List (κ×α)} (h:MapS ke enc A b l) (hb:B b=A b):MapS ke enc B b l:=by
 obtain ⟨es,ck,h⟩:=h
 exact ⟨es,ck,by rw [hb]; exact h.at_,h.ents,h.st⟩
theorem MapS.new {H:Heap} {b:Nat}:MapS ke enc (H.put b (.obj (.map #[] 0))) b []:=⟨#[],0,Heap.put_same ..,rfl,MapKept.stamped_empty 0⟩
/-- an entry written -/
def upS (ke:κ→Value) (enc:α→Value) (q:Option Nat) (k:κ) (x:α) (K:Heap→Prop) (H:Heap):Prop:=
 ∃ b l,q=some b∧MapS ke enc H b l∧∀ g l2,MapS ke enc (H.put b g) b l2→(∀ k2,lkL k2 l2=if k2=k then some x else lkL k2 l)→l2.length=(if (lkL k l).isSome then l.length else l.length+1)→K (H.put b g)
end
section
variable {P:Program} {C:Ctx} {Q:Exit→Act→World→Prop} {n:FN} {l:List (Nat×Value)} {H:Heap} {ops:Array Oper} {rest:List Oper} {d:Nat} {ty:TypeId} {pos:String} {after:Array Edge} {g:Option (Nat×Bool)} {α:Type} {κ:Type} [DecidableEq κ] {ke:κ→Value} {enc:α→Value}
theorem GL.mapUpdateS {t kt et:TypeId} {X Y Z:Operand} {q:Option Nat} {k:κ} {x:α} {K:Heap→Prop} (h:upS ke enc q k x K H) (hw:Wt ops l g) (hx:opv l X=some (mv q)) (hy:opv l Y=some (ke k)) (hz:opv l Z=some (enc x)) (ht:P.underlying t=some (.map kt et)) (hk:KOk P kt ke)
 (kk:∀ H',K H'→GL P C ops Q n rest l H'):GL P C ops Q n (⟨none,.mapUpdate t X Y Z,ty,pos,after,g⟩::rest) l H:=by
 obtain ⟨b,l0,rfl,⟨es,ck,hm⟩,h3⟩:=h
 have h1:=hm.at_
 have h2:=hm.ents
 have nd:=hm.nd
 refine GL.run0 hw fun a w hf hs=>?_
 obtain ⟨g1,g2⟩:=St.getO (P:=P) hs h1
 have hlt:b < w.heap.size:=(Array.getElem?_eq_some_iff.1 g2).1
 have hck:∀ em,(Instr.checkKey em 10000 kt (ke k)).run P w=.ok () w:=fun em=>hk.check w em k
 have hset:∀ es' ck',(setObj b (.map es' ck')).run P w=.ok () (w.putObj b (.map es' ck')):=fun es' ck'=>by simp [setObj,Sem.run,g2,World.putObj]
 have hst:∀ es' ck',St C (w.putObj b (.map es' ck')) (H.put b (.obj (.map es' ck'))):=fun es' ck'=>
  hs.set h1 ⟨rfl,rfl,World.putObj_heap_same hlt,fun x hx=>World.putObj_heap_other hx⟩ ⟨rfl,fun _ _ _ h=>by cases h⟩
 simp only [execOp,hf.ev hx,hf.ev hy,hf.ev hz,Instr.mapUpdate,mv]
 rcases Qma hk h2 nd k w with ⟨q1,q2⟩ | ⟨j,e,x',q1,q2,q3,q4,q5⟩
 ·refine ⟨_, _, ?_, hst (es.push { key := ke k, val := enc x, born := ck }) (ck + 1), kk _ (h3 _ (l0 ++ [(k, x)]) ⟨_, _, Heap.put_same .., ?_, MapKept.stamped_push hm.st fun e he hek => ?_⟩ (fun k2 => QkZ q1) ?_)⟩
  ·simp [underlying,ht,hck,q2,g1,hset]
  ·simp [h2]
  ·obtain ⟨p,hp,hpk,_⟩:=hm.out he
   have hpk2:=hk.inj (hpk.trans hek)
   have:=QoT nd (k:=k) (x:=p.2) (by rw [← hpk2]; exact hp)
   rw [q1] at this; cases this
  ·rw [q1]; simp
 ·have hst2:(Instr.keyThatStays (ke k) (ke k)).run P w=.ok (ke k) w:=hk.stays w k
  refine ⟨_,_,?_,hst (es.modify j fun e=>{ e with key:=ke k,val:=enc x }) ck,kk _ (h3 _ (l0.set j (k,x)) ⟨_,_,Heap.put_same ..,?_,MapKept.stamped_modify hm.st j _ (fun _ _=>rfl) fun e' he' hj=>?_⟩ (fun k2=>QoU nd q5) ?_)⟩
  ·simp [underlying,ht,hck,q2,g1,hset,q3,q4,hst2]
  ·rw [Array.toList_modify]
   apply List.ext_getElem?
   intro i
   have hi:=congrArg (fun l=>l[i]?) h2
   simp only [List.getElem?_map] at hi ⊢
   rw [List.getElem?_modify]
   by_cases hij:j=i
   ·subst hij
    have hjl:=(List.getElem?_eq_some_iff.1 q5).1
    rw [List.getElem?_set_self hjl,show es.toList[j]? = some e by simpa using q3]
    simp
   ·rw [List.getElem?_set_ne hij]
    simp only [hij,if_false]
    cases hh:es.toList[i]? with
    | none=>rw [hh] at hi; simpa using hi
    | some e'=>rw [hh] at hi; simpa using hi
  ·rw [q3] at hj; injection hj with hj; subst hj; exact q4.symm
  ·rw [q1,List.length_set]; simp
end
section
variable {α κ:Type} [DecidableEq κ] (ke:κ→Value) (enc:α→Value)
end
section
variable {P:Program} {C:Ctx} {Q:Exit→Act→World→Prop} {n:FN} {l:List (Nat×Value)} {H:Heap} {ops:Array Oper} {rest:List Oper} {d:Nat} {ty:TypeId} {pos:String} {after:Array Edge} {g:Option (Nat×Bool)} {α:Type} {κ:Type} [DecidableEq κ] {ke:κ→Value} {enc:α→Value}
end
end
section
open Go
/-- an operation, where its result goes, and what is known of it (kept by new memory) -/
structure UO where
 i:Nat
 d:Nat
 Ψ:Value→Heap→Prop
 m:∀ v A B,Heap.le A B→Ψ v A→Ψ v B
section
variable {P:Program} {C:Ctx} {Q:Exit→Act→World→Prop} {n:FN} {l:List (Nat×Value)} {H Hs:Heap} {ops:Array Oper} {fuel:Nat} {listed:Array Bool} {todo:List UO}
/-- what is so amid the region -/
structure UInv (todo:List UO) (listed:Array Bool) (l:List (Nat×Value)) (H:Heap) (done:List Nat) (listed':Array Bool) (l':List (Nat×Value)) (D:Heap):Prop where
 le:H.le D
 sz:listed'.size=listed.size
 ls:∀ j,listed'[j]? = if j ∈ done then (listed[j]?).map (fun _=>true) else listed[j]?
 sub:∀ j ∈ done,∃ u ∈ todo,u.i=j
 ok:∀ u ∈ todo,u.i ∈ done→∃ v,lk l' u.d=some v∧u.Ψ v D
 fr:∀ t,(∀ u ∈ todo,u.d≠t)→lk l' t=lk l t
def max4 (a b c e:Int):Int:=max (max (max a b) c) e
theorem OV.max4 {d:Nat} {ty:TypeId} {pos:String} {after:Array Edge} {g:Option (Nat×Bool)} {x y z u:Operand} {ats:Array TypeId} {k0:IntKind} {a b c e:Int} (hx:opv l x=some (.int k0 a)) (hy:opv l y=some (.int k0 b)) (hz:opv l z=some (.int k0 c)) (hu:opv l u=some (.int k0 e)) :
 OV P C n l H ⟨some d,.call { callee:=.builtin .max,args:=#[x,y,z,u],argTypes:=ats },ty,pos,after,g⟩ (.int k0 (Sx.max4 a b c e)):=fun ac w hf hs=>by
 have h:∀ a b:Int,(if b > a then b else a)=max a b:=fun a b=>by rw [Int.max_def]; split <;> split <;> omega
 simp only [execOp,resolve,invoke,builtin,List.map_toArray,List.map_cons,List.map_nil,hf.ev hx,hf.ev hy,hf.ev hz,hf.ev hu]
 simp [Builtin.max_,Builtin.max2,Sx.max4,h]
end
section
variable {κ α:Type} [DecidableEq κ] {ke:κ→Value} {enc:α→Value} {P:Program} {C:Ctx} {Q:Exit→Act→World→Prop} {n:FN} {l:List (Nat×Value)} {H:Heap} {ops:Array Oper} {rest:List Oper} {ty:TypeId} {pos:String} {after:Array Edge} {g:Option (Nat×Bool)}
theorem GL.insertS {t kt et:TypeId} {X Y Z:Operand} {q:Option Nat} {k:κ} {x:α} {K:Heap→Prop} (h:upS ke enc q k x K H) (hw:Wt ops l g) (hx:opv l X=some (mv q)) (hy:opv l Y=some (ke k)) (hz:opv l Z=some (enc x)) (ht:P.underlying t=some (.map kt et)) (hk:KOk P kt ke)
 (kk:∀ H',K H'→GL P C ops Q n rest l H'):GL P C ops Q n (⟨none,.insert t X Y Z,ty,pos,after,g⟩::rest) l H:=by
 have h0:=GL.mapUpdateS (ty:=ty) (pos:=pos) (after:=after) h hw hx hy hz ht hk kk
 intro a w hf hs
 exact h0 a w hf hs
end
end
section
open Go
def Heap.off (s:Sl) (H:Heap):Heap:=fun x=>if s.p.map (fun p=>p.1)=some x then none else H x
theorem Heap.off_le (s:Sl) (H:Heap):(H.off s).le H:=fun x e h=>by
 unfold Heap.off at h
 split at h
 ·cases h
 ·exact h
theorem Heap.off_fresh (s:Sl) (H:Heap):Fresh (H.off s) s:=fun p hp=>by
 unfold Heap.off; rw [if_pos (by rw [hp]; rfl)]
theorem Heap.off_some {s:Sl} {H:Heap} {x:Nat} {e:Bool×GO} (h:H x=some e) (hx:∀ p,s.p=some p→p.1≠x):(H.off s) x=some e:=by
 unfold Heap.off
 rw [if_neg]
 ·exact h
 ·intro hh
  obtain ⟨p,hp,rfl⟩:=Option.map_eq_some_iff.1 hh
  exact hx p hp rfl
theorem Own.off {H:Heap} {z:Nat} {s:Sl} {cs:List Value} (h:Own H z s cs):OwnF (H.off s) H z s cs:=⟨Heap.off_le s H,h,Heap.off_fresh s H⟩
theorem Own.mine {H:Heap} {z:Nat} {s:Sl} {cs:List Value} (h:Own H z s cs) {p:Nat×Nat} (hp:s.p=some p):∃ g,H p.1=some (true,g):=by
 obtain ⟨_,_,_,⟨h0,_⟩ | ⟨b,sp,hb,hh,_⟩⟩:=h
 ·rw [h0] at hp; cases hp
 ·rw [hb] at hp; injection hp with hp; subst hp; exact ⟨_,hh⟩
theorem Qpz {H0 H:Heap} {zc:List Value} {bytes:Nat} {s t:Sl} {cs ys:List Value} {K:Sl→Heap→Prop} (h:OwnF H0 H zc.length s cs) (ht:rdsl H t ys) (hy:ys.length=t.len*zc.length) (h1:∀ u ∈ ys,u.oneCell' = true)
 (hb:(s.len+t.len)*bytes≤140737488355328) (h63:s.len+t.len≤9223372036854775807) (k:∀ r H2,OwnF H0 H2 zc.length r (cs++ys)→r.len=s.len+t.len→K r H2):apS zc bytes s t K H:=
 ⟨ys,ht,h1,Qll h hy hb h63 k⟩
theorem QrU (l:List Str):∀ v ∈ l.map sv,v.oneCell' = true:=by
 intro v hv
 obtain ⟨s,_,rfl⟩:=List.mem_map.1 hv
 rfl
/-- the empty literal -/
theorem Qoe {H:Heap} {b z:Nat} (hb:H b=none):OwnF H (H.put b (.row [])) z (Sl.of (some (b,0)) 0 0) []:=
 ⟨Heap.le_put hb,⟨by simp,rfl,Nat.le_refl _,.inr ⟨b,[],rfl,by rw [Heap.put_same]; rfl,by simp⟩⟩,fun p hp=>by injection hp with hp; subst hp; exact hb⟩
end
section
open Go
end
section
open Go
/-- the cells of a datum of numbers, texts, truth values -/
def lcells {H:Type}:Nat→DataW H→List Value
 | 0,_=>[]
 | n+1,.lit (.int k x)=>[.int k x]
 | n+1,.lit (.bool b)=>[.bool b]
 | n+1,.lit (.string s)=>[.string ⟨s.toArray⟩]
 | n+1,.agg ds=>ds.flatMap (lcells n)
 | n+1,_=>[]
/-- the settled world, in which these blocks hold these data -/
noncomputable def laidW (P:Program) (os:Os) (l:List (Nat×List Value)):World:=
 { World.holding P os ⟨#[],#[],[]⟩ with heap:=l.foldl (fun h x=>h.modify x.1 (fun o=>match o with | .cells _ t frozen=>.cells x.2.toArray t frozen | o=>o)) (World.holding P os ⟨#[],#[],[]⟩).heap }
section
variable {H:Type} {enc:TypeId×Value→H} {P:Program}
end
end
section
open Go
/-- what is known where something was thrown -/
def PanOut (C:Ctx) (E:Value→Heap→Prop) (ds0:List Deferred) (ch:List PanicEntry) (ds:List Deferred) (w:World):Prop:=
 ds=ds0∧∃ v H',ch=[{ v,recovered:=false }]∧St C w H'∧E v H'
/-- it returns, or it throws -/
def PostP (C:Ctx) (Φ:Value→Heap→Prop) (E:Value→Heap→Prop):Ending→World→Prop
 | .returned v,w=>∃ H',St C w H'∧Φ v H'
 | .panicked ch,w=>∃ v H',ch=[{ v,recovered:=false }]∧St C w H'∧E v H'
 | .outgrown,_=>False
def SpecP (P:Program) (C:Ctx) (f:FuncId) (args:List Value) (H:Heap) (Φ:Value→Heap→Prop) (E:Value→Heap→Prop):Prop:=
 ∀ w,St C w H→Calls P f args.toArray w (PostP C Φ E)
theorem SpecP.mono {P:Program} {C:Ctx} {f:FuncId} {args:List Value} {H:Heap} {Φ Ψ E E2:Value→Heap→Prop} (h:SpecP P C f args H Φ E) (hh:∀ v H',Φ v H'→Ψ v H') (he:∀ v H',E v H'→E2 v H'):SpecP P C f args H Ψ E2:=
 fun w hw=>(h w hw).mono fun e w' q=>by
  cases e with
  | returned v=>obtain ⟨H',h1,h2⟩:=q; exact ⟨H',h1,hh _ _ h2⟩
  | panicked ch=>obtain ⟨v,H',h0,h1,h2⟩:=q; exact ⟨v,H',h0,h1,he _ _ h2⟩
  | outgrown=>exact q
section
variable {P:Program} {C:Ctx} {Q:Exit→Act→World→Prop} {n:FN} {l:List (Nat×Value)} {H Hs:Heap} {ops:Array Oper} {rest:List Oper} {d:Nat} {op:Op} {ty:TypeId} {pos:String} {after:Array Edge} {g:Option (Nat×Bool)} {fuel:Nat} {listed:Array Bool} {E:Value→Heap→Prop}
def SpecPostP (P:Program) (C:Ctx) (fn:Func) (Φ E:Value→Heap→Prop):Exit→Act→World→Prop
 | .normal,a,w | .ret,a,w=>a.defers=[]∧SpecPost P C fn Φ .ret a w
 | .panic ch,a,w=>PanOut C E [] ch a.defers w
 | _,_,_=>False
theorem SpecPostP.body {fn:Func} {Φ:Value→Heap→Prop}:∀ (e:Exit) (a:Act) (w:World),SpecPostP P C fn Φ E e a w→bodyPost P fn (PostP C Φ E) e a w
 | .normal,a,w,⟨hd,h⟩ | .ret,a,w,⟨hd,h⟩=>by
  change LeavesInM Fence.wide 0 P fn a.tmps (Post C Φ) a.defers .returning w at h
  rw [hd] at h
  obtain ⟨v,hr,u,H',e,h1,h2⟩:=h
  injection e with e; subst e
  exact ⟨hd,v,hr,H',h1,h2⟩
 | .panic _,_,_,⟨hd,h⟩=>⟨hd,h⟩
 | .outgrown,_,_,h=>h.elim
 | .exit _,_,_,h=>h.elim
 | .goto _,_,_,h=>h.elim
theorem SpecP.enter {n:Nat} {f:FuncId} {fn:Func} {c:Code} {args:List Value} {Φ:Value→Heap→Prop} (hf:P.funcs[f]? = some fn) (hb:fn.body=some c) (hn:fn.ntmps=n)
 (ha:Nat.ble args.length n=true) (k:GC P C (SpecPostP P C fn Φ E) ⟨n,[]⟩ c (argFrame args) H):SpecP P C f args H Φ E:=by
 intro w hw
 refine calls_of_wp hf hb (wp_mono (k _ w ⟨?_,rfl,?_⟩ hw) SpecPostP.body)
 ·have : args.length ≤ n := by simpa using ha
  simp [hn]; omega
 ·intro t v h
  have:=(Qfy args 0 t v h).2
  simp only [Nat.sub_zero] at this
  have hlt:t < args.length:=(List.getElem?_eq_some_iff.1 this).1
  simp only [Array.getElem?_append,List.size_toArray,hlt,if_true,List.getElem?_toArray]
  exact this
theorem postP {fn:Func} {Φ:Value→Heap→Prop} {m:Nat} {a:Act} {w:World} (hf:Fr ⟨m,[]⟩ l a) (h:SpecPost P C fn Φ .ret a w):SpecPostP P C fn Φ E .ret a w:=⟨hf.defers,h⟩
theorem GL.callWpP {o:Oper} {f:FuncId} {vs:List Value} {Φ:Value→Heap→Prop} (hc:SpecP P C f vs H Φ E) (hq:∀ ch a w,Fr n l a→PanOut C E n.ds ch a.defers w→Q (.panic ch) a w) (hdo:o.dst=some d) (hw:Wt ops l g) (hg:o.guard=g) (hd:Nat.blt d n.n=true)
 (hrun:∀ a w,Fr n l a→(execOp a.eval o).run P w=.ok (.enter f vs.toArray) w)
 (k:∀ v H',Φ v H'→GL P C ops Q n rest ((d,v)::l) H'):GL P C ops Q n (o::rest) l H:=by
 intro a w hf hs
 have hx:=hw.wanted (o:=o) hg hf
 simp only [wpList,hx,if_true]
 refine .inl ?_
 unfold Oper.wp
 rw [hrun a w hf]
 refine (hc w hs).mono fun e w' he=>?_
 cases e with
 | returned v=>
  obtain ⟨H',h2,h3⟩:=he
  simp only [hdo]
  exact k v H' h3 _ _ (hf.put hd) h2
 | panicked ch=>exact hq ch a w' hf ⟨hf.defers,he⟩
 | outgrown=>exact he.elim
theorem GL.callP {f:FuncId} {xs:Array Operand} {ats:Array TypeId} {vs:List Value} {Φ:Value→Heap→Prop} (hc:SpecP P C f vs H Φ E) (hq:∀ ch a w,Fr n l a→PanOut C E n.ds ch a.defers w→Q (.panic ch) a w) (hw:Wt ops l g) (hd:Nat.blt d n.n=true) (hok:CallOk P f) (hx:opvs l xs.toList=some vs)
 (k:∀ v H',Φ v H'→GL P C ops Q n rest ((d,v)::l) H'):GL P C ops Q n (⟨some d,.call { callee:=.value (.func f),args:=xs,argTypes:=ats },ty,pos,after,g⟩::rest) l H:=
 GL.callWpP hc hq rfl hw rfl hd (fun a w hf=>by
  have h1:xs.map a.eval=vs.toArray:=by apply Array.ext'; simp [hf.evs hx]
  simp [execOp,resolve,invoke,Deferred.ofValue,Act.eval,h1,Qc8 hok]) k
/-- a value in an interface -/
theorem OV.makeInterface {t:TypeId} {x:Operand} {u:Value} (hx:opv l x=some u) (ht:(match P.underlying t with | some (.interface _)=>false | some _=>true | none=>false)=true):OV P C n l H ⟨some d,.makeInterface t x,ty,pos,after,g⟩ (.iface t u):=fun ac w hf hs=>by
 cases hu:P.underlying t with
 | none=>rw [hu] at ht; cases ht
 | some dd=>
  rw [hu] at ht
  cases dd <;> first | (cases ht; done) | simp [execOp,Instr.makeInterface,hf.ev hx,underlying,hu]
/-- a throw -/
theorem GL.panic {x:Operand} {t:TypeId} {u:Value} {d0:Option Nat} (h:E (.iface t u) H) (hq:∀ ch a w,Fr n l a→PanOut C E n.ds ch a.defers w→Q (.panic ch) a w) (hw:Wt ops l g) (hx:opv l x=some (.iface t u)) :
 GL P C ops Q n (⟨d0,.panic x,ty,pos,after,g⟩::rest) l H:=by
 intro a w hf hs
 have hx':=hw.wanted (o:=⟨d0,.panic x,ty,pos,after,g⟩) rfl hf
 simp only [wpList,hx',if_true]
 refine .inl ?_
 unfold Oper.wp
 have hr:(execOp a.eval ⟨d0,.panic x,ty,pos,after,g⟩).run P w=.halt (.panic (.iface t u)) w:=by
  simp [execOp,hf.ev hx,Instr.panic,goPanic]
 rw [hr]
 exact hq _ a w hf ⟨hf.defers,_,H,rfl,hs,h⟩
theorem GA.takeP (i:Nat) {v:Value} (hi:ops[i]? = some ⟨some d,op,ty,pos,after,g⟩) (hw:Wt ops l g) (hv:OV P C n l Hs ⟨some d,op,ty,pos,after,g⟩ v)
 (k:GA P C ops Q n fuel (listed.setIfInBounds i true) ((d,v)::l) H Hs) (hQ:∀ c a v w,Q (.panic c) (a.put (some d) v) w→Q (.panic c) a w:=by exact fun _ _ _ _ h=>h)
 (hs:Region.noSelect ops=true:=by kernel_rfl) (hf:Region.free .any ops listed i=true:=by kernel_rfl) (hr:(Region.ready .any ops listed).contains i=true:=by kernel_rfl) (hd:Nat.blt d n.n=true:=by exact rfl):GA P C ops Q n (fuel+1) listed l H Hs:=by
 intro a w hfr hst hss
 exact wpAnyH_take hi hs hf hr (fun c a w h=>hQ c a _ w h) (.inl ⟨hw.wanted (o:=⟨some d,op,ty,pos,after,g⟩) rfl hfr,fun w' hw'=>hv a w' hfr hw'⟩) hss (k _ w (hfr.put hd) hst hss)
theorem GT.takeP {t:Nat} (i:Nat) {v:Value} (hi:ops[i]? = some ⟨some d,op,ty,pos,after,g⟩) (hw:Wt ops l g) (hv:OV P C n l Hs ⟨some d,op,ty,pos,after,g⟩ v)
 (k:GT P C ops Q n t fuel (listed.setIfInBounds i true) ((d,v)::l) H Hs) (hQ:∀ c a v w,Q (.panic c) (a.put (some d) v) w→Q (.panic c) a w:=by exact fun _ _ _ _ h=>h)
 (hB:tailOk ops t=true:=by kernel_rfl) (hf:Region.free .any ops listed i=true:=by kernel_rfl) (hr:(Region.ready .any ops listed).contains i=true:=by kernel_rfl) (hit:Nat.blt i t=true:=by exact rfl) (hd:Nat.blt d n.n=true:=by exact rfl):GT P C ops Q n t (fuel+1) listed l H Hs:=by
 intro a w hfr hst hss inv
 simp only [tailOk,Bool.and_eq_true,decide_eq_true_eq] at hB
 obtain ⟨⟨⟨h1,h2⟩,h3⟩,h4⟩:=hB
 have hr':i ∈ Region.ready .any ops listed:=by simpa using hr
 have hit':i < t:=by simpa using hit
 exact Qpu hi (Region.noSelect_spec h1) h3 h4 h2 hit' (fun c a w h => hQ c a _ w h) fuel listed a w inv (Region.free_spec hi hf) hr'
  (.inl ⟨hw.wanted (o:=⟨some d,op,ty,pos,after,g⟩) rfl hfr,fun w' hw'=>hv a w' hfr hw'⟩) hss (k _ w (hfr.put hd) hst hss (inv.set hr' hit'))
def SpecPostD (P:Program) (C:Ctx) (fn:Func) (Φ:Value→Heap→Prop):Exit→Act→World→Prop
 | .normal,a,w | .ret,a,w=>Leaves P fn a.tmps (Post C Φ) a.defers .returning w
 | .panic ch,a,w=>Leaves P fn a.tmps (Post C Φ) a.defers (.panicking ch) w
 | _,_,_=>False
theorem SpecPostD.body {fn:Func} {Φ:Value→Heap→Prop}:∀ (e:Exit) (a:Act) (w:World),SpecPostD P C fn Φ e a w→bodyPostD P fn (Post C Φ) e a w
 | .normal,_,_,h=>h
 | .ret,_,_,h=>h
 | .panic _,_,_,h=>h
 | .outgrown,_,_,h=>h.elim
 | .exit _,_,_,h=>h.elim
 | .goto _,_,_,h=>h.elim
theorem Spec.enterD {n:Nat} {f:FuncId} {fn:Func} {c:Code} {args:List Value} {Φ:Value→Heap→Prop} (hf:P.funcs[f]? = some fn) (hb:fn.body=some c) (hn:fn.ntmps=n)
 (ha:Nat.ble args.length n=true) (k:GC P C (SpecPostD P C fn Φ) ⟨n,[]⟩ c (argFrame args) H):Spec P C f args H Φ:=by
 intro w hw
 refine calls_of_wp_defers hf hb (wp_mono (k _ w ⟨?_,rfl,?_⟩ hw) SpecPostD.body)
 ·have : args.length ≤ n := by simpa using ha
  simp [hn]; omega
 ·intro t v h
  have:=(Qfy args 0 t v h).2
  simp only [Nat.sub_zero] at this
  have hlt:t < args.length:=(List.getElem?_eq_some_iff.1 this).1
  simp only [Array.getElem?_append,List.size_toArray,hlt,if_true,List.getElem?_toArray]
  exact this
theorem postD {fn:Func} {Φ:Value→Heap→Prop} {m:Nat} {a:Act} {w:World} (hf:Fr ⟨m,[]⟩ l a) (h:SpecPost P C fn Φ .ret a w):SpecPostD P C fn Φ .ret a w:=by
 change LeavesInM Fence.wide 0 P fn a.tmps (Post C Φ) a.defers .returning w at h
 show Leaves P fn a.tmps (Post C Φ) a.defers .returning w
 rw [hf.defers] at h ⊢
 exact h
def dfd (f:FuncId) (cs:List Value):Deferred:={ target:=.fn (.func f) cs.toArray,args:=#[] }
theorem GL.defer {f:FuncId} {cs:List Value} {x:Operand} {ats:Array TypeId} (hw:Wt ops l g) (hx:opv l x=some (.func (.func f) (List.toArray []) cs.toArray)) (k:GL P C ops Q ⟨n.n,dfd f cs::n.ds⟩ rest l H) :
 GL P C ops Q n (⟨none,.defer { callee:=.value x,args:=#[],argTypes:=ats },ty,pos,after,g⟩::rest) l H:=by
 intro a w hf hs
 have hx':=hw.wanted (o:=⟨none,.defer { callee:=.value x,args:=#[],argTypes:=ats },ty,pos,after,g⟩) rfl hf
 simp only [wpList,hx',if_true]
 refine .inl ?_
 unfold Oper.wp
 have hr:(execOp a.eval ⟨none,.defer { callee:=.value x,args:=#[],argTypes:=ats },ty,pos,after,g⟩).run P w=.ok (.defer (dfd f cs)) w:=by
  simp [execOp,resolve,hf.ev hx,Deferred.ofValue,dfd]
 rw [hr]
 exact k _ w ⟨hf.size,by show dfd f cs::a.defers=_; rw [hf.defers],fun t v h=>hf.get t v h⟩ hs
/-- what a deferred closure does to the frame below and to memory -/
def SpecD (P:Program) (C:Ctx) (f:FuncId) (cs:List Value) (u:FrameMode) (H:Heap) (R:FrameMode→Heap→Prop):Prop:=
 ∀ w,St C w H→CallsD P f cs.toArray u w fun e u' w'=>(∃ v,e=.returned v)∧∃ H',St C w' H'∧R u' H'
theorem SpecD.mono {f:FuncId} {cs:List Value} {u:FrameMode} {R R2:FrameMode→Heap→Prop} (h:SpecD P C f cs u H R) (hr:∀ u' H',R u' H'→R2 u' H'):SpecD P C f cs u H R2:=
 fun w hw=>(h w hw).mono fun e u' w' ⟨h1,H',h2,h3⟩=>⟨h1,H',h2,hr _ _ h3⟩
/-- three results that lie in cells -/
theorem res3 {α β:Type} {c1:α→List Value} {c2:β→List Value} {K:α→β→Int→Heap→Prop} {fn:Func} {x1 x2 x3:Nat} {t1 t2 t3:TypeId} {p1 p2 p3:Nat×Nat} {a:Act} {w:World} (hr:fn.results = #[.cell x1 t1,.cell x2 t2,.cell x3 t3])
 (l1:lk l x1=some (pv (some p1))) (l2:lk l x2=some (pv (some p2))) (l3:lk l x3=some (pv (some p3))) (a1:aggT P t1=true) (i1:∀ x,(P.info? t1).map (·.size)=some (c1 x).length) (a2:aggT P t2=true) (i2:∀ x,(P.info? t2).map (·.size)=some (c2 x).length) (a3:aggB P t3=false)
 (hf:Fr n l a) (hw:St C w H) (h:ldT H c1 p1 fun x=>ldT H c2 p2 fun y=>ldI H .i64 p3 fun z=>K x y z H) :
 ∃ v,(results fn a.tmps).run P w=.ok v w∧Post C (fun v H2=>∃ r0 r1 r2,v=.tuple #[.agg (c1 r0).toArray,.agg (c2 r1).toArray,.int .i64 r2]∧K r0 r1 r2 H2) (.returned v) w:=by
 obtain ⟨x,hx,y,hy,z,hz,hk⟩:=h
 refine ⟨_,?_,_,H,rfl,hw,x,y,z,rfl,hk⟩
 rcases (RV.cellT (P:=P) (C:=C) l1 a1 (i1 x) hx).run hf hw with ⟨t,e0,e⟩ | ⟨_,t,p,e0,e,e2⟩ <;> cases e0
 rcases (RV.cellT (P:=P) (C:=C) l2 a2 (i2 y) hy).run hf hw with ⟨t',e0,e'⟩ | ⟨_,t',p',e0,e',e2'⟩ <;> cases e0
 rcases (RV.cell (P:=P) (C:=C) l3 a3 hz).run hf hw with ⟨t'',e0,e''⟩ | ⟨_,t'',p'',e0,e'',e2''⟩ <;> cases e0
 simp_all [results,pv,asAddr]
theorem QkX {fn : Func} {R : Ending → World → Prop} {f : FuncId} {cs : List Value} {u : FrameMode} {tmps : Array Value} {w : World} {X : Heap → Prop} (hu : u ≠ .run) (hok : CallOk P f) (hw : St C w H) (h : SpecD P C f cs u H fun u' H2 => settle u' = .returning ∧ X H2)
 (k:∀ w' H2,St C w' H2→X H2→∃ v,(results fn tmps).run P w' = .ok v w'∧R (.returned v) w'):Leaves P fn tmps R [dfd f cs] u w:=by
 refine leaves_cons (f:=f) (args:=cs.toArray) hu (by simp [invoke,Qc8 hok]) ((h w hw).mono fun e u' w' ⟨⟨v,he⟩,H2,hs,hse,hX⟩=>?_)
 subst he
 show Leaves P fn tmps R [] (settle u') w'
 rw [hse]
 exact k w' H2 hs hX
theorem Qp6 {α β:Type} (c1:α→List Value) (c2:β→List Value) {K:α→β→Int→Heap→Prop} {fn:Func} {x1 x2 x3:Nat} {t1 t2 t3:TypeId} {p1 p2 p3:Nat×Nat} {f:FuncId} {cs:List Value} {m:Nat} {a:Act} {w:World} (hr:fn.results = #[.cell x1 t1,.cell x2 t2,.cell x3 t3])
 (l1:lk l x1=some (pv (some p1))) (l2:lk l x2=some (pv (some p2))) (l3:lk l x3=some (pv (some p3))) (a1:aggT P t1=true) (i1:∀ x,(P.info? t1).map (·.size)=some (c1 x).length) (a2:aggT P t2=true) (i2:∀ x,(P.info? t2).map (·.size)=some (c2 x).length) (a3:aggB P t3=false)
 (hok:CallOk P f) (hf:Fr ⟨m,[dfd f cs]⟩ l a) (hw:St C w H) (h:SpecD P C f cs .returning H fun u H2=>u=.returning∧ldT H2 c1 p1 fun x=>ldT H2 c2 p2 fun y=>ldI H2 .i64 p3 fun z=>K x y z H2) :
 SpecPostD P C fn (fun v H2=>∃ r0 r1 r2,v=.tuple #[.agg (c1 r0).toArray,.agg (c2 r1).toArray,.int .i64 r2]∧K r0 r1 r2 H2) .ret a w:=by
 show Leaves P fn a.tmps _ a.defers .returning w
 rw [hf.defers]
 exact QkX (by simp) hok hw (h.mono fun u' H2 ⟨e,q⟩=>⟨by rw [e]; rfl,q⟩) fun w' H2 hs hX=>res3 hr l1 l2 l3 a1 i1 a2 i2 a3 hf hs hX
theorem Qiw {α β:Type} (c1:α→List Value) (c2:β→List Value) {K:α→β→Int→Heap→Prop} {fn:Func} {x1 x2 x3:Nat} {t1 t2 t3:TypeId} {p1 p2 p3:Nat×Nat} {f:FuncId} {cs:List Value} {m:Nat} (hr:fn.results = #[.cell x1 t1,.cell x2 t2,.cell x3 t3])
 (l1:lk l x1=some (pv (some p1))) (l2:lk l x2=some (pv (some p2))) (l3:lk l x3=some (pv (some p3))) (a1:aggT P t1=true) (i1:∀ x,(P.info? t1).map (·.size)=some (c1 x).length) (a2:aggT P t2=true) (i2:∀ x,(P.info? t2).map (·.size)=some (c2 x).length) (a3:aggB P t3=false)
 (hok:CallOk P f) (hE:∀ v H3,E v H3→SpecD P C f cs (.panicking [⟨v,false,false⟩]) H3 fun u H2=>settle u=.returning∧ldT H2 c1 p1 fun x=>ldT H2 c2 p2 fun y=>ldI H2 .i64 p3 fun z=>K x y z H2) :
 ∀ ch a w,Fr ⟨m,[dfd f cs]⟩ l a→PanOut C E [dfd f cs] ch a.defers w→SpecPostD P C fn (fun v H2=>∃ r0 r1 r2,v=.tuple #[.agg (c1 r0).toArray,.agg (c2 r1).toArray,.int .i64 r2]∧K r0 r1 r2 H2) (.panic ch) a w:=by
 rintro ch a w hf ⟨hd,v,H3,rfl,hs,he⟩
 show Leaves P fn a.tmps _ a.defers (.panicking _) w
 rw [hd]
 exact QkX (by simp) hok hs (hE v H3 he) fun w' H2 hs hX=>res3 hr l1 l2 l3 a1 i1 a2 i2 a3 hf hs hX
end
def kI (x:Int):Value:=.int .i64 x
theorem kInt {P:Program} {kt:TypeId} (hd:P.underlying kt=some (.int .i64)):KOk P kt kI where
 inj:=fun h=>by injection h
 check:=fun w em k=>MapKept.run_checkKey hd (k:=kI k) rfl em 9999
 find:=fun w k es hall=>by
  rcases MapKept.findNow_spec (d:=.int .i64) (k:=kI k) rfl es 0 (fun e he=>by obtain ⟨k',hk'⟩:=hall e he; rw [hk']; exact rfl) with ⟨h1,h2⟩ | ⟨j,e,h1,h2,h3⟩
  ·exact .inl ⟨MapKept.run_findKey hd h1,h2⟩
  ·rw [Nat.zero_add] at h1
   exact .inr ⟨j,e,MapKept.run_findKey hd h1,h2,h3⟩
 stays:=fun w k=>MapKept.run_keyThatStays (d:=.int .i64) (k:=kI k) rfl
def kp3 (p:Str×Str×Int):Value:=.agg #[sv p.1,sv p.2.1,.int .i64 p.2.2]
def isI64 (P:Program) (t:TypeId):Bool:=match P.underlying t with
 | some (.int .i64)=>true
 | _=>false
theorem QpS {P:Program} {t:TypeId} (h:isI64 P t=true):P.underlying t=some (.int .i64):=by
 unfold isI64 at h
 split at h
 ·assumption
 ·cases h
def tripT (P:Program) (kt:TypeId):Bool:=(match P.underlying kt with
 | some (.struct fs) => (match fs.toList with
  | [f0, f1, f2] => f0.name != "_" && f1.name != "_" && f2.name != "_" && f0.offset == 0 && f1.offset == 1 && f2.offset == 2 && isTxt P f0.type && isTxt P f1.type && isI64 P f2.type
  | _=>false)
 | _=>false) && !P.stoodInHeld kt
theorem Qp3 {P:Program} {w:World} {t:TypeId} {cs:Array Value} {i:Nat} {v:Value} (ht:P.underlying t=some (.int .i64)) (hv:cs[i]? = some v):(part t cs i).run P w=.ok v w:=by
 have ha:(isAgg t).run P w=.ok false w:=by simp [isAgg,ht,underlying]
 simp [part,ha,hv]
theorem QoR {a b:Str×Str×Int} (h:kp3 a=kp3 b):a=b:=by
 unfold kp3 at h
 injection h with h
 have h:=congrArg Array.toList h
 simp only [List.cons.injEq,and_true,Value.int.injEq,true_and] at h
 exact Prod.ext (Qpr h.1) (Prod.ext (Qpr h.2.1) h.2.2)
theorem kTrip {P:Program} {kt:TypeId} (h:tripT P kt=true):KOk P kt kp3:=by
 unfold tripT at h
 rw [Bool.and_eq_true] at h
 obtain ⟨h,hst⟩:=h
 cases hu:P.underlying kt with
 | none=>rw [hu] at h; cases h
 | some d=>
 rw [hu] at h
 cases d <;> simp only [Bool.false_eq_true] at h
 rename_i fs
 cases hfs:fs.toList with
 | nil=>rw [hfs] at h; cases h
 | cons f0 l=>
 cases l with
 | nil=>rw [hfs] at h; cases h
 | cons f1 l=>
 cases l with
 | nil=>rw [hfs] at h; cases h
 | cons f2 l=>
 cases l with
 | cons _ _=>rw [hfs] at h; cases h
 | nil=>
 rw [hfs] at h
 simp only [Bool.and_eq_true,bne_iff_ne,ne_eq,beq_iff_eq] at h
 obtain ⟨⟨⟨⟨⟨⟨⟨⟨n0,n1⟩,n2⟩,o0⟩,o1⟩,o2⟩,s0⟩,s1⟩,s2⟩:=h
 have hst:P.stoodInHeld kt=false:=by simpa using hst
 have s0:=Qny s0
 have s1:=Qny s1
 have s2:=QpS s2
 have p0:∀ (w:World) (x y:Str) (z:Int),(part f0.type #[sv x,sv y,.int .i64 z] f0.offset).run P w=.ok (sv x) w:=fun w x y z=>Qmo s0 (by rw [o0]; rfl)
 have p1:∀ (w:World) (x y:Str) (z:Int),(part f1.type #[sv x,sv y,.int .i64 z] f1.offset).run P w=.ok (sv y) w:=fun w x y z=>Qmo s1 (by rw [o1]; rfl)
 have p2:∀ (w:World) (x y:Str) (z:Int),(part f2.type #[sv x,sv y,.int .i64 z] f2.offset).run P w=.ok (.int .i64 z) w:=fun w x y z=>Qp3 s2 (by rw [o2]; rfl)
 have heq:∀ (w:World) (a b:Str×Str×Int),(Op.equal kt (kp3 a) (kp3 b)).run P w=.ok (decide (a=b)) w:=fun w a b=>by
  have e0:∀ (dp:Nat) (t:TypeId) (x y:Str),P.underlying t=some .string→(Op.equalIn (dp+1) t (sv x) (sv y)).run P w=.ok (decide (x=y)) w:=fun dp t x y ht=>by
   unfold sv
   have:((⟨x.toArray⟩:ByteArray) == ⟨y.toArray⟩)=decide (x=y):=by
    rw [Bool.eq_iff_iff,MapKept.bytes_beq,decide_eq_true_iff]
    exact ⟨fun e=>by
     injection e with e
     have:=congrArg Array.toList e
     simpa using this,fun e=>by rw [e]⟩
   simp [Op.equalIn,underlying,ht,this]
  have i0:∀ (dp:Nat) (t:TypeId) (x y:Int),P.underlying t=some (.int .i64)→(Op.equalIn (dp+1) t (.int .i64 x) (.int .i64 y)).run P w=.ok (decide (x=y)) w:=fun dp t x y ht=>by
   have e:(x == y)=decide (x=y):=by rw [Bool.eq_iff_iff]; simp
   simp [Op.equalIn,underlying,ht,e]
  unfold Op.equal
  show (Op.equalIn (9998+1+1) kt (kp3 a) (kp3 b)).run P w=_
  unfold kp3
  rw [Op.equalIn]
  simp only [Sem.run_bind,run_underlying hu,Result.andThen_ok,run_program,hst]
  rw [← Array.forIn_toList,hfs]
  have e1:∀ (x y:Str),(Op.equalIn 9999 f0.type (sv x) (sv y)).run P w=.ok (decide (x=y)) w:=fun x y=>e0 9998 _ _ _ s0
  have e2:∀ (x y:Str),(Op.equalIn 9999 f1.type (sv x) (sv y)).run P w=.ok (decide (x=y)) w:=fun x y=>e0 9998 _ _ _ s1
  have e3:∀ (x y:Int),(Op.equalIn 9999 f2.type (.int .i64 x) (.int .i64 y)).run P w=.ok (decide (x=y)) w:=fun x y=>i0 9998 _ _ _ s2
  simp only [List.forIn_cons,n0,n1,n2,ne_eq,not_false_eq_true,if_true]
  obtain ⟨a1,a2,a3⟩:=a
  obtain ⟨b1,b2,b3⟩:=b
  dsimp only
  by_cases h1:a1=b1
  ·by_cases h2:a2=b2
   ·by_cases h3:a3=b3
    ·simp [h1,h2,h3,p0,p1,p2,e1,e2,e3]
    ·simp [h1,h2,h3,p0,p1,p2,e1,e2,e3]
   ·simp [h1,h2,p0,p1,e1,e2]
  ·simp [h1,p0,p1,e1,e2]
 refine ⟨QoR,fun w em k=>?_,fun w k es hall=>?_,fun w k=>?_⟩
 ·have e0 : ∀ (dp : Nat) (t : TypeId) (x : Str), P.underlying t = some .string → (Instr.checkKey em (dp + 1) t (sv x)).run P w = .ok () w := fun dp t x ht => by
   simp [Instr.checkKey,underlying,ht,sv]
  have i0:∀ (dp:Nat) (t:TypeId) (x:Int),P.underlying t=some (.int .i64)→(Instr.checkKey em (dp+1) t (.int .i64 x)).run P w=.ok () w:=fun dp t x ht=>by
   simp [Instr.checkKey,underlying,ht]
  show (Instr.checkKey em (9998+1+1) kt (kp3 k)).run P w=_
  unfold kp3
  rw [Instr.checkKey]
  simp only [Sem.run_bind,run_underlying hu,Result.andThen_ok]
  rw [← Array.forIn_toList,hfs]
  simp [Sem.run_bind,n0,n1,n2,p0,p1,p2,e0 9998 _ _ s0,e0 9998 _ _ s1,i0 9998 _ _ s2]
 ·have hnow : Instr.findNow (.struct fs) (kp3 k) es 0 = none ∨ es = [] := by
   cases es with
   | nil=>exact .inr rfl
   | cons e es=>exact .inl (by unfold kp3; simp [Instr.findNow,Instr.sameNow])
  have hrun:(Instr.findKey kt (kp3 k) es).run P w=(Instr.findAsking kt (kp3 k) es).run P w:=by
   unfold Instr.findKey
   simp only [Sem.run_bind,run_underlying hu,Result.andThen_ok]
   rcases hnow with h | rfl
   ·rw [h]
   ·simp [Instr.findNow,Instr.findAsking]
  rw [hrun]
  have main:∀ (es:List MapEntry) (i:Nat),(∀ e ∈ es,∃ k',e.key=kp3 k')→((Instr.findAsking kt (kp3 k) es i).run P w=.ok none w∧∀ e ∈ es,e.key≠kp3 k)∨∃ j e,(Instr.findAsking kt (kp3 k) es i).run P w=.ok (some (i+j,e.val)) w∧es[j]? = some e∧e.key=kp3 k:=by
   intro es
   induction es with
   | nil=>intro i _; exact .inl ⟨by simp [Instr.findAsking],fun e he=>by cases he⟩
   | cons e es ih=>
    intro i hall
    obtain ⟨k',hk'⟩:=hall e (List.mem_cons_self ..)
    by_cases hkk:k=k'
    ·subst hkk
     exact .inr ⟨0,e,by simp [Instr.findAsking,hk',heq],rfl,hk'⟩
    ·have hne : e.key ≠ kp3 k := fun e2 => hkk (by
      rw [hk'] at e2
      exact (QoR e2).symm)
     rcases ih (i+1) fun e he=>hall e (List.mem_cons_of_mem _ he) with ⟨q1,q2⟩ | ⟨j,e2,q1,q2,q3⟩
     ·refine .inl ⟨by simp [Instr.findAsking, hk', heq, hkk, q1], fun e' he' => ?_⟩
      rcases List.mem_cons.1 he' with rfl | he'
      ·exact hne
      ·exact q2 e' he'
     ·exact .inr ⟨j+1,e2,by simp [Instr.findAsking,hk',heq,hkk,q1]; omega,by simpa using q2,q3⟩
  rcases main es 0 hall with h | ⟨j,e,h1,h2,h3⟩
  ·exact .inl h
  ·rw [Nat.zero_add] at h1; exact .inr ⟨j,e,h1,h2,h3⟩
 ·have hs : Instr.sameBits 10000 (kp3 k) (kp3 k) = true := by
   unfold kp3
   show Instr.sameBits (9999+1) _ _=true
   simp only [Instr.sameBits,beq_self_eq_true,Bool.true_and,List.all_eq_true]
   intro p hp
   simp at hp
   rcases hp with rfl | rfl | rfl <;> simp [Instr.sameBits,sv,MapKept.bytes_beq]
  simp [Instr.keyThatStays,hs]
end
section
open Go
/-- alike, cell by cell -/
noncomputable def csEq (xs ys:List Value):Bool:=@decide (xs=ys) (Classical.propDecidable _)
theorem Qie {xs ys:List Value}:csEq xs ys=true↔xs=ys:=by unfold csEq; exact @decide_eq_true_iff _ (Classical.propDecidable _)
inductive CK where
 | int (k:IntKind)
 | str
def CK.is:CK→Value→Prop
 | .int k,.int k' _=>k' = k
 | .str,.string _=>True
 | _,_=>False
def typedK:List CK→List Value→Prop
 | [],[]=>True
 | k::ks,v::vs=>k.is v∧typedK ks vs
 | _,_=>False
theorem typedK.len:∀ {ks:List CK} {vs:List Value},typedK ks vs→vs.length=ks.length
 | [],[],_=>rfl
 | k::ks,v::vs,h=>by simp [typedK.len h.2]
 | [],_::_,h=>h.elim
 | _::_,[],h=>h.elim
theorem typedK.split:∀ {a b:List CK} {vs:List Value},typedK (a++b) vs→typedK a (vs.take a.length)∧typedK b (vs.drop a.length)
 | [],b,vs,h=>⟨by simp [typedK],by simpa using h⟩
 | k::a,b,v::vs,h=>by
  have ih:=typedK.split (a:=a) (b:=b) h.2
  exact ⟨by simpa [typedK] using ⟨h.1,ih.1⟩,by simpa using ih.2⟩
 | k::a,b,[],h=>h.elim
def szOk (P:Program) (t:TypeId) (n:Nat):Bool:=match P.underlying t with
 | some (.struct _)=>(P.info? t).map (·.size) == some n
 | _=>true
mutual
def ckT (P:Program):Nat→TypeId→Option (List CK)
 | 0,_=>none
 | d + 1, t => match P.underlying t with
  | some (.int k)=>some [.int k]
  | some .string=>some [.str]
  | some (.struct fs)=>if P.stoodInHeld t then none else ckF P d 0 fs.toList
  | _=>none
def ckF (P:Program):Nat→Nat→List Field→Option (List CK)
 | _,_,[]=>some []
 | 0,_,_::_=>none
 | d + 1, off, f :: r => if f.name == "_" || f.offset != off then none else match ckT P d f.type with
  | none=>none
  | some ks=>if szOk P f.type ks.length=true then (ckF P d (off+ks.length) r).map (ks++·) else none
end
/-- the value of a type over its cells -/
def wrapT (P:Program) (t:TypeId) (cs:List Value):Value:=match P.underlying t with
 | some (.struct _)=>.agg cs.toArray
 | _=>cs.headD undef
theorem Qmp {P:Program} {w:World} {t:TypeId} {d:Nat} {ks:List CK} {cs:List Value} {off:Nat} (h:ckT P d t=some ks) (hs:szOk P t ks.length=true)
 (ht:typedK ks ((cs.drop off).take ks.length)):(part t cs.toArray off).run P w=.ok (wrapT P t ((cs.drop off).take ks.length)) w:=by
 have hl:=ht.len
 cases d with
 | zero=>simp [ckT] at h
 | succ d=>
  simp only [ckT] at h
  have sc:∀ k,ks=[k]→(isAgg t).run P w=.ok false w→(match P.underlying t with | some (.struct _)=>False | _=>True)→(part t cs.toArray off).run P w=.ok (wrapT P t ((cs.drop off).take ks.length)) w:=fun k hk ha hn=>by
   subst hk
   have h0:off < cs.length:=by
    simp only [List.length_take,List.length_drop,List.length_cons,List.length_nil] at hl; omega
   have e:(cs.drop off).take [k].length=[cs[off]]:=by
    rw [List.length_singleton,List.drop_eq_getElem_cons h0]; rfl
   rw [e]
   have e2:wrapT P t [cs[off]]=cs[off]:=by
    unfold wrapT
    split
    ·rename_i hh; rw [hh] at hn; exact hn.elim
    ·rfl
   rw [e2]
   simp [part,ha,h0]
  cases hu:P.underlying t with
  | none=>rw [hu] at h; cases h
  | some dd=>
   rw [hu] at h
   cases dd <;> simp only [reduceCtorEq] at h
   case int k=>injection h with h; exact sc _ h.symm (by simp [isAgg,underlying,hu]) (by rw [hu]; trivial)
   case string=>injection h with h; exact sc _ h.symm (by simp [isAgg,underlying,hu]) (by rw [hu]; trivial)
   case struct fs=>
    unfold szOk at hs
    rw [hu] at hs
    simp only [beq_iff_eq] at hs
    cases hi:P.info? t with
    | none=>rw [hi] at hs; cases hs
    | some inf=>
     rw [hi] at hs
     have hsz:inf.size=ks.length:=by simpa using hs
     have ha:(isAgg t).run P w=.ok true w:=by simp [isAgg,underlying,hu]
     have e:wrapT P t ((cs.drop off).take ks.length)=.agg ((cs.drop off).take ks.length).toArray:=by unfold wrapT; rw [hu]
     rw [e]
     have e2:cs.toArray.extract off (off+ks.length)=((cs.drop off).take ks.length).toArray:=by
      apply Array.ext'
      simp [List.extract_eq_take_drop]
     simp only [part,Sem.run_bind,ha,Result.andThen_ok,if_true]
     simp [Go.sizeOf,typeInfo,hi,hsz,e2]
mutual
theorem QkQ {P:Program} {w:World}:∀ (d:Nat) {t:TypeId} {ks:List CK} {a b:List Value} (e:Nat),ckT P d t=some ks→typedK ks a→typedK ks b→d≤e→(Op.equalIn e t (wrapT P t a) (wrapT P t b)).run P w=.ok (csEq a b) w
 | 0,t,ks,a,b,e,h,_,_,_=>by simp [ckT] at h
 | d+1,t,ks,a,b,0,h,_,_,he=>absurd he (by omega)
 | d+1,t,ks,a,b,e+1,h,ha,hb,he=>by
  simp only [ckT] at h
  cases hu:P.underlying t with
  | none=>rw [hu] at h; cases h
  | some dd=>
   rw [hu] at h
   cases dd <;> simp only [reduceCtorEq] at h
   case int k=>
    injection h with h
    subst h
    match a,b,ha,hb with
    | [.int k1 x],[.int k2 y],⟨h1,_⟩,⟨h2,_⟩=>
     have e0:∀ v:Value,wrapT P t [v]=v:=fun v=>by unfold wrapT; rw [hu]; rfl
     rw [e0,e0,h1,h2]
     have e1:(x == y)=csEq [.int k x] [.int k y]:=by
      rw [Bool.eq_iff_iff,Qie]; simp
     simp [Op.equalIn,underlying,hu,e1]
   case string=>
    injection h with h
    subst h
    match a,b,ha,hb with
    | [.string x],[.string y],_,_=>
     have e0:∀ v:Value,wrapT P t [v]=v:=fun v=>by unfold wrapT; rw [hu]; rfl
     rw [e0,e0]
     have e1:(x == y)=csEq [.string x] [.string y]:=by
      rw [Bool.eq_iff_iff,Qie,MapKept.bytes_beq]; simp
     simp [Op.equalIn,underlying,hu,e1]
   case struct fs=>
    split at h
    ·cases h
    ·rename_i hst
     have e0:∀ c:List Value,wrapT P t c=.agg c.toArray:=fun c=>by unfold wrapT; rw [hu]
     rw [e0,e0,Op.equalIn]
     simp only [Sem.run_bind,run_underlying hu,Result.andThen_ok,run_program]
     rw [if_neg hst]
     rw [← Array.forIn_toList]
     have this:=QjI (w:=w) d (fs:=fs.toList) (off:=0) (a:=a) (b:=b) e h (by simpa using ha) (by simpa using hb) (by simpa using ha.len) (by simpa using hb.len) (by omega)
     simp only [List.drop_zero] at this
     simp at this ⊢
     refine Eq.trans (congrArg (Result.andThen _) (funext fun r=>funext fun w'=>?_)) this
     obtain ⟨o,_⟩:=r
     cases o <;> rfl
theorem QjI {P:Program} {w:World}:∀ (d:Nat) {fs:List Field} {off:Nat} {ks:List CK} {a b:List Value} (e:Nat),ckF P d off fs=some ks→typedK ks (a.drop off)→typedK ks (b.drop off)→(a.drop off).length=ks.length→(b.drop off).length=ks.length→d≤e→
 ((forIn fs (none,()) (fun (f:Field) (__s:Option Bool×Unit)=>
  if f.name ≠ "_" then do
   let x ← part f.type a.toArray f.offset
   let y ← part f.type b.toArray f.offset
   let r ← Op.equalIn e f.type x y
   if (!r)=true then pure (ForInStep.done (some false,())) else pure (ForInStep.yield (none,()))
  else pure (ForInStep.yield (none,())):Field→Option Bool×Unit→Sem (ForInStep (Option Bool×Unit))):Sem (Option Bool×Unit)) >>= fun r=>match r.1 with | some b=>pure b | none=>pure true).run P w=.ok (csEq (a.drop off) (b.drop off)) w
 | _,[],off,ks,a,b,e,h,ha,hb,hla,hlb,he=>by
  simp only [ckF] at h
  injection h with h
  subst h
  have h1:a.drop off=[]:=List.length_eq_zero_iff.1 hla
  have h2:b.drop off=[]:=List.length_eq_zero_iff.1 hlb
  rw [h1,h2]
  have:csEq [] []=true:=Qie.2 rfl
  simp [this]
 | 0,f::r,off,ks,a,b,e,h,_,_,_,_,_=>by simp [ckF] at h
 | d+1,f::r,off,ks,a,b,e,h,ha,hb,hla,hlb,he=>by
  simp only [ckF] at h
  split at h
  ·cases h
  ·rename_i hn
   simp only [Bool.or_eq_true,beq_iff_eq,bne_iff_ne,ne_eq,not_or,Decidable.not_not] at hn
   obtain ⟨hn,hoff⟩:=hn
   cases hk:ckT P d f.type with
   | none=>rw [hk] at h; cases h
   | some k1=>
    rw [hk] at h
    dsimp only at h
    split at h
    ·rename_i hsz
     cases hr:ckF P d (off+k1.length) r with
     | none=>rw [hr] at h; cases h
     | some k2=>
      rw [hr] at h
      simp only [Option.map_some,Option.some.injEq] at h
      subst h
      obtain ⟨a1,a2⟩:=ha.split
      obtain ⟨b1,b2⟩:=hb.split
      rw [List.drop_drop] at a2 b2
      have p1:=Qmp (w:=w) hk hsz a1
      have p2:=Qmp (w:=w) hk hsz b1
      have q:=QkQ (w:=w) d e hk a1 b1 (by omega)
      rw [List.forIn_cons]
      rw [hoff]
      simp only [ne_eq,hn,not_false_eq_true,if_true,Sem.run_bind,p1,p2,q,Result.andThen_ok]
      simp only [List.length_append] at hla hlb
      have ea:a.drop off=(a.drop off).take k1.length++a.drop (off+k1.length):=by
       rw [← List.drop_drop]; exact (List.take_append_drop _ _).symm
      have eb:b.drop off=(b.drop off).take k1.length++b.drop (off+k1.length):=by
       rw [← List.drop_drop]; exact (List.take_append_drop _ _).symm
      cases hc:csEq ((a.drop off).take k1.length) ((b.drop off).take k1.length) with
      | true=>
       have ih:=QjI (w:=w) d (a:=a) (b:=b) e hr a2 b2 (by rw [← List.drop_drop,List.length_drop]; omega) (by rw [← List.drop_drop,List.length_drop]; omega) (by omega)
       have e3:csEq (a.drop (off+k1.length)) (b.drop (off+k1.length))=csEq (a.drop off) (b.drop off):=by
        rw [Bool.eq_iff_iff,Qie,Qie]
        rw [Qie] at hc
        constructor
        ·intro h; rw [ea,eb,hc,h]
        ·intro h; rw [← List.drop_drop,← List.drop_drop,h]
       rw [e3] at ih
       simp only [Sem.run_bind] at ih
       simpa using ih
      | false=>
       have e3:csEq (a.drop off) (b.drop off)=false:=by
        cases hcc:csEq (a.drop off) (b.drop off) with
        | false=>rfl
        | true=>
         rw [Qie] at hcc
         have:csEq ((a.drop off).take k1.length) ((b.drop off).take k1.length)=true:=Qie.2 (by rw [hcc])
         rw [hc] at this; cases this
       rw [e3]
       simp
    ·cases h
end
section
variable {P:Program} {C:Ctx} {n:FN} {l:List (Nat×Value)} {H:Heap} {d:Nat} {ty:TypeId} {pos:String} {after:Array Edge} {g:Option (Nat×Bool)}
theorem OV.eqlT {t yt:TypeId} {x y:Operand} {a b:List Value} (ks:List CK) (hx:opv l x=some (.agg a.toArray)) (hy:opv l y=some (.agg b.toArray)) (hu:aggT P t=true) (h:ckT P 100 t=some ks) (hg:P.eqGuardType P.depth t=false) (ha:typedK ks a) (hb:typedK ks b) (hw:∀ c:List Value,wrapT P t c=.agg c.toArray) :
 OV P C n l H ⟨some d,.binOp .eql t x y yt,ty,pos,after,g⟩ (.bool (csEq a b)):=fun ac w hf hs=>by
 have q:=QkQ (w:=w) 100 10000 h ha hb (by omega)
 rw [hw,hw] at q
 have q2:(Op.equal t (.agg a.toArray) (.agg b.toArray)).run P w=.ok (csEq a b) w:=q
 simp [execOp,hf.ev hx,hf.ev hy,eqGuard,hg,binOp,q2]
end
end
section
open Go
section
variable {P:Program} {C:Ctx} {Q:Exit→Act→World→Prop} {n:FN} {l:List (Nat×Value)} {H Hs:Heap} {ops:Array Oper} {rest:List Oper} {d:Nat} {op:Op} {ty:TypeId} {pos:String} {after:Array Edge} {g:Option (Nat×Bool)}
/-- what such a closure ends in -/
def PostR (P:Program) (C:Ctx) (fn:Func) (R:Heap→Prop):Exit→Act→World→Prop
 | .normal,a,w | .ret,a,w=>a.defers=[]∧∃ v,(results fn a.tmps).run P w=.ok v w∧∃ H',St C w H'∧R H'
 | _,_,_=>False
theorem postRn {fn:Func} {R:Heap→Prop} {m:Nat} {a:Act} {w:World} (hr:fn.results = #[]) (hf:Fr ⟨m,[]⟩ l a) (hs:St C w H) (h:R H):PostR P C fn R .normal a w:=
 ⟨hf.defers,.tuple #[],by simp [results,hr],H,hs,h⟩
/-- recover, and what follows: v is what was thrown, or nothing -/
theorem SpecD.rec_ {u u':FrameMode} {v:Value} {f:FuncId} {fn:Func} {c:Code} {cs:List Value} {n i d:Nat} {ats:Array TypeId} {R:FrameMode→Heap→Prop} (hu:∀ (c₀:Frame) (fs:List Frame),c₀.mode=u→(recoverD (c₀::fs)=some (v,{ c₀ with mode:=u' }::fs))∨(recoverD (c₀::fs)=none∧v=.nilIface∧{ c₀ with mode:=u' }=c₀))
 (hf:P.funcs[f]? = some fn) (hb:fn.body=some (.seq (.region i #[⟨some d,.call { callee:=.builtin .recover,args:=#[],argTypes:=ats },ty,pos,after,none⟩] false) c)) (hn:fn.ntmps=n) (ha:Nat.ble cs.length n=true) (hd:Nat.blt d n=true)
 (k:GC P C (PostR P C fn (R u')) ⟨n,[]⟩ c ((d,v)::argFrame cs) H):SpecD P C f cs u H R:=by
 intro w hw
 refine callsD_of_wpS hf hb fun c₀ fs hm=>wpS_seq (wpS_region ?_)
 have hfr:Fr ⟨n,[]⟩ (argFrame cs) { tmps:=cs.toArray++Array.replicate (fn.ntmps - cs.toArray.size) undef,defers:=[] }:=by
  refine ⟨?_,rfl,?_⟩
  ·have : cs.length ≤ n := by simpa using ha
   simp [hn]; omega
  ·intro t v h
   have:=(Qfy cs 0 t v h).2
   simp only [Nat.sub_zero] at this
   have hlt:t < cs.length:=(List.getElem?_eq_some_iff.1 this).1
   simp only [Array.getElem?_append,List.size_toArray,hlt,if_true,List.getElem?_toArray]
   exact this
 have body:=k _ w (hfr.put (v:=v) (d:=d) hd) hw
 have fin:(c.wpS P (bodyPostS P fn c₀ fs fun e u' w'=>(∃ v,e=.returned v)∧∃ H',St C w' H'∧R u' H')) (({ tmps:=cs.toArray++Array.replicate (fn.ntmps - cs.toArray.size) undef,defers:=[] }:Act).put (some d) v) ({ c₀ with mode:=u' }::fs) w:=
  wpS_of_wp (wp_mono body fun e a w' h=>by
   cases e with
   | normal=>
    obtain ⟨h1,v,h2,H',h3,h4⟩:=h
    exact ⟨h1,u',rfl,v,h2,⟨v,rfl⟩,H',h3,h4⟩
   | ret=>
    obtain ⟨h1,v,h2,H',h3,h4⟩:=h
    exact ⟨h1,u',rfl,v,h2,⟨v,rfl⟩,H',h3,h4⟩
   | _=>exact h.elim)
 show wpOpsS P _ _ [0] _ _ _
 simp only [wpOpsS]
 simp [execOp,resolve,invoke,builtin,Region.wanted,yielded]
 rcases hu c₀ fs hm with h | ⟨h,rfl,h2⟩
 ·rw [h]; exact fin
 ·rw [h]; rw [h2] at fin; exact fin
theorem Qmu {c₀:Frame} {fs:List Frame} {v:Value} (h:c₀.mode=.panicking [⟨v,false,false⟩]):recoverD (c₀::fs)=some (v,{ c₀ with mode:=.panicking [{ v,recovered:=true }] }::fs):=by
 simp [recoverD,h]
theorem Qmv {c₀:Frame} {fs:List Frame} (h:c₀.mode=.returning):recoverD (c₀::fs)=none:=by
 simp [recoverD,h]
def isNilI:Value→Bool
 | .nilIface=>true
 | _=>false
/-- is an interface nil? -/
theorem OV.eqlIf {t yt:TypeId} {x:Operand} {c:Value} {u:Value} (hx:opv l x=some u) (hu:u=.nilIface∨∃ t v,u=.iface t v) (hy:opv l (.const c)=some .nilIface) (ht:(match P.underlying t with | some (.interface _)=>true | _=>false)=true):OV P C n l H ⟨some d,.binOp .eql t x (.const c) yt,ty,pos,after,g⟩ (.bool (isNilI u)):=by
 intro a w hf hs
 cases hd:P.underlying t with
 | none=>rw [hd] at ht; cases ht
 | some dd=>
  rw [hd] at ht
  cases dd <;> try (cases ht; done)
  rename_i ms
  simp only [execOp,hf.ev hx,hf.ev hy]
  rcases hu with rfl | ⟨t2,v,rfl⟩
  ·have he : ∀ dp : Nat, (Op.equalIn (dp + 1) t .nilIface .nilIface).run P w = .ok true w := fun dp => by simp [Op.equalIn, underlying, hd]
   have hb:(binOp .eql t .nilIface .nilIface).run P w=.ok (.bool true) w:=by
    simp only [binOp]
    simp [Op.equal,Op.maxDepth,he 9999]
   have hg:(eqGuard .eql t x (.const c) .nilIface .nilIface).run P w=.ok () w:=by
    unfold eqGuard
    simp
   simp only [bind_pure_comp,Sem.run_map,Sem.run_bind,hg,Result.andThen_ok,hb]
   rfl
  ·have he : ∀ dp : Nat, (Op.equalIn (dp + 1) t (.iface t2 v) .nilIface).run P w = .ok false w := fun dp => by simp [Op.equalIn, underlying, hd]
   have hb:(binOp .eql t (.iface t2 v) .nilIface).run P w=.ok (.bool false) w:=by
    simp only [binOp]
    simp [Op.equal,Op.maxDepth,he 9999]
   have hg:(eqGuard .eql t x (.const c) (.iface t2 v) .nilIface).run P w=.ok () w:=by
    unfold eqGuard
    simp
   simp only [bind_pure_comp,Sem.run_map,Sem.run_bind,hg,Result.andThen_ok,hb]
   rfl
/-- a type is asked of an interface, and it is that -/
theorem OV.typeIs {t xt:TypeId} {x:Operand} {u:Value} (hx:opv l x=some (.iface t u)) (ht:(match P.underlying t with | some (.interface _)=>false | some _=>true | none=>false)=true):OV P C n l H ⟨some d,.typeAssert x xt t true,ty,pos,after,g⟩ (.tuple #[u,.bool true]):=fun ac w hf hs=>by
 cases hu:P.underlying t with
 | none=>rw [hu] at ht; cases ht
 | some dd=>
  rw [hu] at ht
  cases dd <;> first | (cases ht; done) | simp [execOp,Instr.typeAssert,hf.ev hx,underlying,hu]
end
end
section
set_option maxRecDepth 100000
open Go Go.Proofs
structure Qa where
 Name:Str
 Imports:Sl
 Types:Sl
 Rels:Sl
 Rules:Sl
 Nevers:Sl
def Qa.c (x:Qa):List Value:=[sv x.Name,slv x.Imports,slv x.Types,slv x.Rels,slv x.Rules,slv x.Nevers]
def Qa.zero:Qa:=⟨[],Sl.nil,Sl.nil,Sl.nil,Sl.nil,Sl.nil⟩
structure Qj where
 Line:Int
 Col:Int
def Qj.c (x:Qj):List Value:=[.int .i64 x.Line,.int .i64 x.Col]
def Qj.zero:Qj:=⟨0,0⟩
structure Qg where
 Pos:Qj
 Pub:Bool
 Input:Bool
 Name:Str
 Fields:Sl
def Qg.c (x:Qg):List Value:=[.int .i64 x.Pos.Line,.int .i64 x.Pos.Col,.bool x.Pub,.bool x.Input,sv x.Name,slv x.Fields]
def Qg.zero:Qg:=⟨Qj.zero,false,false,[],Sl.nil⟩
structure Qk where
 Kind:Int
 Pos:Qj
 Rel:Str
 Args:Sl
def Qk.c (x:Qk):List Value:=[.int .u8 x.Kind,.int .i64 x.Pos.Line,.int .i64 x.Pos.Col,sv x.Rel,slv x.Args]
def Qk.zero:Qk:=⟨0,Qj.zero,[],Sl.nil⟩
structure Qi where
 Pos:Qj
 Rel:Str
 Args:Sl
 Aggs:Sl
 Body:Sl
def Qi.c (x:Qi):List Value:=[.int .i64 x.Pos.Line,.int .i64 x.Pos.Col,sv x.Rel,slv x.Args,slv x.Aggs,slv x.Body]
def Qi.zero:Qi:=⟨Qj.zero,[],Sl.nil,Sl.nil,Sl.nil⟩
structure Qe where
 Module:Str
 Pos:Qj
def Qe.c (x:Qe):List Value:=[sv x.Module,.int .i64 x.Pos.Line,.int .i64 x.Pos.Col]
def Qe.zero:Qe:=⟨[],Qj.zero⟩
structure Qpw where
 at_:Qe
 e_:Int
structure Qd where
 Name:Str
 Args:Sl
def Qd.c (x:Qd):List Value:=[sv x.Name,slv x.Args]
def Qd.zero:Qd:=⟨[],Sl.nil⟩
structure Qn where
 Pos:Qj
 Name:Str
def Qn.c (x:Qn):List Value:=[.int .i64 x.Pos.Line,.int .i64 x.Pos.Col,sv x.Name]
def Qn.zero:Qn:=⟨Qj.zero,[]⟩
structure Qb where
 Pos:Qj
 Pub:Bool
 Name:Str
 Params:Sl
 Cons:Sl
def Qb.c (x:Qb):List Value:=[.int .i64 x.Pos.Line,.int .i64 x.Pos.Col,.bool x.Pub,sv x.Name,slv x.Params,slv x.Cons]
def Qb.zero:Qb:=⟨Qj.zero,false,[],Sl.nil,Sl.nil⟩
structure Ql where
 Pos:Qj
 Name:Str
 Body:Sl
def Ql.c (x:Ql):List Value:=[.int .i64 x.Pos.Line,.int .i64 x.Pos.Col,sv x.Name,slv x.Body]
def Ql.zero:Ql:=⟨Qj.zero,[],Sl.nil⟩
structure Qc where
 Name:Str
 Fields:Sl
def Qc.c (x:Qc):List Value:=[sv x.Name,slv x.Fields]
def Qc.zero:Qc:=⟨[],Sl.nil⟩
structure Qm where
 Kind:Int
 N:Int
 S:Str
 L:Sl
def Qm.c (x:Qm):List Value:=[.int .u8 x.Kind,.int .i64 x.N,sv x.S,slv x.L]
def Qm.zero:Qm:=⟨0,0,[],Sl.nil⟩
structure Qh where
 Kind:Int
 Pos:Qj
 Name:Str
 Value_:Qm
 Args:Sl
def Qh.c (x:Qh):List Value:=[.int .u8 x.Kind,.int .i64 x.Pos.Line,.int .i64 x.Pos.Col,sv x.Name,.int .u8 x.Value_.Kind,.int .i64 x.Value_.N,sv x.Value_.S,slv x.Value_.L,slv x.Args]
def Qh.zero:Qh:=⟨0,Qj.zero,[],Qm.zero,Sl.nil⟩
structure Qf where
 Name:Str
 Type_:Qd
def Qf.c (x:Qf):List Value:=[sv x.Name,sv x.Type_.Name,slv x.Type_.Args]
def Qf.zero:Qf:=⟨[],Qd.zero⟩
structure QU where
 l_:Sl
 told_:Option Nat
def QU.c (x:QU):List Value:=[slv x.l_,mv x.told_]
structure Qo where
 at_:Qe
 e_:Int
def Qo.c (x:Qo):List Value:=[sv x.at_.Module,.int .i64 x.at_.Pos.Line,.int .i64 x.at_.Pos.Col,.int .i64 x.e_]
def Qo.zero:Qo:=⟨Qe.zero,0⟩
structure QiH where
 addr_:Option (Nat×Nat)
 buf_:Sl
structure Qpx where
 Builder:QiH
structure Qq where
 mod_:Str
 own_:Str
 kind_:Int
def Qq.c (x:Qq):List Value:=[sv x.mod_,sv x.own_,.int .i64 x.kind_]
def Qq.zero:Qq:=⟨[],[],0⟩
structure Qkk where
 lo_:Int
 hi_:Int
theorem QfA:CallOk Tryz.prog 12:=okx Tryz.func12
theorem QkD:CallOk Tryz.prog 13:=okx Tryz.func13
theorem QlL:CallOk Tryz.prog 20:=okx Tryz.func20
theorem QaF:CallOk Tryz.prog 21:=okx Tryz.func21
theorem QfD:CallOk Tryz.prog 22:=okx Tryz.func22
theorem Qe4:CallOk Tryz.prog 23:=okx Tryz.func23
theorem Qgb:CallOk Tryz.prog 24:=okx Tryz.func24
theorem QfE:CallOk Tryz.prog 25:=okx Tryz.func25
theorem QgE:CallOk Tryz.prog 26:=okx Tryz.func26
theorem Qml:CallOk Tryz.prog 39:=okx Tryz.func39
theorem QaQ:CallOk Tryz.prog 40:=okx Tryz.func40
theorem QgG:CallOk Tryz.prog 41:=okx Tryz.func41
theorem Qj0:CallOk Tryz.prog 42:=okx Tryz.func42
theorem Qgg:CallOk Tryz.prog 43:=okx Tryz.func43
theorem Qj7:CallOk Tryz.prog 44:=okx Tryz.func44
theorem QgH:CallOk Tryz.prog 45:=okx Tryz.func45
theorem Qj1:CallOk Tryz.prog 46:=okx Tryz.func46
theorem QhG:CallOk Tryz.prog 47:=okx Tryz.func47
theorem Qd3:CallOk Tryz.prog 48:=okx Tryz.func48
theorem Qmm:CallOk Tryz.prog 49:=okx Tryz.func49
theorem QdQ:CallOk Tryz.prog 50:=okx Tryz.func50
theorem Qj2:CallOk Tryz.prog 51:=okx Tryz.func51
theorem Qdu:CallOk Tryz.prog 52:=okx Tryz.func52
theorem Qj5:CallOk Tryz.prog 53:=okx Tryz.func53
theorem Qj3:CallOk Tryz.prog 54:=okx Tryz.func54
theorem Qj4:CallOk Tryz.prog 55:=okx Tryz.func55
theorem QV:CallOk Tryz.prog 56:=okx Tryz.func56
theorem Qa5:CallOk Tryz.prog 57:=okx Tryz.func57
theorem Qy:CallOk Tryz.prog 58:=okx Tryz.func58
theorem Qeq:CallOk Tryz.prog 59:=okx Tryz.func59
theorem QcS:CallOk Tryz.prog 60:=okx Tryz.func60
theorem Qa7:CallOk Tryz.prog 61:=okx Tryz.func61
theorem Qbn:CallOk Tryz.prog 62:=okx Tryz.func62
theorem Qad:CallOk Tryz.prog 63:=okx Tryz.func63
theorem Qe5:CallOk Tryz.prog 64:=okx Tryz.func64
theorem QhF:CallOk Tryz.prog 65:=okx Tryz.func65
theorem QbR:CallOk Tryz.prog 66:=okx Tryz.func66
theorem Qc6:CallOk Tryz.prog 67:=okx Tryz.func67
theorem Qa6:CallOk Tryz.prog 68:=okx Tryz.func68
theorem Qd2:CallOk Tryz.prog 69:=okx Tryz.func69
theorem QbM:CallOk Tryz.prog 70:=okx Tryz.func70
theorem QdC:CallOk Tryz.prog 71:=okx Tryz.func71
theorem Qeu:CallOk Tryz.prog 104:=okx Tryz.func104
theorem QkE:CallOk Tryz.prog 105:=okx Tryz.func105
theorem Qet:CallOk Tryz.prog 106:=okx Tryz.func106
theorem Qjf:CallOk Tryz.prog 107:=okx Tryz.func107
theorem Qce:CallOk Tryz.prog 108:=okx Tryz.func108
theorem Qis:CallOk Tryz.prog 109:=okx Tryz.func109
theorem QeG:CallOk Tryz.prog 110:=okx Tryz.func110
theorem QkF:CallOk Tryz.prog 111:=okx Tryz.func111
theorem QfK:CallOk Tryz.prog 112:=okx Tryz.func112
theorem QkG:CallOk Tryz.prog 113:=okx Tryz.func113
theorem Qbz:CallOk Tryz.prog 114:=okx Tryz.func114
theorem Qir:CallOk Tryz.prog 115:=okx Tryz.func115
theorem Qct:CallOk Tryz.prog 116:=okx Tryz.func116
theorem QhB:CallOk Tryz.prog 117:=okx Tryz.func117
theorem Qfb:CallOk Tryz.prog 118:=okx Tryz.func118
theorem QkH:CallOk Tryz.prog 119:=okx Tryz.func119
theorem QiX:CallOk Tryz.prog 120:=okx Tryz.func120
theorem Qh2:CallOk Tryz.prog 121:=okx Tryz.func121
theorem QfI:CallOk Tryz.prog 122:=okx Tryz.func122
theorem Qbs:CallOk Tryz.prog 123:=okx Tryz.func123
theorem Qfa:CallOk Tryz.prog 124:=okx Tryz.func124
theorem QeL:CallOk Tryz.prog 125:=okx Tryz.func125
theorem Qit:CallOk Tryz.prog 126:=okx Tryz.func126
theorem Qge:CallOk Tryz.prog 127:=okx Tryz.func127
theorem QiR:CallOk Tryz.prog 128:=okx Tryz.func128
theorem QbB:CallOk Tryz.prog 129:=okx Tryz.func129
theorem QfJ:CallOk Tryz.prog 130:=okx Tryz.func130
theorem QfH:CallOk Tryz.prog 131:=okx Tryz.func131
theorem Qjg:CallOk Tryz.prog 132:=okx Tryz.func132
theorem Qiu:CallOk Tryz.prog 133:=okx Tryz.func133
theorem Qcl:CallOk Tryz.prog 134:=okx Tryz.func134
theorem QgI:CallOk Tryz.prog 135:=okx Tryz.func135
theorem QeM:CallOk Tryz.prog 136:=okx Tryz.func136
theorem QcO:CallOk Tryz.prog 137:=okx Tryz.func137
theorem Qg5:CallOk Tryz.prog 138:=okx Tryz.func138
theorem QkJ:CallOk Tryz.prog 139:=okx Tryz.func139
theorem QbS:CallOk Tryz.prog 140:=okx Tryz.func140
theorem Qgf:CallOk Tryz.prog 141:=okx Tryz.func141
theorem Qbr:CallOk Tryz.prog 142:=okx Tryz.func142
theorem Qe9:CallOk Tryz.prog 143:=okx Tryz.func143
theorem Qj6:CallOk Tryz.prog 144:=okx Tryz.func144
theorem Qgl:CallOk Tryz.prog 145:=okx Tryz.func145
theorem Qb9:CallOk Tryz.prog 146:=okx Tryz.func146
theorem QfB:CallOk Tryz.prog 147:=okx Tryz.func147
theorem Qb8:CallOk Tryz.prog 148:=okx Tryz.func148
theorem Qer:CallOk Tryz.prog 149:=okx Tryz.func149
theorem Qd0:CallOk Tryz.prog 150:=okx Tryz.func150
theorem QbN:CallOk Tryz.prog 151:=okx Tryz.func151
theorem Qaa:CallOk Tryz.prog 152:=okx Tryz.func152
theorem Qje:CallOk Tryz.prog 153:=okx Tryz.func153
theorem QhE:CallOk Tryz.prog 154:=okx Tryz.func154
theorem QdP:CallOk Tryz.prog 155:=okx Tryz.func155
theorem Qe6:CallOk Tryz.prog 156:=okx Tryz.func156
theorem QfC:CallOk Tryz.prog 157:=okx Tryz.func157
theorem Qbe:CallOk Tryz.prog 158:=okx Tryz.func158
theorem QfM:CallOk Tryz.prog 186:=okx Tryz.func186
theorem QbP:CallOk Tryz.prog 188:=okx Tryz.func188
theorem QcT:CallOk Tryz.prog 189:=okx Tryz.func189
theorem QhA:CallOk Tryz.prog 190:=okx Tryz.func190
theorem Qe8:CallOk Tryz.prog 191:=okx Tryz.func191
theorem Qca:CallOk Tryz.prog 192:=okx Tryz.func192
theorem QeF:CallOk Tryz.prog 193:=okx Tryz.func193
theorem Qd4:CallOk Tryz.prog 194:=okx Tryz.func194
theorem QcM:CallOk Tryz.prog 195:=okx Tryz.func195
theorem Qck:CallOk Tryz.prog 196:=okx Tryz.func196
theorem QgF:CallOk Tryz.prog 197:=okx Tryz.func197
theorem Qg6:CallOk Tryz.prog 198:=okx Tryz.func198
theorem Qcs:CallOk Tryz.prog 199:=okx Tryz.func199
theorem QbO:CallOk Tryz.prog 200:=okx Tryz.func200
theorem Qby:CallOk Tryz.prog 201:=okx Tryz.func201
theorem QaK:CallOk Tryz.prog 202:=okx Tryz.func202
theorem Qjd:CallOk Tryz.prog 203:=okx Tryz.func203
theorem Qep:CallOk Tryz.prog 204:=okx Tryz.func204
theorem QfL:CallOk Tryz.prog 220:=okx Tryz.func220
theorem QdZ:CallOk Tryz.prog 221:=okx Tryz.func221
theorem Qdt:CallOk Tryz.prog 222:=okx Tryz.func222
theorem QgJ:CallOk Tryz.prog 223:=okx Tryz.func223
theorem QcL:CallOk Tryz.prog 224:=okx Tryz.func224
theorem QkK:CallOk Tryz.prog 225:=okx Tryz.func225
theorem QlM:CallOk Tryz.prog 226:=okx Tryz.func226
theorem Qmn:CallOk Tryz.prog 227:=okx Tryz.func227
theorem QkI:CallOk Tryz.prog 228:=okx Tryz.func228
theorem QcN:CallOk Tryz.prog 229:=okx Tryz.func229
theorem Qbf:CallOk Tryz.prog 241:=okx Tryz.func241
theorem Qeo:CallOk Tryz.prog 243:=okx Tryz.func243
theorem Qb7:CallOk Tryz.prog 244:=okx Tryz.func244
theorem QhH:CallOk Tryz.prog 245:=okx Tryz.func245
theorem QeN:CallOk Tryz.prog 246:=okx Tryz.func246
theorem Qj8:CallOk Tryz.prog 255:=okx Tryz.func255
theorem Qiv:CallOk Tryz.prog 256:=okx Tryz.func256
theorem Qg4:CallOk Tryz.prog 261:=okx Tryz.func261
theorem QjZ:CallOk Tryz.prog 262:=okx Tryz.func262
theorem Qdm:CallOk Tryz.prog 268:=okx Tryz.func268
theorem Qgd:CallOk Tryz.prog 269:=okx Tryz.func269
theorem QfG:CallOk Tryz.prog 270:=okx Tryz.func270
theorem Qgc:CallOk Tryz.prog 271:=okx Tryz.func271
theorem QfF:CallOk Tryz.prog 272:=okx Tryz.func272
theorem Qe7:CallOk Tryz.prog 273:=okx Tryz.func273
theorem QeE:CallOk Tryz.prog 274:=okx Tryz.func274
theorem Qes:CallOk Tryz.prog 275:=okx Tryz.func275
theorem Qcd:CallOk Tryz.prog 278:=okx Tryz.func278
theorem QcR:ExtOk Tryz.prog 253 Extern.BytealgIndexByte.indexByte:=⟨⟨_,Tryz.func253,by kernel_rfl,by kernel_rfl,by kernel_rfl,by kernel_rfl⟩⟩
abbrev tyB:TypeId:=145
abbrev tyE:TypeId:=5
theorem Qfw (x:Qe):typedK [.str,.int .i64,.int .i64] (Qe.c x):=(And.intro trivial (And.intro rfl (And.intro rfl trivial)))
theorem kOk206:KOk Tryz.prog 206 kp3:=kTrip (by kernel_rfl)
def QbE (C:Ctx) (K:Bool→Heap→Prop) (H:Heap):Prop:=
 Spec Tryz.prog C 3 [] H (fun v H2=>∃ (r0:Bool),v=.bool r0∧K r0 H2)
def QdX (C:Ctx) (p_l:Sl) (K:Qa→Qe→Int→Heap→Prop) (H:Heap):Prop:=
 Spec Tryz.prog C 12 [slv p_l] H (fun v H2=>∃ (r0:Qa) (r1:Qe) (r2:Int),v=.tuple #[.agg (Qa.c r0).toArray,.agg (Qe.c r1).toArray,.int .i64 r2]∧K r0 r1 r2 H2)
def Qic (C:Ctx) (K:Bool→Heap→Prop) (H:Heap):Prop:=
 Spec Tryz.prog C 13 [] H (fun v H2=>∃ (r0:Bool),v=.bool r0∧K r0 H2)
def Qco (C:Ctx) (p_m:Qa) (K:Int→Heap→Prop) (H:Heap):Prop:=
 Spec Tryz.prog C 20 [.agg (Qa.c p_m).toArray] H (fun v H2=>∃ (r0:Int),v=.int .i64 r0∧K r0 H2)
theorem Qco.gh {C:Ctx} {p_m:Qa} {K:Int→Heap→Prop} {H:Heap} (h:Qco C p_m (fun r0 H2=>∃ H0,Gh C H2 H0∧K r0 H0) H):Qco C p_m K H:=ghm h
def QbF (C:Ctx) (E:Value→Heap→Prop) (p_p:Option (Nat×Nat)) (K:Heap→Prop) (H:Heap):Prop:=
 SpecP Tryz.prog C 22 [pv p_p] H (fun v H2=>v=.tuple #[]∧K H2) E
def Qbu (C:Ctx) (E:Value→Heap→Prop) (p_p:Option (Nat×Nat)) (K:Heap→Prop) (H:Heap):Prop:=
 SpecP Tryz.prog C 23 [pv p_p] H (fun v H2=>v=.tuple #[]∧K H2) E
def Qb6 (C:Ctx) (E:Value→Heap→Prop) (p_p:Option (Nat×Nat)) (p_m:Qa) (K:Heap→Prop) (H:Heap):Prop:=
 SpecP Tryz.prog C 24 [pv p_p,.agg (Qa.c p_m).toArray] H (fun v H2=>v=.tuple #[]∧K H2) E
def QbG (C:Ctx) (E:Value→Heap→Prop) (p_p:Option (Nat×Nat)) (K:Heap→Prop) (H:Heap):Prop:=
 SpecP Tryz.prog C 25 [pv p_p] H (fun v H2=>v=.tuple #[]∧K H2) E
def Qcn (C:Ctx) (E:Value→Heap→Prop) (p_p:Option (Nat×Nat)) (p_out:Option (Nat×Nat)) (p_m:Qa) (K:Heap→Prop) (H:Heap):Prop:=
 SpecP Tryz.prog C 26 [pv p_p,pv p_out,.agg (Qa.c p_m).toArray] H (fun v H2=>v=.tuple #[]∧K H2) E
def Qc1 (C:Ctx) (p_m:Qa) (K:Int→Heap→Prop) (H:Heap):Prop:=
 Spec Tryz.prog C 39 [.agg (Qa.c p_m).toArray] H (fun v H2=>∃ (r0:Int),v=.int .i64 r0∧K r0 H2)
theorem Qc1.gh {C:Ctx} {p_m:Qa} {K:Int→Heap→Prop} {H:Heap} (h:Qc1 C p_m (fun r0 H2=>∃ H0,Gh C H2 H0∧K r0 H0) H):Qc1 C p_m K H:=ghm h
def QaE (C:Ctx) (p_s:Str) (K:Bool→Heap→Prop) (H:Heap):Prop:=
 Spec Tryz.prog C 40 [sv p_s] H (fun v H2=>∃ (r0:Bool),v=.bool r0∧K r0 H2)
def Q4 (C:Ctx) (p_l:Sl) (p_is:Value) (K:Bool→Heap→Prop) (H:Heap):Prop:=
 Spec Tryz.prog C 41 [slv p_l,p_is] H (fun v H2=>∃ (r0:Bool),v=.bool r0∧K r0 H2)
theorem Q4.gh {C:Ctx} {p_l:Sl} {p_is:Value} {K:Bool→Heap→Prop} {H:Heap} (h:Q4 C p_l p_is (fun r0 H2=>∃ H0,Gh C H2 H0∧K r0 H0) H):Q4 C p_l p_is K H:=ghm h
def QbW (C:Ctx) (p_x:Qn) (K:Bool→Heap→Prop) (H:Heap):Prop:=
 Spec Tryz.prog C 42 [.agg (Qn.c p_x).toArray] H (fun v H2=>∃ (r0:Bool),v=.bool r0∧K r0 H2)
theorem QbW.gh {C:Ctx} {p_x:Qn} {K:Bool→Heap→Prop} {H:Heap} (h:QbW C p_x (fun r0 H2=>∃ H0,Gh C H2 H0∧K r0 H0) H):QbW C p_x K H:=ghm h
def Q0 (C:Ctx) (p_l:Sl) (p_is:Value) (K:Bool→Heap→Prop) (H:Heap):Prop:=
 Spec Tryz.prog C 43 [slv p_l,p_is] H (fun v H2=>∃ (r0:Bool),v=.bool r0∧K r0 H2)
theorem Q0.gh {C:Ctx} {p_l:Sl} {p_is:Value} {K:Bool→Heap→Prop} {H:Heap} (h:Q0 C p_l p_is (fun r0 H2=>∃ H0,Gh C H2 H0∧K r0 H0) H):Q0 C p_l p_is K H:=ghm h
def Qb3 (C:Ctx) (p_t:Qb) (K:Bool→Heap→Prop) (H:Heap):Prop:=
 Spec Tryz.prog C 44 [.agg (Qb.c p_t).toArray] H (fun v H2=>∃ (r0:Bool),v=.bool r0∧K r0 H2)
theorem Qb3.gh {C:Ctx} {p_t:Qb} {K:Bool→Heap→Prop} {H:Heap} (h:Qb3 C p_t (fun r0 H2=>∃ H0,Gh C H2 H0∧K r0 H0) H):Qb3 C p_t K H:=ghm h
def Q5 (C:Ctx) (p_l:Sl) (p_is:Value) (K:Bool→Heap→Prop) (H:Heap):Prop:=
 Spec Tryz.prog C 45 [slv p_l,p_is] H (fun v H2=>∃ (r0:Bool),v=.bool r0∧K r0 H2)
theorem Q5.gh {C:Ctx} {p_l:Sl} {p_is:Value} {K:Bool→Heap→Prop} {H:Heap} (h:Q5 C p_l p_is (fun r0 H2=>∃ H0,Gh C H2 H0∧K r0 H0) H):Q5 C p_l p_is K H:=ghm h
def QbX (C:Ctx) (p_x:Qg) (K:Bool→Heap→Prop) (H:Heap):Prop:=
 Spec Tryz.prog C 46 [.agg (Qg.c p_x).toArray] H (fun v H2=>∃ (r0:Bool),v=.bool r0∧K r0 H2)
theorem QbX.gh {C:Ctx} {p_x:Qg} {K:Bool→Heap→Prop} {H:Heap} (h:QbX C p_x (fun r0 H2=>∃ H0,Gh C H2 H0∧K r0 H0) H):QbX C p_x K H:=ghm h
def Qbd (C:Ctx) (p_l:Sl) (p_named:Bool) (K:Bool→Heap→Prop) (H:Heap):Prop:=
 Spec Tryz.prog C 47 [slv p_l,.bool p_named] H (fun v H2=>∃ (r0:Bool),v=.bool r0∧K r0 H2)
theorem Qbd.gh {C:Ctx} {p_l:Sl} {p_named:Bool} {K:Bool→Heap→Prop} {H:Heap} (h:Qbd C p_l p_named (fun r0 H2=>∃ H0,Gh C H2 H0∧K r0 H0) H):Qbd C p_l p_named K H:=ghm h
def Q6 (C:Ctx) (p_l:Sl) (p_is:Value) (K:Bool→Heap→Prop) (H:Heap):Prop:=
 Spec Tryz.prog C 48 [slv p_l,p_is] H (fun v H2=>∃ (r0:Bool),v=.bool r0∧K r0 H2)
theorem Q6.gh {C:Ctx} {p_l:Sl} {p_is:Value} {K:Bool→Heap→Prop} {H:Heap} (h:Q6 C p_l p_is (fun r0 H2=>∃ H0,Gh C H2 H0∧K r0 H0) H):Q6 C p_l p_is K H:=ghm h
def QdL (C:Ctx) (p_r:Qi) (K:Bool→Heap→Prop) (H:Heap):Prop:=
 Spec Tryz.prog C 49 [.agg (Qi.c p_r).toArray] H (fun v H2=>∃ (r0:Bool),v=.bool r0∧K r0 H2)
theorem QdL.gh {C:Ctx} {p_r:Qi} {K:Bool→Heap→Prop} {H:Heap} (h:QdL C p_r (fun r0 H2=>∃ H0,Gh C H2 H0∧K r0 H0) H):QdL C p_r K H:=ghm h
def QW (C:Ctx) (p_l:Sl) (p_is:Value) (K:Bool→Heap→Prop) (H:Heap):Prop:=
 Spec Tryz.prog C 50 [slv p_l,p_is] H (fun v H2=>∃ (r0:Bool),v=.bool r0∧K r0 H2)
theorem QW.gh {C:Ctx} {p_l:Sl} {p_is:Value} {K:Bool→Heap→Prop} {H:Heap} (h:QW C p_l p_is (fun r0 H2=>∃ H0,Gh C H2 H0∧K r0 H0) H):QW C p_l p_is K H:=ghm h
def QbY (C:Ctx) (p_x:Ql) (K:Bool→Heap→Prop) (H:Heap):Prop:=
 Spec Tryz.prog C 51 [.agg (Ql.c p_x).toArray] H (fun v H2=>∃ (r0:Bool),v=.bool r0∧K r0 H2)
theorem QbY.gh {C:Ctx} {p_x:Ql} {K:Bool→Heap→Prop} {H:Heap} (h:QbY C p_x (fun r0 H2=>∃ H0,Gh C H2 H0∧K r0 H0) H):QbY C p_x K H:=ghm h
def QC (C:Ctx) (p_l:Sl) (p_is:Value) (K:Bool→Heap→Prop) (H:Heap):Prop:=
 Spec Tryz.prog C 52 [slv p_l,p_is] H (fun v H2=>∃ (r0:Bool),v=.bool r0∧K r0 H2)
theorem QC.gh {C:Ctx} {p_l:Sl} {p_is:Value} {K:Bool→Heap→Prop} {H:Heap} (h:QC C p_l p_is (fun r0 H2=>∃ H0,Gh C H2 H0∧K r0 H0) H):QC C p_l p_is K H:=ghm h
def Qb1 (C:Ctx) (p_x:Qk) (K:Bool→Heap→Prop) (H:Heap):Prop:=
 Spec Tryz.prog C 53 [.agg (Qk.c p_x).toArray] H (fun v H2=>∃ (r0:Bool),v=.bool r0∧K r0 H2)
theorem Qb1.gh {C:Ctx} {p_x:Qk} {K:Bool→Heap→Prop} {H:Heap} (h:Qb1 C p_x (fun r0 H2=>∃ H0,Gh C H2 H0∧K r0 H0) H):Qb1 C p_x K H:=ghm h
def QbZ (C:Ctx) (p_x:Qi) (K:Bool→Heap→Prop) (H:Heap):Prop:=
 Spec Tryz.prog C 54 [.agg (Qi.c p_x).toArray] H (fun v H2=>∃ (r0:Bool),v=.bool r0∧K r0 H2)
theorem QbZ.gh {C:Ctx} {p_x:Qi} {K:Bool→Heap→Prop} {H:Heap} (h:QbZ C p_x (fun r0 H2=>∃ H0,Gh C H2 H0∧K r0 H0) H):QbZ C p_x K H:=ghm h
def Qb0 (C:Ctx) (p_x:Ql) (K:Bool→Heap→Prop) (H:Heap):Prop:=
 Spec Tryz.prog C 55 [.agg (Ql.c p_x).toArray] H (fun v H2=>∃ (r0:Bool),v=.bool r0∧K r0 H2)
theorem Qb0.gh {C:Ctx} {p_x:Ql} {K:Bool→Heap→Prop} {H:Heap} (h:Qb0 C p_x (fun r0 H2=>∃ H0,Gh C H2 H0∧K r0 H0) H):Qb0 C p_x K H:=ghm h
def QA (C:Ctx) (E:Value→Heap→Prop) (p_m:Qa) (p_pos:Qj) (p_e:Int) (K:Heap→Prop) (H:Heap):Prop:=
 SpecP Tryz.prog C 56 [.agg (Qa.c p_m).toArray,.agg (Qj.c p_pos).toArray,.int .i64 p_e] H (fun v H2=>v=.tuple #[]∧K H2) E
def Qai (C:Ctx) (p_p:Option (Nat×Nat)) (p_name:Str) (K:Int→Heap→Prop) (H:Heap):Prop:=
 Spec Tryz.prog C 57 [pv p_p,sv p_name] H (fun v H2=>∃ (r0:Int),v=.int .i64 r0∧K r0 H2)
def Qp (C:Ctx) (p_s:Sl) (p_f:Value) (K:Bool→Heap→Prop) (H:Heap):Prop:=
 Spec Tryz.prog C 58 [slv p_s,p_f] H (fun v H2=>∃ (r0:Bool),v=.bool r0∧K r0 H2)
def QeB (C:Ctx) (p_y:Qn) (v0:Nat×Nat) (K:Bool→Heap→Prop) (H:Heap):Prop:=
 Spec Tryz.prog C 59 [.agg (Qn.c p_y).toArray,pv (some v0)] H (fun v H2=>∃ (r0:Bool),v=.bool r0∧K r0 H2)
def Qaj (C:Ctx) (p_p:Option (Nat×Nat)) (p_from:Int) (p_to:Int) (p_seen:Option Nat) (K:Bool→Heap→Prop) (H:Heap):Prop:=
 Spec Tryz.prog C 60 [pv p_p,.int .i64 p_from,.int .i64 p_to,mv p_seen] H (fun v H2=>∃ (r0:Bool),v=.bool r0∧K r0 H2)
def Qak (C:Ctx) (p_p:Option (Nat×Nat)) (p_m:Qa) (p_own:Str) (p_kind:Int) (p_pub:Bool) (K:Bool→Heap→Prop) (H:Heap):Prop:=
 Spec Tryz.prog C 61 [pv p_p,.agg (Qa.c p_m).toArray,sv p_own,.int .i64 p_kind,.bool p_pub] H (fun v H2=>∃ (r0:Bool),v=.bool r0∧K r0 H2)
def Qr (C:Ctx) (p_s:Sl) (p_v:Str) (K:Bool→Heap→Prop) (H:Heap):Prop:=
 Spec Tryz.prog C 62 [slv p_s,sv p_v] H (fun v H2=>∃ (r0:Bool),v=.bool r0∧K r0 H2)
theorem Qr.gh {C:Ctx} {p_s:Sl} {p_v:Str} {K:Bool→Heap→Prop} {H:Heap} (h:Qr C p_s p_v (fun r0 H2=>∃ H0,Gh C H2 H0∧K r0 H0) H):Qr C p_s p_v K H:=ghm h
def Qx (C:Ctx) (p_s:Sl) (p_f:Value) (K:Bool→Heap→Prop) (H:Heap):Prop:=
 Spec Tryz.prog C 63 [slv p_s,p_f] H (fun v H2=>∃ (r0:Bool),v=.bool r0∧K r0 H2)
def Qfs (C:Ctx) (p_c:Qc) (v0:Nat×Nat) (K:Bool→Heap→Prop) (H:Heap):Prop:=
 Spec Tryz.prog C 64 [.agg (Qc.c p_c).toArray,pv (some v0)] H (fun v H2=>∃ (r0:Bool),v=.bool r0∧K r0 H2)
def Qee (C:Ctx) (p_l:Sl) (p_params:Sl) (K:Bool→Heap→Prop) (H:Heap):Prop:=
 Spec Tryz.prog C 65 [slv p_l,slv p_params] H (fun v H2=>∃ (r0:Bool),v=.bool r0∧K r0 H2)
def QJ (C:Ctx) (p_s:Sl) (K:Sl→Heap→Prop) (H:Heap):Prop:=
 Spec Tryz.prog C 66 [slv p_s] H (fun v H2=>∃ (r0:Sl),v=slv r0∧K r0 H2)
def QO (C:Ctx) (E:Value→Heap→Prop) (p_p:Option (Nat×Nat)) (p_m:Qa) (p_l:Sl) (p_pos:Qj) (K:Sl→Heap→Prop) (H:Heap):Prop:=
 SpecP Tryz.prog C 67 [pv p_p,.agg (Qa.c p_m).toArray,slv p_l,.agg (Qj.c p_pos).toArray] H (fun v H2=>∃ (r0:Sl),v=slv r0∧K r0 H2) E
def Q3 (C:Ctx) (E:Value→Heap→Prop) (p_p:Option (Nat×Nat)) (p_m:Qa) (p_s:Str) (p_kind:Int) (p_pos:Qj) (K:Str→Heap→Prop) (H:Heap):Prop:=
 SpecP Tryz.prog C 68 [pv p_p,.agg (Qa.c p_m).toArray,sv p_s,.int .i64 p_kind,.agg (Qj.c p_pos).toArray] H (fun v H2=>∃ (r0:Str),v=sv r0∧K r0 H2) E
def QbH (C:Ctx) (p_s:Str) (p_prefix:Str) (K:Bool→Heap→Prop) (H:Heap):Prop:=
 Spec Tryz.prog C 69 [sv p_s,sv p_prefix] H (fun v H2=>∃ (r0:Bool),v=.bool r0∧K r0 H2)
def Qab (C:Ctx) (E:Value→Heap→Prop) (p_p:Option (Nat×Nat)) (p_m:Qa) (p_l:Sl) (K:Sl→Heap→Prop) (H:Heap):Prop:=
 SpecP Tryz.prog C 70 [pv p_p,.agg (Qa.c p_m).toArray,slv p_l] H (fun v H2=>∃ (r0:Sl),v=slv r0∧K r0 H2) E
def Qah (C:Ctx) (E:Value→Heap→Prop) (p_p:Option (Nat×Nat)) (p_m:Qa) (p_l:Sl) (K:Sl→Heap→Prop) (H:Heap):Prop:=
 SpecP Tryz.prog C 71 [pv p_p,.agg (Qa.c p_m).toArray,slv p_l] H (fun v H2=>∃ (r0:Sl),v=slv r0∧K r0 H2) E
def QF (C:Ctx) (p_l:Sl) (p_depth:Value) (K:Int→Heap→Prop) (H:Heap):Prop:=
 Spec Tryz.prog C 104 [slv p_l,p_depth] H (fun v H2=>∃ (r0:Int),v=.int .i64 r0∧K r0 H2)
theorem QF.gh {C:Ctx} {p_l:Sl} {p_depth:Value} {K:Int→Heap→Prop} {H:Heap} (h:QF C p_l p_depth (fun r0 H2=>∃ H0,Gh C H2 H0∧K r0 H0) H):QF C p_l p_depth K H:=ghm h
def QcB (C:Ctx) (p_t:Qb) (K:Int→Heap→Prop) (H:Heap):Prop:=
 Spec Tryz.prog C 105 [.agg (Qb.c p_t).toArray] H (fun v H2=>∃ (r0:Int),v=.int .i64 r0∧K r0 H2)
theorem QcB.gh {C:Ctx} {p_t:Qb} {K:Int→Heap→Prop} {H:Heap} (h:QcB C p_t (fun r0 H2=>∃ H0,Gh C H2 H0∧K r0 H0) H):QcB C p_t K H:=ghm h
def QE (C:Ctx) (p_l:Sl) (p_depth:Value) (K:Int→Heap→Prop) (H:Heap):Prop:=
 Spec Tryz.prog C 106 [slv p_l,p_depth] H (fun v H2=>∃ (r0:Int),v=.int .i64 r0∧K r0 H2)
theorem QE.gh {C:Ctx} {p_l:Sl} {p_depth:Value} {K:Int→Heap→Prop} {H:Heap} (h:QE C p_l p_depth (fun r0 H2=>∃ H0,Gh C H2 H0∧K r0 H0) H):QE C p_l p_depth K H:=ghm h
def Qbw (C:Ctx) (p_c:Qc) (K:Int→Heap→Prop) (H:Heap):Prop:=
 Spec Tryz.prog C 107 [.agg (Qc.c p_c).toArray] H (fun v H2=>∃ (r0:Int),v=.int .i64 r0∧K r0 H2)
theorem Qbw.gh {C:Ctx} {p_c:Qc} {K:Int→Heap→Prop} {H:Heap} (h:Qbw C p_c (fun r0 H2=>∃ H0,Gh C H2 H0∧K r0 H0) H):Qbw C p_c K H:=ghm h
def Qt (C:Ctx) (p_l:Sl) (p_depth:Value) (K:Int→Heap→Prop) (H:Heap):Prop:=
 Spec Tryz.prog C 108 [slv p_l,p_depth] H (fun v H2=>∃ (r0:Int),v=.int .i64 r0∧K r0 H2)
theorem Qt.gh {C:Ctx} {p_l:Sl} {p_depth:Value} {K:Int→Heap→Prop} {H:Heap} (h:Qt C p_l p_depth (fun r0 H2=>∃ H0,Gh C H2 H0∧K r0 H0) H):Qt C p_l p_depth K H:=ghm h
def Qa3 (C:Ctx) (p_f:Qf) (K:Int→Heap→Prop) (H:Heap):Prop:=
 Spec Tryz.prog C 109 [.agg (Qf.c p_f).toArray] H (fun v H2=>∃ (r0:Int),v=.int .i64 r0∧K r0 H2)
theorem Qa3.gh {C:Ctx} {p_f:Qf} {K:Int→Heap→Prop} {H:Heap} (h:Qa3 C p_f (fun r0 H2=>∃ H0,Gh C H2 H0∧K r0 H0) H):Qa3 C p_f K H:=ghm h
def QI (C:Ctx) (p_l:Sl) (p_depth:Value) (K:Int→Heap→Prop) (H:Heap):Prop:=
 Spec Tryz.prog C 110 [slv p_l,p_depth] H (fun v H2=>∃ (r0:Int),v=.int .i64 r0∧K r0 H2)
theorem QI.gh {C:Ctx} {p_l:Sl} {p_depth:Value} {K:Int→Heap→Prop} {H:Heap} (h:QI C p_l p_depth (fun r0 H2=>∃ H0,Gh C H2 H0∧K r0 H0) H):QI C p_l p_depth K H:=ghm h
def QcC (C:Ctx) (p_x:Qg) (K:Int→Heap→Prop) (H:Heap):Prop:=
 Spec Tryz.prog C 111 [.agg (Qg.c p_x).toArray] H (fun v H2=>∃ (r0:Int),v=.int .i64 r0∧K r0 H2)
theorem QcC.gh {C:Ctx} {p_x:Qg} {K:Int→Heap→Prop} {H:Heap} (h:QcC C p_x (fun r0 H2=>∃ H0,Gh C H2 H0∧K r0 H0) H):QcC C p_x K H:=ghm h
def QR (C:Ctx) (p_l:Sl) (p_depth:Value) (K:Int→Heap→Prop) (H:Heap):Prop:=
 Spec Tryz.prog C 112 [slv p_l,p_depth] H (fun v H2=>∃ (r0:Int),v=.int .i64 r0∧K r0 H2)
theorem QR.gh {C:Ctx} {p_l:Sl} {p_depth:Value} {K:Int→Heap→Prop} {H:Heap} (h:QR C p_l p_depth (fun r0 H2=>∃ H0,Gh C H2 H0∧K r0 H0) H):QR C p_l p_depth K H:=ghm h
def QcD (C:Ctx) (p_x:Qi) (K:Int→Heap→Prop) (H:Heap):Prop:=
 Spec Tryz.prog C 113 [.agg (Qi.c p_x).toArray] H (fun v H2=>∃ (r0:Int),v=.int .i64 r0∧K r0 H2)
theorem QcD.gh {C:Ctx} {p_x:Qi} {K:Int→Heap→Prop} {H:Heap} (h:QcD C p_x (fun r0 H2=>∃ H0,Gh C H2 H0∧K r0 H0) H):QcD C p_x K H:=ghm h
def Qw (C:Ctx) (p_l:Sl) (p_depth:Value) (K:Int→Heap→Prop) (H:Heap):Prop:=
 Spec Tryz.prog C 114 [slv p_l,p_depth] H (fun v H2=>∃ (r0:Int),v=.int .i64 r0∧K r0 H2)
theorem Qw.gh {C:Ctx} {p_l:Sl} {p_depth:Value} {K:Int→Heap→Prop} {H:Heap} (h:Qw C p_l p_depth (fun r0 H2=>∃ H0,Gh C H2 H0∧K r0 H0) H):Qw C p_l p_depth K H:=ghm h
def Qc3 (C:Ctx) (p_e:Qh) (K:Int→Heap→Prop) (H:Heap):Prop:=
 Spec Tryz.prog C 115 [.agg (Qh.c p_e).toArray] H (fun v H2=>∃ (r0:Int),v=.int .i64 r0∧K r0 H2)
theorem Qc3.gh {C:Ctx} {p_e:Qh} {K:Int→Heap→Prop} {H:Heap} (h:Qc3 C p_e (fun r0 H2=>∃ H0,Gh C H2 H0∧K r0 H0) H):Qc3 C p_e K H:=ghm h
def Qu (C:Ctx) (p_l:Sl) (p_depth:Value) (K:Int→Heap→Prop) (H:Heap):Prop:=
 Spec Tryz.prog C 116 [slv p_l,p_depth] H (fun v H2=>∃ (r0:Int),v=.int .i64 r0∧K r0 H2)
theorem Qu.gh {C:Ctx} {p_l:Sl} {p_depth:Value} {K:Int→Heap→Prop} {H:Heap} (h:Qu C p_l p_depth (fun r0 H2=>∃ H0,Gh C H2 H0∧K r0 H0) H):Qu C p_l p_depth K H:=ghm h
def QaD (C:Ctx) (p_x:Qk) (K:Int→Heap→Prop) (H:Heap):Prop:=
 Spec Tryz.prog C 117 [.agg (Qk.c p_x).toArray] H (fun v H2=>∃ (r0:Int),v=.int .i64 r0∧K r0 H2)
theorem QaD.gh {C:Ctx} {p_x:Qk} {K:Int→Heap→Prop} {H:Heap} (h:QaD C p_x (fun r0 H2=>∃ H0,Gh C H2 H0∧K r0 H0) H):QaD C p_x K H:=ghm h
def QL (C:Ctx) (p_l:Sl) (p_depth:Value) (K:Int→Heap→Prop) (H:Heap):Prop:=
 Spec Tryz.prog C 118 [slv p_l,p_depth] H (fun v H2=>∃ (r0:Int),v=.int .i64 r0∧K r0 H2)
theorem QL.gh {C:Ctx} {p_l:Sl} {p_depth:Value} {K:Int→Heap→Prop} {H:Heap} (h:QL C p_l p_depth (fun r0 H2=>∃ H0,Gh C H2 H0∧K r0 H0) H):QL C p_l p_depth K H:=ghm h
def QcE (C:Ctx) (p_x:Ql) (K:Int→Heap→Prop) (H:Heap):Prop:=
 Spec Tryz.prog C 119 [.agg (Ql.c p_x).toArray] H (fun v H2=>∃ (r0:Int),v=.int .i64 r0∧K r0 H2)
theorem QcE.gh {C:Ctx} {p_x:Ql} {K:Int→Heap→Prop} {H:Heap} (h:QcE C p_x (fun r0 H2=>∃ H0,Gh C H2 H0∧K r0 H0) H):QcE C p_x K H:=ghm h
def Qf9 (C:Ctx) (p_s:Str) (K:Bool→Heap→Prop) (H:Heap):Prop:=
 Spec Tryz.prog C 120 [sv p_s] H (fun v H2=>∃ (r0:Bool),v=.bool r0∧K r0 H2)
def QeK (C:Ctx) (p_s:Str) (p_substr:Str) (K:Bool→Heap→Prop) (H:Heap):Prop:=
 Spec Tryz.prog C 121 [sv p_s,sv p_substr] H (fun v H2=>∃ (r0:Bool),v=.bool r0∧K r0 H2)
def Qf7 (C:Ctx) (p_x:Qn) (v0:Nat×Nat) (K:Bool→Heap→Prop) (H:Heap):Prop:=
 Spec Tryz.prog C 122 [.agg (Qn.c p_x).toArray,pv (some v0)] H (fun v H2=>∃ (r0:Bool),v=.bool r0∧K r0 H2)
def Qam (C:Ctx) (p_s:Sl) (p_f:Value) (K:Bool→Heap→Prop) (H:Heap):Prop:=
 Spec Tryz.prog C 123 [slv p_s,p_f] H (fun v H2=>∃ (r0:Bool),v=.bool r0∧K r0 H2)
def Qfv (C:Ctx) (p_x:Qb) (v0:Nat×Nat) (K:Bool→Heap→Prop) (H:Heap):Prop:=
 Spec Tryz.prog C 124 [.agg (Qb.c p_x).toArray,pv (some v0)] H (fun v H2=>∃ (r0:Bool),v=.bool r0∧K r0 H2)
def Qan (C:Ctx) (p_l:Sl) (p_is:Value) (K:Bool→Heap→Prop) (H:Heap):Prop:=
 Spec Tryz.prog C 125 [slv p_l,p_is] H (fun v H2=>∃ (r0:Bool),v=.bool r0∧K r0 H2)
theorem Qan.gh {C:Ctx} {p_l:Sl} {p_is:Value} {K:Bool→Heap→Prop} {H:Heap} (h:Qan C p_l p_is (fun r0 H2=>∃ H0,Gh C H2 H0∧K r0 H0) H):Qan C p_l p_is K H:=ghm h
def QgV (C:Ctx) (p_s:Str) (K:Bool→Heap→Prop) (H:Heap):Prop:=
 Spec Tryz.prog C 126 [sv p_s] H (fun v H2=>∃ (r0:Bool),v=.bool r0∧K r0 H2)
def QZ (C:Ctx) (p_l:Sl) (p_is:Value) (K:Bool→Heap→Prop) (H:Heap):Prop:=
 Spec Tryz.prog C 127 [slv p_l,p_is] H (fun v H2=>∃ (r0:Bool),v=.bool r0∧K r0 H2)
theorem QZ.gh {C:Ctx} {p_l:Sl} {p_is:Value} {K:Bool→Heap→Prop} {H:Heap} (h:QZ C p_l p_is (fun r0 H2=>∃ H0,Gh C H2 H0∧K r0 H0) H):QZ C p_l p_is K H:=ghm h
def Qba (C:Ctx) (p_c:Qc) (K:Bool→Heap→Prop) (H:Heap):Prop:=
 Spec Tryz.prog C 128 [.agg (Qc.c p_c).toArray] H (fun v H2=>∃ (r0:Bool),v=.bool r0∧K r0 H2)
theorem Qba.gh {C:Ctx} {p_c:Qc} {K:Bool→Heap→Prop} {H:Heap} (h:Qba C p_c (fun r0 H2=>∃ H0,Gh C H2 H0∧K r0 H0) H):Qba C p_c K H:=ghm h
def Qar (C:Ctx) (p_s:Sl) (p_f:Value) (K:Bool→Heap→Prop) (H:Heap):Prop:=
 Spec Tryz.prog C 129 [slv p_s,p_f] H (fun v H2=>∃ (r0:Bool),v=.bool r0∧K r0 H2)
def Qf8 (C:Ctx) (p_x:Qg) (v0:Nat×Nat) (K:Bool→Heap→Prop) (H:Heap):Prop:=
 Spec Tryz.prog C 130 [.agg (Qg.c p_x).toArray,pv (some v0)] H (fun v H2=>∃ (r0:Bool),v=.bool r0∧K r0 H2)
def QP (C:Ctx) (p_l:Sl) (p_is:Value) (K:Bool→Heap→Prop) (H:Heap):Prop:=
 Spec Tryz.prog C 131 [slv p_l,p_is] H (fun v H2=>∃ (r0:Bool),v=.bool r0∧K r0 H2)
theorem QP.gh {C:Ctx} {p_l:Sl} {p_is:Value} {K:Bool→Heap→Prop} {H:Heap} (h:QP C p_l p_is (fun r0 H2=>∃ H0,Gh C H2 H0∧K r0 H0) H):QP C p_l p_is K H:=ghm h
def Qbx (C:Ctx) (p_f:Qf) (v0:Nat×Nat) (K:Bool→Heap→Prop) (H:Heap):Prop:=
 Spec Tryz.prog C 132 [.agg (Qf.c p_f).toArray,pv (some v0)] H (fun v H2=>∃ (r0:Bool),v=.bool r0∧K r0 H2)
theorem Qbx.gh {C:Ctx} {p_f:Qf} {v0:Nat×Nat} {K:Bool→Heap→Prop} {H:Heap} (h:Qbx C p_f v0 (fun r0 H2=>∃ H0,Gh C H2 H0∧K r0 H0) H):Qbx C p_f v0 K H:=ghm h
def Qcp (C:Ctx) (p_t:Qd) (K:Bool→Heap→Prop) (H:Heap):Prop:=
 Spec Tryz.prog C 133 [.agg (Qd.c p_t).toArray] H (fun v H2=>∃ (r0:Bool),v=.bool r0∧K r0 H2)
theorem Qcp.gh {C:Ctx} {p_t:Qd} {K:Bool→Heap→Prop} {H:Heap} (h:Qcp C p_t (fun r0 H2=>∃ H0,Gh C H2 H0∧K r0 H0) H):Qcp C p_t K H:=ghm h
def QaP (C:Ctx) (p_s:Sl) (p_f:Value) (K:Bool→Heap→Prop) (H:Heap):Prop:=
 Spec Tryz.prog C 134 [slv p_s,p_f] H (fun v H2=>∃ (r0:Bool),v=.bool r0∧K r0 H2)
def QgS (C:Ctx) (p_x:Qi) (v0:Nat×Nat) (K:Bool→Heap→Prop) (H:Heap):Prop:=
 Spec Tryz.prog C 135 [.agg (Qi.c p_x).toArray,pv (some v0)] H (fun v H2=>∃ (r0:Bool),v=.bool r0∧K r0 H2)
def QdK (C:Ctx) (p_s:Str) (K:Bool→Heap→Prop) (H:Heap):Prop:=
 Spec Tryz.prog C 136 [sv p_s] H (fun v H2=>∃ (r0:Bool),v=.bool r0∧K r0 H2)
def QB (C:Ctx) (p_l:Sl) (p_is:Value) (K:Bool→Heap→Prop) (H:Heap):Prop:=
 Spec Tryz.prog C 137 [slv p_l,p_is] H (fun v H2=>∃ (r0:Bool),v=.bool r0∧K r0 H2)
theorem QB.gh {C:Ctx} {p_l:Sl} {p_is:Value} {K:Bool→Heap→Prop} {H:Heap} (h:QB C p_l p_is (fun r0 H2=>∃ H0,Gh C H2 H0∧K r0 H0) H):QB C p_l p_is K H:=ghm h
def QbJ (C:Ctx) (p_e:Qh) (K:Bool→Heap→Prop) (H:Heap):Prop:=
 Spec Tryz.prog C 138 [.agg (Qh.c p_e).toArray] H (fun v H2=>∃ (r0:Bool),v=.bool r0∧K r0 H2)
theorem QbJ.gh {C:Ctx} {p_e:Qh} {K:Bool→Heap→Prop} {H:Heap} (h:QbJ C p_e (fun r0 H2=>∃ H0,Gh C H2 H0∧K r0 H0) H):QbJ C p_e K H:=ghm h
def Qid (C:Ctx) (p_s:Str) (K:Bool→Heap→Prop) (H:Heap):Prop:=
 Spec Tryz.prog C 139 [sv p_s] H (fun v H2=>∃ (r0:Bool),v=.bool r0∧K r0 H2)
def QaA (C:Ctx) (p_s:Sl) (p_f:Value) (K:Bool→Heap→Prop) (H:Heap):Prop:=
 Spec Tryz.prog C 140 [slv p_s,p_f] H (fun v H2=>∃ (r0:Bool),v=.bool r0∧K r0 H2)
def QgD (C:Ctx) (p_x:Ql) (v0:Nat×Nat) (K:Bool→Heap→Prop) (H:Heap):Prop:=
 Spec Tryz.prog C 141 [.agg (Ql.c p_x).toArray,pv (some v0)] H (fun v H2=>∃ (r0:Bool),v=.bool r0∧K r0 H2)
def Qal (C:Ctx) (p_s:Sl) (p_f:Value) (K:Bool→Heap→Prop) (H:Heap):Prop:=
 Spec Tryz.prog C 142 [slv p_s,p_f] H (fun v H2=>∃ (r0:Bool),v=.bool r0∧K r0 H2)
def Qfu (C:Ctx) (p_x:Qk) (v0:Nat×Nat) (K:Bool→Heap→Prop) (H:Heap):Prop:=
 Spec Tryz.prog C 143 [.agg (Qk.c p_x).toArray,pv (some v0)] H (fun v H2=>∃ (r0:Bool),v=.bool r0∧K r0 H2)
def Qb2 (C:Ctx) (p_e:Qh) (K:Bool→Heap→Prop) (H:Heap):Prop:=
 Spec Tryz.prog C 144 [.agg (Qh.c p_e).toArray] H (fun v H2=>∃ (r0:Bool),v=.bool r0∧K r0 H2)
theorem Qb2.gh {C:Ctx} {p_e:Qh} {K:Bool→Heap→Prop} {H:Heap} (h:Qb2 C p_e (fun r0 H2=>∃ H0,Gh C H2 H0∧K r0 H0) H):Qb2 C p_e K H:=ghm h
def Qdr (C:Ctx) (p_s:Str) (K:Bool→Heap→Prop) (H:Heap):Prop:=
 Spec Tryz.prog C 145 [sv p_s] H (fun v H2=>∃ (r0:Bool),v=.bool r0∧K r0 H2)
def QaI (C:Ctx) (p_s:Sl) (p_f:Value) (K:Int→Heap→Prop) (H:Heap):Prop:=
 Spec Tryz.prog C 146 [slv p_s,p_f] H (fun v H2=>∃ (r0:Int),v=.int .i64 r0∧K r0 H2)
def Qf4 (C:Ctx) (p_m:Qa) (v0:Nat×Nat) (K:Bool→Heap→Prop) (H:Heap):Prop:=
 Spec Tryz.prog C 147 [.agg (Qa.c p_m).toArray,pv (some v0)] H (fun v H2=>∃ (r0:Bool),v=.bool r0∧K r0 H2)
def QaH (C:Ctx) (p_s:Sl) (p_f:Value) (K:Int→Heap→Prop) (H:Heap):Prop:=
 Spec Tryz.prog C 148 [slv p_s,p_f] H (fun v H2=>∃ (r0:Int),v=.int .i64 r0∧K r0 H2)
def QeC (C:Ctx) (p_x:Qn) (v0:Nat×Nat) (v1:Nat×Nat) (v2:Nat×Nat) (K:Bool→Heap→Prop) (H:Heap):Prop:=
 Spec Tryz.prog C 149 [.agg (Qn.c p_x).toArray,pv (some v0),pv (some v1),pv (some v2)] H (fun v H2=>∃ (r0:Bool),v=.bool r0∧K r0 H2)
def Qcc (C:Ctx) (p_s:Sl) (p_v:Str) (K:Int→Heap→Prop) (H:Heap):Prop:=
 Spec Tryz.prog C 150 [slv p_s,sv p_v] H (fun v H2=>∃ (r0:Int),v=.int .i64 r0∧K r0 H2)
def Qav (C:Ctx) (p_s:Sl) (p_f:Value) (K:Int→Heap→Prop) (H:Heap):Prop:=
 Spec Tryz.prog C 151 [slv p_s,p_f] H (fun v H2=>∃ (r0:Int),v=.int .i64 r0∧K r0 H2)
def Qv (C:Ctx) (p_s:Sl) (p_f:Value) (K:Bool→Heap→Prop) (H:Heap):Prop:=
 Spec Tryz.prog C 152 [slv p_s,p_f] H (fun v H2=>∃ (r0:Bool),v=.bool r0∧K r0 H2)
def QjA (C:Ctx) (p_f:Qf) (v0:Nat×Nat) (K:Bool→Heap→Prop) (H:Heap):Prop:=
 Spec Tryz.prog C 153 [.agg (Qf.c p_f).toArray,pv (some v0)] H (fun v H2=>∃ (r0:Bool),v=.bool r0∧K r0 H2)
def Qed (C:Ctx) (p_t:Qd) (p_params:Sl) (K:Bool→Heap→Prop) (H:Heap):Prop:=
 Spec Tryz.prog C 154 [.agg (Qd.c p_t).toArray,slv p_params] H (fun v H2=>∃ (r0:Bool),v=.bool r0∧K r0 H2)
def Qbt (C:Ctx) (E:Value→Heap→Prop) (p_p:Option (Nat×Nat)) (p_m:Qa) (p_t:Qd) (p_pos:Qj) (K:Qd→Heap→Prop) (H:Heap):Prop:=
 SpecP Tryz.prog C 155 [pv p_p,.agg (Qa.c p_m).toArray,.agg (Qd.c p_t).toArray,.agg (Qj.c p_pos).toArray] H (fun v H2=>∃ (r0:Qd),v=.agg (Qd.c r0).toArray∧K r0 H2) E
def Qdq (C:Ctx) (p_s:Str) (p_sep:Str) (K:Str→Str→Bool→Heap→Prop) (H:Heap):Prop:=
 Spec Tryz.prog C 156 [sv p_s,sv p_sep] H (fun v H2=>∃ (r0:Str) (r1:Str) (r2:Bool),v=.tuple #[sv r0,sv r1,.bool r2]∧K r0 r1 r2 H2)
def Qf5 (C:Ctx) (p_x:Qn) (v0:Nat×Nat) (K:Bool→Heap→Prop) (H:Heap):Prop:=
 Spec Tryz.prog C 157 [.agg (Qn.c p_x).toArray,pv (some v0)] H (fun v H2=>∃ (r0:Bool),v=.bool r0∧K r0 H2)
def Q2 (C:Ctx) (p_s:Str) (p_prefix:Str) (K:Bool→Heap→Prop) (H:Heap):Prop:=
 Spec Tryz.prog C 158 [sv p_s,sv p_prefix] H (fun v H2=>∃ (r0:Bool),v=.bool r0∧K r0 H2)
def QaT (C:Ctx) (p_t:Qd) (K:Int→Heap→Prop) (H:Heap):Prop:=
 Spec Tryz.prog C 186 [.agg (Qd.c p_t).toArray] H (fun v H2=>∃ (r0:Int),v=.int .i64 r0∧K r0 H2)
theorem QaT.gh {C:Ctx} {p_t:Qd} {K:Int→Heap→Prop} {H:Heap} (h:QaT C p_t (fun r0 H2=>∃ H0,Gh C H2 H0∧K r0 H0) H):QaT C p_t K H:=ghm h
def Qax (C:Ctx) (p_s:Sl) (p_f:Value) (K:Int→Heap→Prop) (H:Heap):Prop:=
 Spec Tryz.prog C 188 [slv p_s,p_f] H (fun v H2=>∃ (r0:Int),v=.int .i64 r0∧K r0 H2)
def Qa4 (C:Ctx) (p_s:Sl) (p_f:Value) (K:Bool→Heap→Prop) (H:Heap):Prop:=
 Spec Tryz.prog C 189 [slv p_s,p_f] H (fun v H2=>∃ (r0:Bool),v=.bool r0∧K r0 H2)
def Qel (C:Ctx) (p_x:Str) (v0:Nat×Nat) (K:Bool→Heap→Prop) (H:Heap):Prop:=
 Spec Tryz.prog C 190 [sv p_x,pv (some v0)] H (fun v H2=>∃ (r0:Bool),v=.bool r0∧K r0 H2)
def Qft (C:Ctx) (p_x:Qc) (v0:Nat×Nat) (K:Bool→Heap→Prop) (H:Heap):Prop:=
 Spec Tryz.prog C 191 [.agg (Qc.c p_x).toArray,pv (some v0)] H (fun v H2=>∃ (r0:Bool),v=.bool r0∧K r0 H2)
def QaJ (C:Ctx) (p_s:Sl) (p_f:Value) (K:Int→Heap→Prop) (H:Heap):Prop:=
 Spec Tryz.prog C 192 [slv p_s,p_f] H (fun v H2=>∃ (r0:Int),v=.int .i64 r0∧K r0 H2)
def Qe2 (C:Ctx) (p_x:Qf) (v0:Nat×Nat) (K:Bool→Heap→Prop) (H:Heap):Prop:=
 Spec Tryz.prog C 193 [.agg (Qf.c p_x).toArray,pv (some v0)] H (fun v H2=>∃ (r0:Bool),v=.bool r0∧K r0 H2)
def QQ (C:Ctx) (p_l:Sl) (p_is:Value) (K:Bool→Heap→Prop) (H:Heap):Prop:=
 Spec Tryz.prog C 194 [slv p_l,p_is] H (fun v H2=>∃ (r0:Bool),v=.bool r0∧K r0 H2)
theorem QQ.gh {C:Ctx} {p_l:Sl} {p_is:Value} {K:Bool→Heap→Prop} {H:Heap} (h:QQ C p_l p_is (fun r0 H2=>∃ H0,Gh C H2 H0∧K r0 H0) H):QQ C p_l p_is K H:=ghm h
def Qa0 (C:Ctx) (p_s:Sl) (p_f:Value) (K:Int→Heap→Prop) (H:Heap):Prop:=
 Spec Tryz.prog C 195 [slv p_s,p_f] H (fun v H2=>∃ (r0:Int),v=.int .i64 r0∧K r0 H2)
def QaO (C:Ctx) (p_s:Sl) (p_f:Value) (K:Bool→Heap→Prop) (H:Heap):Prop:=
 Spec Tryz.prog C 196 [slv p_s,p_f] H (fun v H2=>∃ (r0:Bool),v=.bool r0∧K r0 H2)
def QgR (C:Ctx) (p_x:Qh) (v0:Nat×Nat) (K:Bool→Heap→Prop) (H:Heap):Prop:=
 Spec Tryz.prog C 197 [.agg (Qh.c p_x).toArray,pv (some v0)] H (fun v H2=>∃ (r0:Bool),v=.bool r0∧K r0 H2)
def QbK (C:Ctx) (p_e:Qh) (p_pattern:Bool) (K:Bool→Heap→Prop) (H:Heap):Prop:=
 Spec Tryz.prog C 198 [.agg (Qh.c p_e).toArray,.bool p_pattern] H (fun v H2=>∃ (r0:Bool),v=.bool r0∧K r0 H2)
theorem QbK.gh {C:Ctx} {p_e:Qh} {p_pattern:Bool} {K:Bool→Heap→Prop} {H:Heap} (h:QbK C p_e p_pattern (fun r0 H2=>∃ H0,Gh C H2 H0∧K r0 H0) H):QbK C p_e p_pattern K H:=ghm h
def QaS (C:Ctx) (p_s:Sl) (p_f:Value) (K:Int→Heap→Prop) (H:Heap):Prop:=
 Spec Tryz.prog C 199 [slv p_s,p_f] H (fun v H2=>∃ (r0:Int),v=.int .i64 r0∧K r0 H2)
def Qaw (C:Ctx) (p_s:Sl) (p_f:Value) (K:Int→Heap→Prop) (H:Heap):Prop:=
 Spec Tryz.prog C 200 [slv p_s,p_f] H (fun v H2=>∃ (r0:Int),v=.int .i64 r0∧K r0 H2)
def Qao (C:Ctx) (p_s:Sl) (p_f:Value) (K:Int→Heap→Prop) (H:Heap):Prop:=
 Spec Tryz.prog C 201 [slv p_s,p_f] H (fun v H2=>∃ (r0:Int),v=.int .i64 r0∧K r0 H2)
def QG (C:Ctx) (p_s:Sl) (p_f:Value) (K:Bool→Heap→Prop) (H:Heap):Prop:=
 Spec Tryz.prog C 202 [slv p_s,p_f] H (fun v H2=>∃ (r0:Bool),v=.bool r0∧K r0 H2)
def Qjz (C:Ctx) (p_x:Qd) (v0:Nat×Nat) (K:Bool→Heap→Prop) (H:Heap):Prop:=
 Spec Tryz.prog C 203 [.agg (Qd.c p_x).toArray,pv (some v0)] H (fun v H2=>∃ (r0:Bool),v=.bool r0∧K r0 H2)
def QcG (C:Ctx) (p_s:Str) (p_sep:Str) (K:Str→Str→Bool→Heap→Prop) (H:Heap):Prop:=
 Spec Tryz.prog C 204 [sv p_s,sv p_sep] H (fun v H2=>∃ (r0:Str) (r1:Str) (r2:Bool),v=.tuple #[sv r0,sv r1,.bool r2]∧K r0 r1 r2 H2)
def QS (C:Ctx) (p_l:Sl) (p_depth:Value) (K:Int→Heap→Prop) (H:Heap):Prop:=
 Spec Tryz.prog C 220 [slv p_l,p_depth] H (fun v H2=>∃ (r0:Int),v=.int .i64 r0∧K r0 H2)
theorem QS.gh {C:Ctx} {p_l:Sl} {p_depth:Value} {K:Int→Heap→Prop} {H:Heap} (h:QS C p_l p_depth (fun r0 H2=>∃ H0,Gh C H2 H0∧K r0 H0) H):QS C p_l p_depth K H:=ghm h
def QaX (C:Ctx) (p_s:Str) (p_substr:Str) (K:Int→Heap→Prop) (H:Heap):Prop:=
 Spec Tryz.prog C 221 [sv p_s,sv p_substr] H (fun v H2=>∃ (r0:Int),v=.int .i64 r0∧K r0 H2)
def Qbm (C:Ctx) (p_s:Sl) (p_f:Value) (K:Int→Heap→Prop) (H:Heap):Prop:=
 Spec Tryz.prog C 222 [slv p_s,p_f] H (fun v H2=>∃ (r0:Int),v=.int .i64 r0∧K r0 H2)
def QgT (C:Ctx) (p_x:Qd) (v0:Nat×Nat) (K:Bool→Heap→Prop) (H:Heap):Prop:=
 Spec Tryz.prog C 223 [.agg (Qd.c p_x).toArray,pv (some v0)] H (fun v H2=>∃ (r0:Bool),v=.bool r0∧K r0 H2)
def QaZ (C:Ctx) (p_s:Sl) (p_f:Value) (K:Int→Heap→Prop) (H:Heap):Prop:=
 Spec Tryz.prog C 224 [slv p_s,p_f] H (fun v H2=>∃ (r0:Int),v=.int .i64 r0∧K r0 H2)
def QbL (C:Ctx) (p_v:Qm) (K:Int→Heap→Prop) (H:Heap):Prop:=
 Spec Tryz.prog C 225 [.agg (Qm.c p_v).toArray] H (fun v H2=>∃ (r0:Int),v=.int .i64 r0∧K r0 H2)
theorem QbL.gh {C:Ctx} {p_v:Qm} {K:Int→Heap→Prop} {H:Heap} (h:QbL C p_v (fun r0 H2=>∃ H0,Gh C H2 H0∧K r0 H0) H):QbL C p_v K H:=ghm h
def QgU (C:Ctx) (K:Option Nat→Heap→Prop) (H:Heap):Prop:=
 Spec Tryz.prog C 226 [] H (fun v H2=>∃ (r0:Option Nat),v=mv r0∧K r0 H2)
def Qc2 (C:Ctx) (p_v:Qm) (K:Bool→Heap→Prop) (H:Heap):Prop:=
 Spec Tryz.prog C 227 [.agg (Qm.c p_v).toArray] H (fun v H2=>∃ (r0:Bool),v=.bool r0∧K r0 H2)
theorem Qc2.gh {C:Ctx} {p_v:Qm} {K:Bool→Heap→Prop} {H:Heap} (h:Qc2 C p_v (fun r0 H2=>∃ H0,Gh C H2 H0∧K r0 H0) H):Qc2 C p_v K H:=ghm h
def QcF (C:Ctx) (p_x:Qh) (v0:Nat×Nat) (K:Bool→Heap→Prop) (H:Heap):Prop:=
 Spec Tryz.prog C 228 [.agg (Qh.c p_x).toArray,pv (some v0)] H (fun v H2=>∃ (r0:Bool),v=.bool r0∧K r0 H2)
theorem QcF.gh {C:Ctx} {p_x:Qh} {v0:Nat×Nat} {K:Bool→Heap→Prop} {H:Heap} (h:QcF C p_x v0 (fun r0 H2=>∃ H0,Gh C H2 H0∧K r0 H0) H):QcF C p_x v0 K H:=ghm h
def Qa1 (C:Ctx) (p_s:Sl) (p_f:Value) (K:Int→Heap→Prop) (H:Heap):Prop:=
 Spec Tryz.prog C 229 [slv p_s,p_f] H (fun v H2=>∃ (r0:Int),v=.int .i64 r0∧K r0 H2)
def QkA (C:Ctx) (p_l:Sl) (v0:Nat×Nat) (v1:Nat×Nat) (K:Heap→Prop) (H:Heap):Prop:=
 Spec Tryz.prog C 231 [slv p_l,pv (some v0),pv (some v1)] H (fun v H2=>v=.tuple #[]∧K H2)
def QkB (C:Ctx) (p_v:Qm) (v0:Nat×Nat) (v1:Nat×Nat) (K:Heap→Prop) (H:Heap):Prop:=
 Spec Tryz.prog C 232 [.agg (Qm.c p_v).toArray,pv (some v0),pv (some v1)] H (fun v H2=>v=.tuple #[]∧K H2)
def QhV (C:Ctx) (p_i:Int) (p_base:Int) (K:Str→Heap→Prop) (H:Heap):Prop:=
 Spec Tryz.prog C 234 [.int .i64 p_i,.int .i64 p_base] H (fun v H2=>∃ (r0:Str),v=sv r0∧K r0 H2)
def Qaz (C:Ctx) (p_s:Str) (p_c:Int) (K:Int→Heap→Prop) (H:Heap):Prop:=
 Spec Tryz.prog C 241 [sv p_s,.int .u8 p_c] H (fun v H2=>∃ (r0:Int),v=.int .i64 r0∧K r0 H2)
def QeA (C:Ctx) (p_n:Int) (K:Int→Heap→Prop) (H:Heap):Prop:=
 Spec Tryz.prog C 243 [.int .i64 p_n] H (fun v H2=>∃ (r0:Int),v=.int .i64 r0∧K r0 H2)
def Qcj (C:Ctx) (p_s:Str) (p_sep:Str) (K:Int→Heap→Prop) (H:Heap):Prop:=
 Spec Tryz.prog C 244 [sv p_s,sv p_sep] H (fun v H2=>∃ (r0:Int),v=.int .i64 r0∧K r0 H2)
def QaY (C:Ctx) (p_v:Qm) (p_most:Int) (K:Int→Heap→Prop) (H:Heap):Prop:=
 Spec Tryz.prog C 245 [.agg (Qm.c p_v).toArray,.int .i64 p_most] H (fun v H2=>∃ (r0:Int),v=.int .i64 r0∧K r0 H2)
theorem QaY.gh {C:Ctx} {p_v:Qm} {p_most:Int} {K:Int→Heap→Prop} {H:Heap} (h:QaY C p_v p_most (fun r0 H2=>∃ H0,Gh C H2 H0∧K r0 H0) H):QaY C p_v p_most K H:=ghm h
def Q7 (C:Ctx) (p_v:Qm) (K:Bool→Bool→Heap→Prop) (H:Heap):Prop:=
 Spec Tryz.prog C 246 [.agg (Qm.c p_v).toArray] H (fun v H2=>∃ (r0:Bool) (r1:Bool),v=.tuple #[.bool r0,.bool r1]∧K r0 r1 H2)
theorem Q7.gh {C:Ctx} {p_v:Qm} {K:Bool→Bool→Heap→Prop} {H:Heap} (h:Q7 C p_v (fun r0 r1 H2=>∃ H0,Gh C H2 H0∧K r0 r1 H0) H):Q7 C p_v K H:=
 Spec.gh (Spec.mono h fun _ H2 ⟨r0,r1,hv,H0,hg,hk⟩=>⟨H0,hg,r0,r1,hv,hk⟩)
def Qe3 (C:Ctx) (p_s:Str) (K:Int→Bool→Heap→Prop) (H:Heap):Prop:=
 Spec Tryz.prog C 255 [sv p_s] H (fun v H2=>∃ (r0:Int) (r1:Bool),v=.tuple #[.int .i64 r0,.bool r1]∧K r0 r1 H2)
def Qc4 (C:Ctx) (p_s:Str) (K:Bool→Heap→Prop) (H:Heap):Prop:=
 Spec Tryz.prog C 256 [sv p_s] H (fun v H2=>∃ (r0:Bool),v=.bool r0∧K r0 H2)
def QcK (C:Ctx) (p_s:Str) (p_prefix:Str) (K:Str→Heap→Prop) (H:Heap):Prop:=
 Spec Tryz.prog C 261 [sv p_s,sv p_prefix] H (fun v H2=>∃ (r0:Str),v=sv r0∧K r0 H2)
def Qbj (C:Ctx) (p_s:Str) (p_cutset:Str) (K:Str→Heap→Prop) (H:Heap):Prop:=
 Spec Tryz.prog C 262 [sv p_s,sv p_cutset] H (fun v H2=>∃ (r0:Str),v=sv r0∧K r0 H2)
theorem Qbj.gh {C:Ctx} {p_s:Str} {p_cutset:Str} {K:Str→Heap→Prop} {H:Heap} (h:Qbj C p_s p_cutset (fun r0 H2=>∃ H0,Gh C H2 H0∧K r0 H0) H):Qbj C p_s p_cutset K H:=ghm h
def Qbc (C:Ctx) (p_s:Str) (p_prefix:Str) (K:Str→Heap→Prop) (H:Heap):Prop:=
 Spec Tryz.prog C 268 [sv p_s,sv p_prefix] H (fun v H2=>∃ (r0:Str),v=sv r0∧K r0 H2)
def QgC (C:Ctx) (p_s:Str) (p_c:Int) (K:Str→Heap→Prop) (H:Heap):Prop:=
 Spec Tryz.prog C 269 [sv p_s,.int .u8 p_c] H (fun v H2=>∃ (r0:Str),v=sv r0∧K r0 H2)
def Qf6 (C:Ctx) (p_s:Str) (p_c:Int) (K:Str→Heap→Prop) (H:Heap):Prop:=
 Spec Tryz.prog C 270 [sv p_s,.int .u8 p_c] H (fun v H2=>∃ (r0:Str),v=sv r0∧K r0 H2)
def QY (C:Ctx) (p_chars:Str) (K:List Value→Bool→Heap→Prop) (H:Heap):Prop:=
 Spec Tryz.prog C 271 [sv p_chars] H (fun v H2=>∃ (r0:List Value) (r1:Bool),v=.tuple #[.agg (List.toArray r0),.bool r1]∧K r0 r1 H2)
theorem QY.gh {C:Ctx} {p_chars:Str} {K:List Value→Bool→Heap→Prop} {H:Heap} (h:QY C p_chars (fun r0 r1 H2=>∃ H0,Gh C H2 H0∧K r0 r1 H0) H):QY C p_chars K H:=
 Spec.gh (Spec.mono h fun _ H2 ⟨r0,r1,hv,H0,hg,hk⟩=>⟨H0,hg,r0,r1,hv,hk⟩)
def QbI (C:Ctx) (p_s:Str) (p_as:Option (Nat×Nat)) (K:Str→Heap→Prop) (H:Heap):Prop:=
 Spec Tryz.prog C 272 [sv p_s,pv p_as] H (fun v H2=>∃ (r0:Str),v=sv r0∧K r0 H2)
def Qbv (C:Ctx) (p_s:Str) (p_as:Option (Nat×Nat)) (K:Str→Heap→Prop) (H:Heap):Prop:=
 Spec Tryz.prog C 273 [sv p_s,pv p_as] H (fun v H2=>∃ (r0:Str),v=sv r0∧K r0 H2)
def Qe1 (C:Ctx) (p_s:Str) (p_cutset:Str) (K:Str→Heap→Prop) (H:Heap):Prop:=
 Spec Tryz.prog C 274 [sv p_s,sv p_cutset] H (fun v H2=>∃ (r0:Str),v=sv r0∧K r0 H2)
def QeD (C:Ctx) (p_s:Str) (p_cutset:Str) (K:Str→Heap→Prop) (H:Heap):Prop:=
 Spec Tryz.prog C 275 [sv p_s,sv p_cutset] H (fun v H2=>∃ (r0:Str),v=sv r0∧K r0 H2)
def Qas (C:Ctx) (p_as:Option (Nat×Nat)) (p_c:Int) (K:Bool→Heap→Prop) (H:Heap):Prop:=
 Spec Tryz.prog C 278 [pv p_as,.int .u8 p_c] H (fun v H2=>∃ (r0:Bool),v=.bool r0∧K r0 H2)
end
end Sx
end
