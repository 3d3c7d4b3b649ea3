/-
  Texts of this family, one behind the other: Ev11, Ev12, Ev13, Ev14, EvM, CNames, MoRNames, RowINames.
-/
import Derived.Test.YtmeefnmaphmpkaaGreatDoorBN5
import Derived.Test.YtmeefnmaphmpkaaGreatDoorProg
noncomputable section
set_option linter.unusedVariables false
set_option linter.unusedSimpArgs false
set_option maxRecDepth 10000
namespace Sx
section
open Go
def initT:List AV→Nat→PT AV→Option (PT AV)
 | [],_,T=>some T
 | v :: l, k, T => match T.set 40 k (some v) with
  | some T'=>initT l (k+1) T'
  | none=>none
theorem Qmf:∀ {l:List AV} {k:Nat} {T T':PT AV},initT l k T=some T'→∀ t v,T'.get t=some v→(k≤t∧l[t - k]? = some v)∨T.get t=some v
 | [],k,T,T',h,t,v,ht=>by simp only [initT,Option.some.injEq] at h; subst h; exact .inr ht
 | x::l,k,T,T',h,t,v,ht=>by
  simp only [initT] at h
  split at h <;> try (cases h; done)
  rename_i T1 h1
  rcases Qmf h t v ht with ⟨g1,g2⟩ | g
  ·refine .inl ⟨by omega, ?_⟩
   rw [show t - k=(t - (k+1))+1 by omega]; simpa using g2
  ·rw [PT.set_get _ _ _ _ _ h1] at g
   split at g
   ·rename_i htk
    subst htk
    exact .inl ⟨Nat.le_refl _,by simpa using g⟩
   ·exact .inr g
def ldA (P:Program) (A:AS) (t:TypeId) (p:Nat×Nat):Option AV:=
 bif aggT P t then (match szT P t with | some z=>(match A.cells p z with | some l=>some (.agg l) | none=>none) | none=>none) else bif aggB P t then none else A.cell p
def rvA (P:Program) (T:PT AV) (A:AS):ResultVar→Option AV
 | .tmp t=>T.get t
 | .cell a t => match T.get a with
  | some (.ptr (some p))=>ldA P A t p
  | _=>none
def rvsA (P:Program) (T:PT AV) (A:AS):List ResultVar→Option (List AV)
 | []=>some []
 | r :: l => match rvA P T A r, rvsA P T A l with
  | some x,some y=>some (x::y)
  | _,_=>none
def resA (P:Program) (T:PT AV) (A:AS):List ResultVar→Option AV
 | []=>some (.tup [])
 | [r]=>rvA P T A r
 | [r, s] => match rvA P T A r, rvA P T A s with
  | some x,some y=>some (.tup [x,y])
  | _,_=>none
 | r :: s :: l => match rvsA P T A (r :: s :: l) with
  | some x=>some (.tup x)
  | none=>none
/-- which slots are looked at outside the piece of code that writes them (any answer is sound) -/
def rdM:List Operand→Nat→Nat
 | [],m=>m
 | .tmp t::l,m=>rdM l (Nat.lor m (2 ^ t))
 | _::l,m=>rdM l m
def exposed (ops:List Oper):List Oper→Nat→Nat→Nat
 | [],df,m=>m
 | o::l,df,m=>
  let r:=rdM (o.op.operands.toList) 0
  let r:=match o.guard with
   | some (j,_)=>(match nth ops j with | some oj=>(match oj.dst with | some d=>Nat.lor r (2 ^ d) | none=>r) | none=>r)
   | none=>r
  let m':=Nat.lor m (Nat.xor r (Nat.land r df))
  match o.dst with
  | some d=>exposed ops l (Nat.lor df (2 ^ d)) m'
  | none=>exposed ops l df m'
def keepC:Code→Nat→Nat
 | .region _ ops draw,m=>exposed ops.toList ops.toList 0 m
 | .seq a b,m=>keepC b (keepC a m)
 | .cond x a b,m=>keepC b (keepC a (rdM [x] m))
 | .block _ b,m=>keepC b m
 | .loop b,m=>keepC b m
 | .scope b,m=>keepC b m
 | .rangeFunc g ps aq bd,m=>keepC bd (keepC aq (rdM (g::ps.toList.map .tmp) m))
 | _,m=>m
def keepR:List ResultVar→Nat→Nat
 | [],m=>m
 | .tmp t::l,m=>keepR l (Nat.lor m (2 ^ t))
 | .cell a _::l,m=>keepR l (Nat.lor m (2 ^ a))
def evRes (P:Program) (fn:Func):Option Rs→Option Rs
 | some (.x ex T' A') => (match ex with
  | .ex _=>none
  | .nrm=>(match resA P T' A' fn.results.toList with | some v=>some (.v v A') | none=>none)
  | .ret=>(match resA P T' A' fn.results.toList with | some v=>some (.v v A') | none=>none))
 | _=>none
def liveF (fn:Func):Nat:=match fn.body with | some c=>keepC c (keepR fn.results.toList 0) | none=>0
def evFn (P:Program) (self:Tk→AS→Option Rs) (fn:Func) (args:List AV) (A:AS):Option Rs:=
 match fn.body,initT args 0 (.start (liveF fn)) with
 | some c,some T=>bif Nat.ble args.length fn.ntmps then evRes P fn (self (.code false c fn.ntmps T) A) else none
 | _,_=>none
def evCall (P:Program) (prim:FuncId→List AV→AS→Option (AV×AS)) (self:Tk→AS→Option Rs) (f:FuncId) (args:List AV) (A:AS):Option Rs:=
 match prim f args A with
 | some (v,A')=>some (.v v A')
 | none => (match nth P.funcs.toList f with
  | some fn=>evFn P self fn args A
  | none=>none)
def evReg (P:Program) (I:Ids) (self:Tk→AS→Option Rs) (ops:Array Oper) (draw:Bool) (n:Nat) (T:PT AV) (A:AS):Option Rs:=
 match (bif draw then drawnA P (opStepF P I self) n ops.toList T A else opsL (opStepF P I self) n ops.toList ops.toList T A) with
 | some (T',A')=>some (.x .nrm T'.flush A')
 | none=>none
def evThen (self:Tk→AS→Option Rs) (rd:Bool) (b:Code) (n:Nat):Option Rs→Option Rs
 | some (.x ex T' A') => (match ex with
  | .nrm=>self (.code rd b n T') A'
  | ex=>some (.x ex T' A'))
 | _=>none
def evIf (self:Tk→AS→Option Rs) (rd:Bool) (a b:Code) (n:Nat) (T:PT AV) (A:AS):Option AV→Option Rs
 | some (.bool t)=>self (.code rd (bif t then a else b) n T) A
 | _=>none
def evBlk (id:Nat):Option Rs→Option Rs
 | some (.x ex T' A') => (match ex with
  | .ex i=>bif Nat.beq i id then some (.x .nrm T' A') else some (.x (.ex i) T' A')
  | ex=>some (.x ex T' A'))
 | _=>none
def evAgain (self:Tk→AS→Option Rs) (rd:Bool) (c:Code) (n:Nat):Option Rs→Option Rs
 | some (.x ex T' A') => (match ex with
  | .nrm=>self (.loop rd c n T') A'
  | ex=>some (.x ex T' A'))
 | _=>none
/-- a range over a function -/
def evRng2 (k n:Nat) (T:PT AV):Option Rs→Option Rs
 | some (.v _ A2) => (match A2.at_ k with
  | some (.lup st pend _ _ _ _ _) => (match st with
   | 0=>evRng3 k n T A2 pend
   | 1=>evRng3 k n T A2 pend
   | _=>none)
  | _=>none)
 | _=>none
where evRng3 (k n:Nat) (T:PT AV) (A2:AS) (pend:Option AEx):Option Rs:=match A2.put k none with
 | some A3 => (match pend with
  | none=>some (.x .nrm T A3)
  | some .nrm=>none
  | some ex=>some (.x ex T A3))
 | none=>none
def evRng (self:Tk→AS→Option Rs) (n:Nat) (T:PT AV) (A:AS) (ps:Array Nat) (aq bd:Code):Option AV→Option Rs
 | some (.fn (.func gf) [] cs) => (match A.new (.lup 0 none n T ps.toList aq bd) with
  | some A1=>evRng2 A.nx n T (self (.call gf (.yld A.nx::cs)) A1)
  | none=>none)
 | _=>none
def evCode (P:Program) (I:Ids) (self:Tk→AS→Option Rs) (rd:Bool) (n:Nat) (T:PT AV) (A:AS):Code→Option Rs
 | .skip=>some (.x .nrm T A)
 | .label _=>some (.x .nrm T A)
 | .region _ ops draw=>evReg P I self ops draw n T A
 | .seq a b=>evThen self rd b n (self (.code rd a n T) A)
 | .cond x a b=>evIf self rd a b n T A (opA T x)
 | .block id b=>evBlk id (self (.code rd b n T) A)
 | .loop b=>self (.loop rd b n T) A
 | .exit id=>some (.x (.ex id) T A)
 | .scope b=>self (.code rd b n T) A
 | .ret=>some (.x .ret T A)
 | .rangeFunc g ps aq bd=>bif rd then none else evRng self n T A ps aq bd (opA T g)
 | _=>none
def evF (P:Program) (I:Ids) (prim:FuncId→List AV→AS→Option (AV×AS)) (self:Tk→AS→Option Rs):Tk→AS→Option Rs
 | .call f args,A=>evCall P prim self f args A
 | .code rd c n T,A=>evCode P I self rd n T A c
 | .loop rd c n T,A=>evAgain self rd c n (self (.code rd c n T) A)
structure PrimOk (P:Program) (C:Ctx) (prim:FuncId→List AV→AS→Option (AV×AS)):Prop where
 ok:∀ f args A v A',prim f args A=some (v,A')→OutE A A'∧CallS P C f args A v A'∧CallOk P f
section
variable {P:Program} {C:Ctx} {I:Ids} {prim:FuncId→List AV→AS→Option (AV×AS)} {self:Tk→AS→Option Rs}
theorem QnN {e:Env} {F H:Heap} {A:AS} {T:PT AV} {n:Nat} {a:Act} {r:ResultVar} {v:AV} (hE:Emb e F A H) (hf:FrT e T n a) (h:rvA P T A r=some v):∃ u,RV P C (full a) H r u∧Dn e v u:=by
 cases r with
 | tmp t=>
  obtain ⟨u,h1,h2⟩:=hf.get t v h
  exact ⟨u,QiO h1,h2⟩
 | cell x t=>
  simp only [rvA] at h
  split at h <;> try (cases h; done)
  rename_i p hp
  obtain ⟨k,o⟩:=p
  obtain ⟨_,h1,h2⟩:=hf.get x _ hp
  cases h2 with
  | ptr hq=>
  obtain ⟨b,c,g1,g2⟩:=hq
  subst g2
  unfold ldA at h
  cases ht:aggT P t with
  | true=>
   rw [ht] at h
   simp only [cond_true] at h
   split at h <;> try (cases h; done)
   rename_i z hz
   split at h <;> try (cases h; done)
   rename_i l hl
   injection h with h; subst h
   obtain ⟨us,q1,q2,q3⟩:=hE.cells hl g1
   exact ⟨_,RV.cellT (p:=(b,o)) (QiO h1) ht (by rw [q3]; exact Qhn hz) q1,.agg q2⟩
  | false=>
   rw [ht] at h
   simp only [cond_false] at h
   cases hb:aggB P t with
   | true=>rw [hb] at h; cases h
   | false=>
    rw [hb] at h
    simp only [cond_false] at h
    obtain ⟨u,q1,q2⟩:=hE.cell h g1
    exact ⟨u,RV.cell (p:=(b,o)) (QiO h1) hb q1,q2⟩
inductive RVs (P:Program) (C:Ctx) (l:List (Nat×Value)) (H:Heap):List ResultVar→List Value→Prop
 | nil:RVs P C l H [] []
 | cons {r:ResultVar} {v:Value} {rs:List ResultVar} {vs:List Value} (h:RV P C l H r v) (h2:RVs P C l H rs vs):RVs P C l H (r::rs) (v::vs)
theorem Qpj {e:Env} {F H:Heap} {A:AS} {T:PT AV} {n:Nat} {a:Act} (hE:Emb e F A H) (hf:FrT e T n a):∀ {rs:List ResultVar} {vs:List AV},rvsA P T A rs=some vs→∃ us,RVs P C (full a) H rs us∧Dns e vs us
 | [],vs,h=>by simp only [rvsA,Option.some.injEq] at h; subst h; exact ⟨[],.nil,.nil⟩
 | r::rs,vs,h=>by
  simp only [rvsA] at h
  split at h <;> try (cases h; done)
  rename_i x y hx hy
  injection h with h; subst h
  obtain ⟨u,h1,h2⟩:=QnN (C:=C) hE hf hx
  obtain ⟨us,h3,h4⟩:=Qpj hE hf hy
  exact ⟨u::us,.cons h1 h3,.cons h2 h4⟩
theorem RVs.run {l:List (Nat×Value)} {H:Heap} {w:World} {f:ResultVar→Sem Value} (hf:∀ r v,RV P C l H r v→(f r).run P w=.ok v w):∀ {rs:List ResultVar} {vs:List Value},RVs P C l H rs vs→(rs.mapM f).run P w=.ok vs w
 | _,_,.nil=>by simp
 | _,_,.cons h1 h2=>by
  have ih:=RVs.run hf h2
  rw [List.mapM_cons]
  simp [hf _ _ h1,ih]
theorem RVs.len {l:List (Nat×Value)} {H:Heap}:∀ {rs:List ResultVar} {vs:List Value},RVs P C l H rs vs→vs.length=rs.length
 | _,_,.nil=>rfl
 | _,_,.cons h1 h2=>by simp [h2.len]
theorem Qpa {l:List (Nat×Value)} {H:Heap} {n:Nat} {fn:Func} {Φ:Value→Heap→Prop} {r s:ResultVar} {rs:List ResultVar} {vs:List Value} {a:Act} {w:World} (hr:fn.results=(r::s::rs).toArray) (h1:RVs P C l H (r::s::rs) vs) (hf:Fr ⟨n,[]⟩ l a) (hw:St C w H) (h:Φ (.tuple vs.toArray) H):SpecPost P C fn Φ .ret a w:=by
 refine Qbb (v:=.tuple vs.toArray) ?_ hf.defers ⟨_,H,rfl,hw,h⟩
 have hl:=h1.len
 unfold results
 rw [hr,List.mapM_toArray]
 simp only [Sem.run_bind,Sem.run_map]
 rw [RVs.run (fun r v h=>by
  rcases h.run hf hw with ⟨t,rfl,e⟩ | ⟨x,t,p,rfl,e,e2⟩
  ·simp [e]
  ·simp [e,pv,asAddr,e2]) h1]
 have h2:¬ vs.length=1:=by simp only [hl,List.length_cons]; omega
 simp [h2]
theorem Qrg {e:Env} {F H:Heap} {A:AS} {T:PT AV} {n:Nat} {a:Act} {w:World} {fn:Func} {v:AV} {Φ:Value→Heap→Prop} (hE:Emb e F A H) (hf:FrT e T n a) (hs:St C w H) (had:a.defers=[]) (h:resA P T A fn.results.toList=some v) (hk:∀ u,Dn e v u→Φ u H):SpecPost P C fn Φ .ret a w:=by
 have hfr:Fr ⟨n,[]⟩ (full a) a:=by have:=hf.fr; rwa [had] at this
 have hres:∀ l,fn.results.toList=l→fn.results=l.toArray:=fun l hl=>by rw [← hl]
 unfold resA at h
 split at h
 ·rename_i hr
  injection h with h; subst h
  exact QfN (hres _ hr) hfr hs (hk _ (.tup .nil))
 ·rename_i r hr
  obtain ⟨u,h1,h2⟩:=QnN (C:=C) hE hf h
  exact Qmq (hres _ hr) h1 hfr hs (hk _ h2)
 ·rename_i r s hr
  split at h <;> try (cases h; done)
  rename_i x y hx hy
  injection h with h; subst h
  obtain ⟨u,h1,h2⟩:=QnN (C:=C) hE hf hx
  obtain ⟨u',h3,h4⟩:=QnN (C:=C) hE hf hy
  exact Qkd (hres _ hr) h1 h3 hfr hs (hk _ (.tup (.cons h2 (.cons h4 .nil))))
 ·rename_i r s l hr
  split at h <;> try (cases h; done)
  rename_i x hx
  injection h with h; subst h
  obtain ⟨us,h1,h2⟩:=Qpj (C:=C) hE hf hx
  exact Qpa (hres _ hr) h1 hfr hs (hk _ (.tup h2))
theorem Qh8 {Fe:Fence} {k:Nat} {c:Code} {Q:Exit→Act→World→Prop} {a:Act} {w:World} (h:c.wpIn Fe k P (Exit.noGoto Q) a w):(Code.scope c).wpIn Fe k P Q a w:=by
 intro b kk cs hro hb hr
 have h0:(lone (b.atR a (.code (.scope c)::kk)) cs w).fenced P Fe:=fenced_calm hb hr rfl
 have s1:step P (lone (b.atR a (.code (.scope c)::kk)) cs w)=.next (lone (b.atR a (.code c::.inScope c::kk)) cs w):=step_lone_go (by simp [stepG,stepG.exec,Frame.atR])
 have s2:∀ a₁ w₁,step P (lone (b.atR a₁ (.inScope c::kk)) cs w₁)=.next (lone (b.atR a₁ kk) cs w₁):=fun a₁ w₁=>step_lone_go (by simp [stepG,stepG.exec,Frame.atR])
 obtain ⟨e,a₁,w₁,hq,harr⟩:=h b (.inScope c::kk) cs hro hb hr
 cases e with
 | normal=>exact ⟨.normal,a₁,w₁,hq,.head h0 s1 (StepsIn.trans harr (.one (fenced_calm hb hr rfl) (s2 _ _)))⟩
 | exit id=>
  have hx:exitTo id (.inScope c::kk)=exitTo id kk:=by simp [exitTo]
  exact ⟨.exit id,a₁,w₁,hq,fun k' hk=>.head h0 s1 (harr.1 k' (by rw [hx]; exact hk)),fun hr' hk=>let ⟨k₁,h1,h2⟩:=harr.2 hr' (by rw [hx]; exact hk); ⟨k₁,h1,.head h0 s1 h2⟩⟩
 | goto l=>exact hq.elim
 | ret=>exact ⟨_,a₁,w₁,hq,.of_steps (.one h0 s1) harr⟩
 | panic ch=>exact ⟨_,a₁,w₁,hq,.of_steps (.one h0 s1) harr⟩
 | outgrown=>exact ⟨_,a₁,w₁,hq,.of_steps (.one h0 s1) harr⟩
/-- at a function's end: what the ranges over functions have left -/
theorem leavesM {fn:Func} {tmps:Array Value} {R:Ending→World→Prop}:∀ (L:List Nat) (w:World) (H:Heap),St C w H→L.Nodup→(∀ D ∈ L,H D=some (true,.obj (.deferred (some []))))→
 (∀ w' H',St C w' H'→(∀ b,b ∉ L→H' b=H b)→LeavesInM Fence.wide 0 P fn tmps R [] .returning w')→LeavesInM Fence.wide 0 P fn tmps R (L.map mark) .returning w
 | [],w,H,hs,_,_,hk=>hk w H hs fun _ _=>rfl
 | D::L,w,H,hs,hn,hD,hk=>by
  have hn':=List.nodup_cons.1 hn
  have h1:=hD D (List.mem_cons_self ..)
  have h2:=hs.Qk2 h1
  refine ⟨by simp,.inl ⟨D,w.putObj D (.deferred none),rfl,run_takeDeferred (P:=P) h2,?_⟩⟩
  have hlt:D < w.heap.size:=(Array.getElem?_eq_some_iff.1 h2).1
  have hs':St C (w.putObj D (.deferred none)) (H.put D (.obj (.deferred none))):=
   hs.set h1 ⟨rfl,rfl,World.putObj_heap_same hlt,fun x hx=>World.putObj_heap_other hx⟩ ⟨rfl,fun _ _ _ h=>by cases h⟩
  refine leavesM L _ _ hs' hn'.2 (fun D' hD'=>?_) fun w' H' hs2 hb=>hk w' H' hs2 fun b hb'=>?_
  ·have hne : D' ≠ D := fun e => hn'.1 (by rw [← e]; exact hD')
   rw [Heap.put_ne _ _ _ hne]; exact hD D' (List.mem_cons_of_mem _ hD')
  ·have hne : b ≠ D := fun e => hb' (by rw [e]; exact List.mem_cons_self ..)
   rw [hb b fun h=>hb' (List.mem_cons_of_mem _ h),Heap.put_ne _ _ _ hne]
theorem Emb.hide {e:Env} {F H:Heap} {A:AS} {D:Nat} {g:GO} (hE:Emb e F A H) (hD:H D=none):Emb e (F.put D g) A (H.put D g):=by
 refine ⟨fun b x hb=>?_,fun k o hk=>?_,hE.inj⟩
 ·by_cases hbd:b=D
  ·subst hbd; rw [Heap.put_same] at hb ⊢; exact hb
  ·rw [Heap.put_ne _ _ _ hbd] at hb ⊢; exact hE.fle _ _ hb
 ·obtain ⟨b,c,g',h1,h2,h3,h4⟩:=hE.at_ k o hk
  have hbd:b≠D:=fun e=>by subst e; rw [hD] at h3; cases h3
  exact ⟨b,c,g',h1,h2,by rw [Heap.put_ne _ _ _ hbd]; exact h3,by rw [Heap.put_ne _ _ _ hbd]; exact h4⟩
theorem Emb.putOff {e:Env} {F H:Heap} {A:AS} {D:Nat} {g:GO} (hE:Emb e F A H) (hF:F D=none) (hno:∀ k o c,A.at_ k=some o→e k=some (D,c)→False):Emb e F A (H.put D g):=by
 refine ⟨fun b x hb=>?_,fun k o hk=>?_,hE.inj⟩
 ·have hbd : b ≠ D := fun e => by subst e; rw [hF] at hb; cases hb
  rw [Heap.put_ne _ _ _ hbd]; exact hE.fle _ _ hb
 ·obtain ⟨b,c,g',h1,h2,h3,h4⟩:=hE.at_ k o hk
  have hbd:b≠D:=fun e=>by subst e; exact hno k o c hk h1
  exact ⟨b,c,g',h1,h2,by rw [Heap.put_ne _ _ _ hbd]; exact h3,h4⟩
theorem QpN (hS:SelfOk P C I self) {n:Nat} {T:PT AV} {A:AS} {g:Operand} {ps:Array Nat} {aq bd:Code} {r:Rs} (h:evRng self n T A ps aq bd (opA T g)=some r):TkS P C (.code false (.rangeFunc g ps aq bd) n T) A r:=by
 unfold evRng at h
 split at h <;> try (cases h; done)
 rename_i gf cs hg
 split at h <;> try (cases h; done)
 rename_i A1 h1
 unfold evRng2 at h
 split at h <;> try (cases h; done)
 rename_i v A2 h2
 obtain ⟨o2,c2⟩:=hS.ok _ _ _ h2
 have hok:=hS.call _ _ _ _ h2
 have o1:=(AS.new_out h1).1
 have n1:=(AS.new_out h1).2.1
 split at h <;> try (cases h; done)
 rename_i st pend n' T' ps' aq' bd' hat
 have main:∀ A3 ex,A2.put A.nx none=some A3→st≠2→stO st≠.busy→(ex=.nrm∧pend=none∨pend=some ex∧ex≠.nrm)→TkS P C (.code false (.rangeFunc g ps aq bd) n T) A (.x ex T A3):=by
  intro A3 ex h3 hst2 hst hpe
  have o3:=(AS.put_out h3).1
  have n3:=(AS.put_out h3).2.1
  refine ⟨o1.trans (o2.trans o3),fun ro hro e F H a w Q hE hf hs hfr hk=>?_⟩
  have hro:=hro rfl
  subst hro
  obtain ⟨_,g1,g2⟩:=Qs hf hg
  cases g2 with
  | fn k1 k2=>
  rename_i xa xb
  cases k1
  -- the two blocks
  have hD0:H w.heap.size=none:=hs.fresh
  have hs1:St C (w.alloc (.deferred (some []))) (H.put w.heap.size (.obj (.deferred (some [])))):=hs.push ⟨rfl,fun _ _ _ h=>by cases h⟩
  have hE1:=hE.hide (g:=.obj (.deferred (some []))) hD0
  have hsz:(w.alloc (.deferred (some []))).heap.size=w.heap.size+1:=by simp
  have hFD:F w.heap.size=none:=hE.fle.none hD0
  refine wpIn_rangeFunc fun fn _=>?_
  let rec1:Loop:={ state:=.ready,pending:=none,fn:=fn,tmps:=a.tmps,params:=ps,assign:=aq,body:=bd,defers:=w.heap.size }
  have hfr1:Free e A.nx A1.nx:=hfr.left (Nat.le_trans o2.nx o3.nx)
  obtain ⟨q1,q2,q3⟩:=QjW (C:=C) (ob:=.loop rec1) hE1 hs1 h1 hfr1 (fun b=>⟨fn,a.tmps,w.heap.size,rfl,hf.size,fun t v ht=>by
   obtain ⟨u,r1,r2⟩:=hf.get t v ht
   exact ⟨u,r1,r2.le (Env.upd_le (hfr1 A.nx (Nat.le_refl _) (by omega)))⟩⟩) (fun _ _ _ h=>by cases h)
  have hle1:=q1.le hfr1
  have hcall:=c2 (e.upd A.nx ((w.alloc (.deferred (some []))).heap.size,0)) (F.put w.heap.size (.obj (.deferred (some [])))) _ (.func (.yield (w.heap.size+1)) #[] #[]::xb) (.cons (.yld (by rw [hsz]; exact Env.upd_same ..)) (k2.le hle1)) q2 (hfr.right q1 o1.nx |>.left o3.nx)
  refine ⟨_,_,(w.alloc (.deferred (some []))).alloc (.loop rec1),⟨.fn (.func gf) xb.toArray,#[.func (.yield (w.heap.size+1)) #[] #[]]⟩,(w.alloc (.deferred (some []))).alloc (.loop rec1),gf,(Value.func (.yield (w.heap.size+1)) #[] #[]::xb).toArray,(w.alloc (.deferred (some []))).alloc (.loop rec1),run_enterLoop_outer (P:=P) fn a.tmps ps aq bd,?_,fun _ _=>trivial,?_,fun hh=>(by cases hh),QhW (ro:=none) ((hcall _ q3).mono fun en w2 he=>?_)⟩
  ·have e1:=hf.fr.ev g1
   simp only [resolve,e1]
   simp [Deferred.ofValue,Act.eval]
  ·simp [invoke]
   exact Qc8 hok _ _
  ·obtain ⟨u,H2,rfl,hs2,e2,hx2,hd2,hE2⟩:=he
   have hb0:e2 A.nx=some (w.heap.size+1,0):=by
    rw [hx2 A.nx (.inl (by omega)),hsz]; exact Env.upd_same ..
   obtain ⟨r,r1,r2,r3,r4,_⟩:=QlC hE2 hs2 hat hb0
   have hend:=run_endLoop (P:=P) r2 (by rw [r3]; exact hst)
   have hlt:w.heap.size+1 < w2.heap.size:=(Array.getElem?_eq_some_iff.1 r2).1
   obtain ⟨hE3,hlive⟩:=hE2.del h3
   have hFl:(F.put w.heap.size (.obj (.deferred (some [])))) (w.heap.size+1)=none:=by
    obtain ⟨b',c',g',p1,p2,p3,p4⟩:=hE2.at_ A.nx _ hat
    rw [hb0] at p1; injection p1 with p1; injection p1 with p1 _; subst p1; exact p4
   have hE4:=hE3.putOff (g:=.obj (.loop { r with state:=.exhausted })) hFl fun k o c hk he=>by
    obtain ⟨p1,p2⟩:=hlive k o hk
    exact p1 (hE2.inj k A.nx o _ _ _ _ p2 hat he hb0)
   have hs4:St C (w2.putObj (w.heap.size+1) (.loop { r with state:=.exhausted })) (H2.put (w.heap.size+1) (.obj (.loop { r with state:=.exhausted }))):=
    hs2.set r1 ⟨rfl,rfl,World.putObj_heap_same hlt,fun x hx=>World.putObj_heap_other hx⟩ ⟨rfl,fun _ _ _ h=>by cases h⟩
   refine ⟨_,_,hend,?_⟩
   have hmk:Mk F a.defers (F.put w.heap.size (.obj (.deferred (some [])))) (mark w.heap.size::a.defers):=
    ⟨Heap.le.put _ _ (Heap.le.refl F) hFD,[w.heap.size],rfl,by simp,fun D hD=>by
     have:D=w.heap.size:=by simpa using hD
     subst this; exact ⟨hFD,Heap.put_same ..⟩⟩
   have hxx:EnvX e e2 A.nx A3.nx:=by rw [n3]; exact q1.trans hx2 o1.nx o2.nx
   have hf4:FrT e2 T n { tmps:=a.tmps,defers:=mark w.heap.size::a.defers }:=⟨hf.size,fun t v ht=>by
    obtain ⟨u',p1,p2⟩:=hf.get t v ht
    exact ⟨u',p1,p2.le (hxx.le hfr)⟩⟩
   have fin:=hk { tmps:=a.tmps,defers:=mark w.heap.size::a.defers } _ e2 _ _ hmk hxx hf4 hE4 hs4
   split
   ·rename_i hnone
    rw [r4] at hnone
    rcases hpe with ⟨rfl,rfl⟩ | ⟨rfl,hne⟩
    ·exact fin
    ·cases ex with
     | nrm=>exact absurd rfl hne
     | ex i=>cases hnone
     | ret=>cases hnone
   ·rename_i c' hsome
    rw [r4] at hsome
    rcases hpe with ⟨rfl,rfl⟩ | ⟨rfl,hne⟩
    ·cases hsome
    ·cases ex with
     | nrm=>exact absurd rfl hne
     | ex i=>injection hsome with hsome; subst hsome; exact wpIn_exit fin
     | ret=>injection hsome with hsome; subst hsome; exact wpIn_ret fin
 split at h <;> try (cases h; done)
 all_goals
  unfold evRng2.evRng3 at h
  split at h <;> try (cases h; done)
  rename_i A3 h3
  split at h <;> try (cases h; done)
  ·injection h with h; subst h
   exact main A3 .nrm h3 (by decide) (by simp [stO]) (.inl ⟨rfl,rfl⟩)
  ·rename_i ex hne
   injection h with h; subst h
   exact main A3 ex h3 (by decide) (by simp [stO]) (.inr ⟨rfl,fun e=>hne (by rw [e])⟩)
theorem QrD (hS : SelfOk P C I self) (hP : PrimOk P C prim) (hN : ∀ (f : FuncId) (fn : Func), P.funcs[f]? = some fn → (fn.name == "runtime.NumGoroutine") = false) (hm : P.follows .mixedOrders = true) :
 SelfOk P C I (evF P I prim self):=by
 refine ⟨fun tk A r h=>?_,fun f args A r h=>?_,hS.idx,hS.cnt⟩
 ·cases tk with
  | call f args=>
   unfold evF evCall evFn evRes at h
   dsimp only at h
   split at h
   ·rename_i v A' hp
    injection h with h; subst h
    obtain ⟨h1,h2,_⟩:=hP.ok _ _ _ _ _ hp
    exact ⟨h1,h2⟩
   ·split at h <;> try (cases h; done)
    rename_i fn hfn
    rw [QcZ] at hfn
    have hfn:P.funcs[f]? = some fn:=by simpa using hfn
    split at h <;> try (cases h; done)
    rename_i c T hc hT
    cases hb:Nat.ble args.length fn.ntmps with
    | false=>rw [hb] at h; cases h
    | true=>
     rw [hb] at h
     simp only [cond_true] at h
     split at h <;> try (cases h; done)
     rename_i ex T' A' hr
     obtain ⟨ho,hcode⟩:=hS.ok _ _ _ hr
     have main:∀ v,resA P T' A' fn.results.toList=some v→(ex=.nrm∨ex=.ret)→TkS P C (.call f args) A (.v v A'):=by
      intro v hv hex
      refine ⟨ho,fun e F H us hd hE hfr=>?_⟩
      refine Spec.enter (n:=fn.ntmps) hfn hc rfl (by rw [hd.len]; exact hb) fun a w hf hs=>?_
      have hfT:FrT e T fn.ntmps a:=⟨hf.size,fun t v' ht=>by
       rcases Qmf hT t v' ht with ⟨_,g2⟩ | g
       ·rw [Nat.sub_zero] at g2
        rw [← QcZ] at g2
        obtain ⟨u,q1,q2⟩:=hd.nth g2
        refine ⟨u,hf.get t u ?_,q2⟩
        have:=QiP us 0 t u q1
        simpa [argFrame] using this
       ·rw [PT.get_start] at g; cases g⟩
      refine wpIn_wide.1 (hcode none (fun _=>rfl) e F H a w _ hE hfT hs hfr fun a' w' e' H' F' hmk hx hf' hE' hs'=>?_)
      obtain ⟨hle,L,hL,hnd,hLD⟩:=hmk
      have had:a.defers=[]:=hf.defers
      rw [had,List.append_nil] at hL
      have key:LeavesInM Fence.wide 0 P fn a'.tmps (Post C fun u H'=>∃ e',EnvX e e' A.nx A'.nx∧Dn e' v u∧Emb e' F A' H') a'.defers .returning w':=by
       rw [hL]
       refine leavesM L w' H' hs' hnd (fun D hD=>hE'.fle _ _ (hLD D hD).2) fun w2 H2 hs2 hoff=>?_
       have hE2:Emb e' F A' H2:=⟨fun b x hb=>by
        have:b ∉ L:=fun hbl=>by rw [(hLD b hbl).1] at hb; cases hb
        rw [hoff b this]; exact hE'.fle _ _ (hle _ _ hb),fun k o hk=>by
        obtain ⟨b,c,g,g1,g2,g3,g4⟩:=hE'.at_ k o hk
        have:b ∉ L:=fun hbl=>by rw [(hLD b hbl).2] at g4; cases g4
        exact ⟨b,c,g,g1,g2,by rw [hoff b this]; exact g3,hle.none g4⟩,hE'.inj⟩
       exact Qrg (a:={ tmps:=a'.tmps,defers:=[] }) (w:=w2) (fn:=fn) (Φ:=fun u H'=>∃ e',EnvX e e' A.nx A'.nx∧Dn e' v u∧Emb e' F A' H') hE2 ⟨hf'.size,hf'.get⟩ hs2 rfl hv fun u hu=>⟨e',hx,hu,hE2⟩
      rcases hex with rfl | rfl
      ·exact key
      ·exact key
     split at h <;> try (cases h; done)
     ·split at h <;> try (cases h; done)
      rename_i v hv
      injection h with h; subst h
      exact main v hv (.inl rfl)
     ·split at h <;> try (cases h; done)
      rename_i v hv
      injection h with h; subst h
      exact main v hv (.inr rfl)
  | code rd c n T=>
   unfold evF evCode evReg evThen evIf evBlk at h
   simp only [Qod] at h
   split at h <;> try (cases h; done)
   ·injection h with h; subst h
    exact ⟨OutE.refl _,fun ro hro e F H a w Q hE hf hs hfr hk=>wpIn_skip (hk a w e H F (Mk.refl _ _) (fun _ _=>rfl) hf hE hs)⟩
   ·injection h with h; subst h
    exact ⟨OutE.refl _,fun ro hro e F H a w Q hE hf hs hfr hk=>wpIn_label (hk a w e H F (Mk.refl _ _) (fun _ _=>rfl) hf hE hs)⟩
   ·rename_i id ops draw
    split at h <;> try (cases h; done)
    rename_i T' A' hr
    injection h with h; subst h
    cases draw with
    | true=>
     simp only [cond_true] at hr
     exact ⟨Qn2 hS hr,fun ro hro e F H a w Q hE hf hs hfr hk=>wpIn_region_any hm (QoF hS hr hE hf hs.drew hfr fun a' w' e' H' hx hf' hE' hs' hdf=>hk a' w' e' H' F (Mk.of_eq hdf) hx ⟨hf'.size,fun t v ht=>hf'.get t v (PT.flush_get ht)⟩ hE' hs')⟩
    | false=>
     simp only [cond_false] at hr
     refine ⟨Qjl hS hr,fun ro hro e F H a w Q hE hf hs hfr hk=>?_⟩
     have:=wpIn_region_lit (F:=FRo ro) (n:=0) (P:=P) (id:=id) (Q:=Q) (l:=ops.toList) (QmY (ops:=ops) hS hr ro e F H a w Q hE hf hs hfr fun a' w' e' H' hx hf' hE' hs' hdf=>hk a' w' e' H' F (Mk.of_eq hdf) hx ⟨hf'.size,fun t v ht=>hf'.get t v (PT.flush_get ht)⟩ hE' hs')
     simpa using this
   ·rename_i x y
    split at h <;> try (cases h; done)
    rename_i ex T' A' hr
    obtain ⟨ho,hcode⟩:=hS.ok _ _ _ hr
    split at h
    ·have h2:=hS.ok _ _ _ h
     cases r with
     | v v A2=>exact h2.elim
     | x ex2 T2 A2=>
      obtain ⟨ho2,hcode2⟩:=h2
      refine ⟨ho.trans ho2,fun ro hro e F H a w Q hE hf hs hfr hk=>wpIn_seq ?_⟩
      refine hcode ro hro e F H a w _ hE hf hs (hfr.left ho2.nx) fun a' w' e' H' F' hmk hx hf' hE' hs'=>?_
      exact hcode2 ro hro e' F' H' a' w' Q hE' hf' hs' (hfr.right hx ho.nx) fun a2 w2 e2 H2 F2 hmk2 hx2=>hk a2 w2 e2 H2 F2 (hmk.trans hmk2) (hx.trans hx2 ho.nx ho2.nx)
    ·rename_i hne
     injection h with h; subst h
     refine ⟨ho,fun ro hro e F H a w Q hE hf hs hfr hk=>wpIn_seq (hcode ro hro e F H a w _ hE hf hs hfr fun a' w' e' H' F' hmk hx hf' hE' hs'=>?_)⟩
     have:=hk a' w' e' H' F' hmk hx hf' hE' hs'
     cases ex with
     | nrm=>exact absurd rfl hne
     | ex i=>exact this
     | ret=>exact this
   ·rename_i x c1 c2
    split at h <;> try (cases h; done)
    rename_i t hx
    have h2:=hS.ok _ _ _ h
    cases r with
    | v v A2=>exact h2.elim
    | x ex2 T2 A2=>
     obtain ⟨ho,hcode⟩:=h2
     refine ⟨ho,fun ro hro e F H a w Q hE hf hs hfr hk=>?_⟩
     obtain ⟨_,g1,g2⟩:=Qs hf hx
     cases g2
     refine wpIn_cond (t:=t) (hf.fr.ev g1) ?_
     have:=hcode ro hro e F H a w Q hE hf hs hfr hk
     cases t
     ·simpa using this
     ·simpa using this
   ·rename_i id b
    split at h <;> try (cases h; done)
    rename_i ex T' A' hr
    obtain ⟨ho,hcode⟩:=hS.ok _ _ _ hr
    split at h
    ·rename_i i
     cases hi:Nat.beq i id with
     | true=>
      rw [hi] at h
      have hi:=Nat.eq_of_beq_eq_true hi
      subst hi
      simp only [cond_true,Option.some.injEq] at h
      subst h
      refine ⟨ho,fun ro hro e F H a w Q hE hf hs hfr hk=>wpIn_block (hcode ro hro e F H a w _ hE hf hs hfr fun a' w' e' H' F' hmk hx hf' hE' hs'=>?_)⟩
      have:=hk a' w' e' H' F' hmk hx hf' hE' hs'
      simp only [AEx.ex',Exit.inBlock,if_true]
      exact this
     | false=>
      rw [hi] at h
      have hi:=Nat.ne_of_beq_eq_false hi
      simp only [cond_false,Option.some.injEq] at h
      subst h
      refine ⟨ho,fun ro hro e F H a w Q hE hf hs hfr hk=>wpIn_block (hcode ro hro e F H a w _ hE hf hs hfr fun a' w' e' H' F' hmk hx hf' hE' hs'=>?_)⟩
      have:=hk a' w' e' H' F' hmk hx hf' hE' hs'
      simp only [AEx.ex',Exit.inBlock,if_neg hi]
      exact this
    ·rename_i hne
     injection h with h; subst h
     refine ⟨ho,fun ro hro e F H a w Q hE hf hs hfr hk=>wpIn_block (hcode ro hro e F H a w _ hE hf hs hfr fun a' w' e' H' F' hmk hx hf' hE' hs'=>?_)⟩
     have:=hk a' w' e' H' F' hmk hx hf' hE' hs'
     cases ex with
     | nrm=>exact this
     | ex i=>exact absurd rfl (hne i)
     | ret=>exact this
   ·rename_i b
    have h2:=hS.ok _ _ _ h
    cases r with
    | v v A2=>exact h2.elim
    | x ex2 T2 A2=>
     obtain ⟨ho,m,hl⟩:=h2
     exact ⟨ho,fun ro hro e F H a w Q hE hf hs hfr hk=>wpIn_loop_rounds m (hl ro hro e F H a w Q hE hf hs hfr hk)⟩
   ·injection h with h; subst h
    exact ⟨OutE.refl _,fun ro hro e F H a w Q hE hf hs hfr hk=>wpIn_exit (hk a w e H F (Mk.refl _ _) (fun _ _=>rfl) hf hE hs)⟩
   ·rename_i b
    have h2:=hS.ok _ _ _ h
    cases r with
    | v v A2=>exact h2.elim
    | x ex2 T2 A2=>
     obtain ⟨ho,hcode⟩:=h2
     refine ⟨ho,fun ro hro e F H a w Q hE hf hs hfr hk=>Qh8 (hcode ro hro e F H a w _ hE hf hs hfr fun a' w' e' H' F' hmk hx hf' hE' hs'=>?_)⟩
     have:=hk a' w' e' H' F' hmk hx hf' hE' hs'
     cases ex2 <;> exact this
   ·injection h with h; subst h
    exact ⟨OutE.refl _,fun ro hro e F H a w Q hE hf hs hfr hk=>wpIn_ret (hk a w e H F (Mk.refl _ _) (fun _ _=>rfl) hf hE hs)⟩
   ·cases rd with
    | true=>cases h
    | false=>exact QpN hS h
  | loop rd c n T=>
   unfold evF evAgain at h
   dsimp only at h
   split at h <;> try (cases h; done)
   rename_i ex T' A' hr
   obtain ⟨ho,hcode⟩:=hS.ok _ _ _ hr
   split at h
   ·have h2:=hS.ok _ _ _ h
    cases r with
    | v v A2=>exact h2.elim
    | x ex2 T2 A2=>
     obtain ⟨ho2,m,hl⟩:=h2
     refine ⟨ho.trans ho2,m+1,fun ro hro e F H a w Q hE hf hs hfr hk=>?_⟩
     refine hcode ro hro e F H a w _ hE hf hs (hfr.left ho2.nx) fun a' w' e' H' F' hmk hx hf' hE' hs'=>?_
     exact hl ro hro e' F' H' a' w' Q hE' hf' hs' (hfr.right hx ho.nx) fun a2 w2 e2 H2 F2 hmk2 hx2=>hk a2 w2 e2 H2 F2 (hmk.trans hmk2) (hx.trans hx2 ho.nx ho2.nx)
   ·rename_i hne
    injection h with h; subst h
    refine ⟨ho,1,fun ro hro e F H a w Q hE hf hs hfr hk=>hcode ro hro e F H a w _ hE hf hs hfr fun a' w' e' H' F' hmk hx hf' hE' hs'=>?_⟩
    have:=hk a' w' e' H' F' hmk hx hf' hE' hs'
    cases ex with
    | nrm=>exact absurd rfl hne
    | ex i=>exact this
    | ret=>exact this
 ·unfold evF evCall evFn evRes at h
  dsimp only at h
  split at h
  ·rename_i v A' hp
   exact (hP.ok _ _ _ _ _ hp).2.2
  ·split at h <;> try (cases h; done)
   rename_i fn hfn
   rw [QcZ] at hfn
   have hfn:P.funcs[f]? = some fn:=by simpa using hfn
   split at h <;> try (cases h; done)
   rename_i c T hc hT
   exact ⟨fn,hfn,by rw [hc]; rfl,hN f fn hfn⟩
def ev (P:Program) (I:Ids) (prim:FuncId→List AV→AS→Option (AV×AS)):Nat→Tk→AS→Option Rs
 | 0=>fun _ _=>none
 | k+1=>evF P I prim (ev P I prim k)
theorem QrE (hi : ∀ f, I.idx = some f → ExtOk P f Extern.BytealgIndexByte.indexByte) (hc : ∀ f, I.cnt = some f → ExtOk P f Extern.BytealgCount.count) (hP : PrimOk P C prim) (hN : ∀ (f : FuncId) (fn : Func), P.funcs[f]? = some fn → (fn.name == "runtime.NumGoroutine") = false) (hm : P.follows .mixedOrders = true) : ∀ k, SelfOk P C I (ev P I prim k)
 | 0=>⟨fun tk A r h=>(by simp [ev] at h),fun f args A r h=>(by simp [ev] at h),hi,hc⟩
 | k+1=>QrD (QrE hi hc hP hN hm k) hP hN hm
def isTrue:Option Rs→Bool
 | some (.v (.bool true) _)=>true
 | _=>false
def evTop (P:Program) (I:Ids) (prim:FuncId→List AV→AS→Option (AV×AS)) (k:Nat) (f:FuncId):Bool:=isTrue (ev P I prim k (.call f []) ⟨.lf,0,[],0⟩)
theorem QoH (hi : ∀ f, I.idx = some f → ExtOk P f Extern.BytealgIndexByte.indexByte) (hc : ∀ f, I.cnt = some f → ExtOk P f Extern.BytealgCount.count) (hP : PrimOk P C prim) (hN : ∀ (f : FuncId) (fn : Func), P.funcs[f]? = some fn → (fn.name == "runtime.NumGoroutine") = false) (hm : P.follows .mixedOrders = true) {k : Nat} {f : FuncId} (h : evTop P I prim k f = true) (H : Heap) :
 Spec P C f [] H (fun u H2=>u=.bool true∧H.le H2):=by
 unfold evTop isTrue at h
 split at h <;> try (cases h; done)
 rename_i A' hr
 obtain ⟨ho,hcl⟩:=(QrE hi hc hP hN hm k).ok _ _ _ hr
 refine (hcl (fun _=>none) H H [] .nil ⟨Heap.le.refl H,fun k o hk=>?_,fun k k' o o' b c c' hk=>?_⟩ (fun _ _ _=>rfl)).mono fun u H2 ⟨e',_,hd,hE⟩=>?_
 ·have:=(AS.at_lt hk).1; dsimp only at this; omega
 ·have:=(AS.at_lt hk).1; dsimp only at this; omega
 ·cases hd; exact ⟨rfl,hE.fle⟩
end
end
section
open Go
structure BIds where
 tb:TypeId
 te:TypeId
 wb:FuncId
 ws:FuncId
 st:FuncId
structure BldOk (P:Program) (C:Ctx) (I:BIds):Prop where
 wb:∀ (b:Nat) (bs:Str) (c:UInt8) (H:Heap) (Φ:Value→Heap→Prop),IsB I.tb I.te H b bs→bs.length+1≤140737488355328→Φ .nilIface (H.put b (.bld I.tb I.te (bs++[c])))→Spec P C I.wb [pv (some (b,0)),.int .u8 (c.toNat:Int)] H Φ
 ws:∀ (b:Nat) (bs s:Str) (H:Heap) (Φ:Value→Heap→Prop),IsB I.tb I.te H b bs→bs.length+s.length≤140737488355328→Φ (.tuple #[.int .i64 (s.length:Int),.nilIface]) (H.put b (.bld I.tb I.te (bs++s)))→Spec P C I.ws [pv (some (b,0)),sv s] H Φ
 st:∀ (b:Nat) (bs:Str) (H:Heap) (Φ:Value→Heap→Prop),IsB I.tb I.te H b bs→bs.length≤140737488355328→Φ (sv bs) (H.put b (.bld I.tb I.te bs))→Spec P C I.st [pv (some (b,0))] H Φ
 okb:CallOk P I.wb
 oks:CallOk P I.ws
 okt:CallOk P I.st
end
section
open Go
end
section
open Go
/-- a call that was evaluated by itself: what it looks at, and what it leaves -/
structure Memo where
 f:FuncId
 args:List AV
 pre:List (Nat×AO)
 nx:Nat
 v:AV
 post:List (Nat×AO)
 nx':Nat
 lo:Nat
end
section
open Go Go.Proofs
def chopA {α:Type} (z:Nat) (rd:List AV→Option α):Nat→List AV→Option (List α)
 | 0,[]=>some []
 | 0,_=>none
 | n + 1, cs => (match rd (cs.take z), chopA z rd n (cs.drop z) with
  | some a,some l=>some (a::l)
  | _,_=>none)
def rdSl {α:Type} (A:AS) (z:Nat) (rd:List AV→Option α):AV→Option (List α)
 | .sl p len (.n c)=>bif Nat.ble len 1000 && Nat.ble len c then (match A.slc p (len*z) with | some cs=>chopA z rd len cs | none=>none) else none
 | .sl p len (.s k d)=>bif Nat.ble len 1000 then (match A.slc p (len*z) with | some cs=>chopA z rd len cs | none=>none) else none
 | .emp=>some []
 | _=>none
section
variable {α β:Type} {R:α→β→Prop} {c:β→List Value} {e:Env} {F H:Heap} {A:AS} {z:Nat} {rd:List AV→Option α}
theorem Qnl (hr:∀ cs a us,rd cs=some a→Dns e cs us→∃ x,us=c x∧R a x):∀ (n:Nat) {cs:List AV} {l:List α} {us:List Value},chopA z rd n cs=some l→Dns e cs us→∃ xs:List β,us=xs.flatMap c∧xs.length=n∧l.length=n∧∀ (i:Nat) (v:α) (x:β),l[i]? = some v→xs[i]? = some x→R v x
 | 0,[],l,us,h,hd=>by
  simp only [chopA,Option.some.injEq] at h
  subst h; cases hd
  exact ⟨[],rfl,rfl,rfl,fun i v x hv=>by simp at hv⟩
 | 0,_::_,l,us,h,hd=>by simp [chopA] at h
 | n+1,cs,l,us,h,hd=>by
  simp only [chopA] at h
  split at h <;> try (cases h; done)
  rename_i a m ha hm
  injection h with h
  subst h
  obtain ⟨x,h1,h2⟩:=hr _ _ _ ha (hd.take z)
  obtain ⟨xs,h3,h4,h5,h6⟩:=Qnl hr n hm (hd.drop z)
  refine ⟨x::xs,?_,by simp [h4],by simp [h5],fun i v y hv hy=>?_⟩
  ·rw [List.flatMap_cons,← h1,← h3,List.take_append_drop]
  ·cases i with
   | zero=>simp at hv hy; subst hv; subst hy; exact h2
   | succ i=>exact h6 i v y (by simpa using hv) (by simpa using hy)
theorem Qcb (hE:Emb e F A H) (hr:∀ cs a us,rd cs=some a→Dns e cs us→∃ x,us=c x∧R a x) {a:AV} {l:List α} {u:Value} (h:rdSl A z rd a=some l) (hd:Dn e a u):∃ s:Sl,u=slv s∧SlIs R c H s l∧s.len≤s.cap:=by
 have key:∀ {p:Option (Nat×Nat)} {len:Nat} {cp:Cp} {s:Sl},SlD e p len cp s→Nat.ble len 1000=true→(match A.slc p (len*z) with | some cs=>chopA z rd len cs | none=>none)=some l→SlIs R c H s l:=fun {p len cp s} hs hb h=>by
  split at h <;> try (cases h; done)
  rename_i cs hcs
  obtain ⟨us,g1,g2,g3⟩:=hE.slc hs hcs
  obtain ⟨xs,rfl,h4,h5,h6⟩:=Qnl hr len h g2
  have:=Qf3 hb
  exact ⟨xs,g1,by rw [hs.ll,h4],by omega,by omega,h6⟩
 cases hd with
 | sl hs=>
  rename_i p len cp s
  cases cp with
  | n cc=>
   simp only [rdSl] at h
   cases hb:Nat.ble len 1000 && Nat.ble len cc with
   | false=>rw [hb] at h; cases h
   | true=>
    rw [hb] at h
    rw [Bool.and_eq_true] at hb
    refine ⟨_,rfl,key hs hb.1 h,?_⟩
    have h1:s.cap=cc:=hs.cc
    have:=Qf3 hb.2
    rw [hs.ll,h1]; exact this
  | s k d=>
   simp only [rdSl] at h
   cases hb:Nat.ble len 1000 with
   | false=>rw [hb] at h; cases h
   | true=>
    rw [hb] at h
    refine ⟨_,rfl,key hs hb h,?_⟩
    obtain ⟨b,cc,_,h1,h2⟩:=hs.cc
    rw [hs.ll,h1]; omega
 | emp he=>
  simp only [rdSl,Option.some.injEq] at h
  subst h
  exact ⟨_,rfl,⟨[],.inl rfl,he.1,rfl,by simp,fun i v x hv=>by simp at hv⟩,by rw [he.1]; omega⟩
 | _=>simp [rdSl] at h
end
def nmB (s:Str):Bool:=Nat.ble s.length 1000
theorem Qfz {s:Str} (h:nmB s=true):Nm s s:=⟨rfl,by have:=Qf3 h; omega⟩
/-- no list here may have an element -/
def noR {α:Type}:List AV→Option α:=fun _=>none
def rdFd (A:AS):List AV→Option FdV
 | [.str n,.str t,a]=>(match rdSl A 2 (noR (α:=TyV)) a with | some l=>bif nmB n && nmB t then some ⟨n,.mk t l⟩ else none | none=>none)
 | _=>none
def rdCn (A:AS):List AV→Option CnV
 | [.str n,f]=>(match rdSl A 3 (rdFd A) f with | some l=>bif nmB n then some ⟨n,l⟩ else none | none=>none)
 | _=>none
def rdStr:List AV→Option Str
 | [.str n]=>bif nmB n then some n else none
 | _=>none
def rdTd (A:AS):List AV→Option TdP
 | [.int .i64 a,.int .i64 b,.bool p,.str n,ps,cs]=>(match rdSl A 1 rdStr ps,rdSl A 2 (rdCn A) cs with | some ps,some cs=>bif nmB n then some ⟨(a,b),p,n,ps,cs⟩ else none | _,_=>none)
 | _=>none
def rdRd (A:AS):List AV→Option RdP
 | [.int .i64 a,.int .i64 b,.bool p,.bool i,.str n,f]=>(match rdSl A 3 (rdFd A) f with | some f=>bif nmB n then some ⟨(a,b),p,i,n,f⟩ else none | _=>none)
 | _=>none
def rdIm:List AV→Option ImP
 | [.int .i64 a,.int .i64 b,.str n]=>bif nmB n then some ⟨(a,b),n⟩ else none
 | _=>none
def rdEx (A:AS):List AV→Option ExP
 | [.int .u8 k, .int .i64 a, .int .i64 b, .str n, .int .u8 vk, .int .i64 vn, .str vs, vl, l] => (match rdSl A 4 (noR (α := V)) vl, rdSl A 9 (noR (α := ExP)) l with
  | some [],some []=>bif nmB n && (nmB vs && (decide (0≤vk) && (decide (vk≤255) && (decide (-9223372036854775808≤vn) && decide (vn≤9223372036854775807))))) then some (.mk (a,b) k n (.mk vk vn vs []) []) else none
  | _,_=>none)
 | _=>none
def rdLi (A:AS):List AV→Option LiP
 | [.int .u8 k,.int .i64 a,.int .i64 b,.str n,l]=>(match rdSl A 9 (rdEx A) l with | some l=>bif nmB n then some ⟨(a,b),k,n,l⟩ else none | none=>none)
 | _=>none
def rdRu (A:AS):List AV→Option RuP
 | [.int .i64 a,.int .i64 b,.str n,l,g,bd]=>(match rdSl A 9 (rdEx A) l,rdSl A 1 rdStr g,rdSl A 5 (rdLi A) bd with | some l,some g,some bd=>bif nmB n then some ⟨(a,b),n,l,g,bd⟩ else none | _,_,_=>none)
 | _=>none
def rdNe (A:AS):List AV→Option NeP
 | [.int .i64 a,.int .i64 b,.str n,bd]=>(match rdSl A 5 (rdLi A) bd with | some bd=>bif nmB n then some ⟨(a,b),n,bd⟩ else none | _=>none)
 | _=>none
def rdMo (A:AS):List AV→Option MoP
 | [.str n, im, ty, re, ru, ne] => (match rdSl A 3 rdIm im, rdSl A 6 (rdTd A) ty, rdSl A 6 (rdRd A) re, rdSl A 6 (rdRu A) ru, rdSl A 4 (rdNe A) ne with
  | some im,some ty,some re,some ru,some ne=>bif nmB n then some ⟨n,im,ty,re,ru,ne⟩ else none
  | _,_,_,_,_=>none)
 | _=>none
section
variable {e:Env} {F H:Heap} {A:AS}
theorem QoY {α β:Type} {R:α→β→Prop} {c:β→List Value}:∀ (cs:List AV) (a:α) (us:List Value),noR cs=some a→Dns e cs us→∃ x,us=c x∧R a x:=fun _ _ _ h=>by cases h
theorem QnK:∀ cs a us,rdStr cs=some a→Dns e cs us→∃ x:Str,us=[sv x]∧Nm x a:=fun cs a us h hd=>by
 unfold rdStr at h
 split at h <;> try (cases h; done)
 rename_i n
 cases hb:nmB n with
 | false=>rw [hb] at h; cases h
 | true=>
  rw [hb] at h; injection h with h; subst h
  cases hd with
  | cons d1 hd=>
  cases hd; cases d1
  exact ⟨_,rfl,Qfz hb⟩
theorem Qq8:∀ cs a us,rdIm cs=some a→Dns e cs us→∃ x,us=Qn.c x∧IpIs a x:=fun cs a us h hd=>by
 unfold rdIm at h
 split at h <;> try (cases h; done)
 rename_i a b n
 cases hb:nmB n with
 | false=>rw [hb] at h; cases h
 | true=>
  rw [hb] at h; injection h with h; subst h
  cases hd with
  | cons d1 hd=>
  cases hd with
  | cons d2 hd=>
  cases hd with
  | cons d3 hd=>
  cases hd; cases d1; cases d2; cases d3
  exact ⟨⟨⟨a,b⟩,n⟩,rfl,rfl,Qfz hb⟩
variable (hE:Emb e F A H)
include hE
theorem Qpf:∀ cs a us,rdFd A cs=some a→Dns e cs us→∃ x,us=Qf.c x∧FdIs H a x:=fun cs a us h hd=>by
 unfold rdFd at h
 split at h <;> try (cases h; done)
 rename_i n t a
 split at h <;> try (cases h; done)
 rename_i l hl
 cases hb:nmB n && nmB t with
 | false=>rw [hb] at h; cases h
 | true=>
  rw [hb] at h; injection h with h; subst h
  rw [Bool.and_eq_true] at hb
  cases hd with
  | cons d1 hd=>
  cases hd with
  | cons d2 hd=>
  cases hd with
  | cons d3 hd=>
  cases hd; cases d1; cases d2
  obtain ⟨s,rfl,hs,_⟩:=Qcb (R:=TyIs H) (c:=Qd.c) hE QoY hl d3
  exact ⟨⟨n,⟨t,s⟩⟩,rfl,Qfz hb.1,QeI.2 ⟨Qfz hb.2,hs⟩⟩
theorem Qq7:∀ cs a us,rdCn A cs=some a→Dns e cs us→∃ x,us=Qc.c x∧CnIs H a x:=fun cs a us h hd=>by
 unfold rdCn at h
 split at h <;> try (cases h; done)
 rename_i n a
 split at h <;> try (cases h; done)
 rename_i l hl
 cases hb:nmB n with
 | false=>rw [hb] at h; cases h
 | true=>
  rw [hb] at h; injection h with h; subst h
  cases hd with
  | cons d1 hd=>
  cases hd with
  | cons d2 hd=>
  cases hd; cases d1
  obtain ⟨s,rfl,hs,_⟩:=Qcb hE (Qpf hE) hl d2
  exact ⟨⟨n,s⟩,rfl,Qfz hb,hs⟩
theorem Qrd:∀ cs a us,rdTd A cs=some a→Dns e cs us→∃ x,us=Qb.c x∧TpIs H a x:=fun cs a us h hd=>by
 unfold rdTd at h
 split at h <;> try (cases h; done)
 rename_i a b p n ps cs
 split at h <;> try (cases h; done)
 rename_i ps' cs' h1 h2
 cases hb:nmB n with
 | false=>rw [hb] at h; cases h
 | true=>
  rw [hb] at h; injection h with h; subst h
  cases hd with
  | cons d1 hd=>
  cases hd with
  | cons d2 hd=>
  cases hd with
  | cons d3 hd=>
  cases hd with
  | cons d4 hd=>
  cases hd with
  | cons d5 hd=>
  cases hd with
  | cons d6 hd=>
  cases hd; cases d1; cases d2; cases d3; cases d4
  obtain ⟨s,rfl,hs,hc⟩:=Qcb (R:=fun (v:Str) (x:Str)=>Nm x v) (c:=fun x=>[sv x]) hE QnK h1 d5
  obtain ⟨t,rfl,ht,_⟩:=Qcb hE (Qq7 hE) h2 d6
  exact ⟨⟨⟨a,b⟩,p,n,s,t⟩,rfl,rfl,rfl,Qfz hb,⟨hs,hc⟩,ht⟩
theorem Qrb:∀ cs a us,rdRd A cs=some a→Dns e cs us→∃ x,us=Qg.c x∧RpIs H a x:=fun cs a us h hd=>by
 unfold rdRd at h
 split at h <;> try (cases h; done)
 rename_i a b p i n f
 split at h <;> try (cases h; done)
 rename_i f' h1
 cases hb:nmB n with
 | false=>rw [hb] at h; cases h
 | true=>
  rw [hb] at h; injection h with h; subst h
  cases hd with
  | cons d1 hd=>
  cases hd with
  | cons d2 hd=>
  cases hd with
  | cons d3 hd=>
  cases hd with
  | cons d4 hd=>
  cases hd with
  | cons d5 hd=>
  cases hd with
  | cons d6 hd=>
  cases hd; cases d1; cases d2; cases d3; cases d4; cases d5
  obtain ⟨s,rfl,hs,_⟩:=Qcb hE (Qpf hE) h1 d6
  exact ⟨⟨⟨a,b⟩,p,i,n,s⟩,rfl,rfl,rfl,rfl,Qfz hb,hs⟩
theorem Qpe:∀ cs a us,rdEx A cs=some a→Dns e cs us→∃ x,us=Qh.c x∧EpIs H a x:=fun cs a us h hd=>by
 unfold rdEx at h
 split at h <;> try (cases h; done)
 rename_i k a b n vk vn vs vl l
 split at h <;> try (cases h; done)
 rename_i h1 h2
 cases hb:nmB n && (nmB vs && (decide (0≤vk) && (decide (vk≤255) && (decide (-9223372036854775808≤vn) && decide (vn≤9223372036854775807))))) with
 | false=>rw [hb] at h; cases h
 | true=>
  rw [hb] at h; injection h with h; subst h
  simp only [Bool.and_eq_true,decide_eq_true_eq] at hb
  obtain ⟨b1,b2,b3,b4,b5,b6⟩:=hb
  cases hd with
  | cons d1 hd=>
  cases hd with
  | cons d2 hd=>
  cases hd with
  | cons d3 hd=>
  cases hd with
  | cons d4 hd=>
  cases hd with
  | cons d5 hd=>
  cases hd with
  | cons d6 hd=>
  cases hd with
  | cons d7 hd=>
  cases hd with
  | cons d8 hd=>
  cases hd with
  | cons d9 hd=>
  cases hd; cases d1; cases d2; cases d3; cases d4; cases d5; cases d6; cases d7
  obtain ⟨s,rfl,hs,_⟩:=Qcb (R:=VIs H) (c:=Qm.c) hE QoY h1 d8
  obtain ⟨t,rfl,ht,_⟩:=Qcb (R:=EpIs H) (c:=Qh.c) hE QoY h2 d9
  have h0:VRow H s []:=by
   have:=hs.len
   exact ⟨[],.inl rfl,this,trivial⟩
  exact ⟨⟨k,⟨a,b⟩,n,⟨vk,vn,vs,s⟩,t⟩,rfl,Qhp.2 ⟨rfl,rfl,Qfz b1,QgN.2 ⟨rfl,rfl,rfl,h0⟩,⟨⟨b3,b4⟩,⟨b5,b6⟩,(Qfz b2).2,by simp,trivial⟩,ht⟩⟩
theorem Qpg:∀ cs a us,rdLi A cs=some a→Dns e cs us→∃ x,us=Qk.c x∧LpIs H a x:=fun cs a us h hd=>by
 unfold rdLi at h
 split at h <;> try (cases h; done)
 rename_i k a b n l
 split at h <;> try (cases h; done)
 rename_i l' h1
 cases hb:nmB n with
 | false=>rw [hb] at h; cases h
 | true=>
  rw [hb] at h; injection h with h; subst h
  cases hd with
  | cons d1 hd=>
  cases hd with
  | cons d2 hd=>
  cases hd with
  | cons d3 hd=>
  cases hd with
  | cons d4 hd=>
  cases hd with
  | cons d5 hd=>
  cases hd; cases d1; cases d2; cases d3; cases d4
  obtain ⟨s,rfl,hs,_⟩:=Qcb hE (Qpe hE) h1 d5
  exact ⟨⟨k,⟨a,b⟩,n,s⟩,rfl,rfl,rfl,Qfz hb,hs⟩
theorem Qrc:∀ cs a us,rdRu A cs=some a→Dns e cs us→∃ x,us=Qi.c x∧UpIs H a x:=fun cs a us h hd=>by
 unfold rdRu at h
 split at h <;> try (cases h; done)
 rename_i a b n l g bd
 split at h <;> try (cases h; done)
 rename_i l' g' bd' h1 h2 h3
 cases hb:nmB n with
 | false=>rw [hb] at h; cases h
 | true=>
  rw [hb] at h; injection h with h; subst h
  cases hd with
  | cons d1 hd=>
  cases hd with
  | cons d2 hd=>
  cases hd with
  | cons d3 hd=>
  cases hd with
  | cons d4 hd=>
  cases hd with
  | cons d5 hd=>
  cases hd with
  | cons d6 hd=>
  cases hd; cases d1; cases d2; cases d3
  obtain ⟨s,rfl,hs,_⟩:=Qcb hE (Qpe hE) h1 d4
  obtain ⟨t,rfl,ht,_⟩:=Qcb (R:=fun (v:Str) (x:Str)=>Nm x v) (c:=fun x=>[sv x]) hE QnK h2 d5
  obtain ⟨r,rfl,hr,_⟩:=Qcb hE (Qpg hE) h3 d6
  exact ⟨⟨⟨a,b⟩,n,s,t,r⟩,rfl,rfl,Qfz hb,hs,ht,hr⟩
theorem Qra:∀ cs a us,rdNe A cs=some a→Dns e cs us→∃ x,us=Ql.c x∧NpIs H a x:=fun cs a us h hd=>by
 unfold rdNe at h
 split at h <;> try (cases h; done)
 rename_i a b n bd
 split at h <;> try (cases h; done)
 rename_i bd' h1
 cases hb:nmB n with
 | false=>rw [hb] at h; cases h
 | true=>
  rw [hb] at h; injection h with h; subst h
  cases hd with
  | cons d1 hd=>
  cases hd with
  | cons d2 hd=>
  cases hd with
  | cons d3 hd=>
  cases hd with
  | cons d4 hd=>
  cases hd; cases d1; cases d2; cases d3
  obtain ⟨s,rfl,hs,_⟩:=Qcb hE (Qpg hE) h1 d4
  exact ⟨⟨⟨a,b⟩,n,s⟩,rfl,rfl,Qfz hb,hs⟩
theorem Qq9:∀ cs a us,rdMo A cs=some a→Dns e cs us→∃ x,us=Qa.c x∧MpIs H a x:=fun cs a us h hd=>by
 unfold rdMo at h
 split at h <;> try (cases h; done)
 rename_i n im ty re ru ne
 split at h <;> try (cases h; done)
 rename_i im' ty' re' ru' ne' h1 h2 h3 h4 h5
 cases hb:nmB n with
 | false=>rw [hb] at h; cases h
 | true=>
  rw [hb] at h; injection h with h; subst h
  cases hd with
  | cons d1 hd=>
  cases hd with
  | cons d2 hd=>
  cases hd with
  | cons d3 hd=>
  cases hd with
  | cons d4 hd=>
  cases hd with
  | cons d5 hd=>
  cases hd with
  | cons d6 hd=>
  cases hd; cases d1
  obtain ⟨s1,rfl,hs1,hc⟩:=Qcb (R:=IpIs) (c:=Qn.c) hE Qq8 h1 d2
  obtain ⟨s2,rfl,hs2,_⟩:=Qcb hE (Qrd hE) h2 d3
  obtain ⟨s3,rfl,hs3,_⟩:=Qcb hE (Qrb hE) h3 d4
  obtain ⟨s4,rfl,hs4,_⟩:=Qcb hE (Qrc hE) h4 d5
  obtain ⟨s5,rfl,hs5,_⟩:=Qcb hE (Qra hE) h5 d6
  exact ⟨⟨n,s1,s2,s3,s4,s5⟩,rfl,Qfz hb,⟨hs1,hc⟩,hs2,hs3,hs4,hs5⟩
end
def nilA:AV:=.sl none 0 (.n 0)
theorem QjX {e:Env}:Dn e nilA (slv Sl.nil):=.sl ⟨rfl,rfl,rfl,rfl⟩
def moA0:AV:=.agg [.str [],nilA,nilA,nilA,nilA,nilA]
def whA (w:Str×Pl×Int):AV:=.agg [.str w.1,.int .i64 w.2.1.1,.int .i64 w.2.1.2]
def rtA (w:Str×Pl×Int):AV:=.tup [moA0,whA w,.int .i64 w.2.2]
def modPrim (fl aw:Nat) (f:FuncId) (args:List AV) (A:AS):Option (AV×AS):=
 bif Nat.beq f fl then (match args with
  | [a] => (match rdSl A 6 (rdMo A) a with
   | some l=>bif l.all fun m=>Nat.ble (moD m.e) 1000000 then (match flatF l with | .error w=>some (rtA w,A) | .ok _=>none) else none
   | none=>none)
  | _=>none)
 else bif Nat.beq f aw then (match args with | []=>some (.bool true,A) | _=>none) else none
structure ModOk (P:Program) (C:Ctx) (fl aw:Nat):Prop where
 fl:CallOk P fl∧∀ (l:List MoP) (s:Sl) (w:Str×Pl×Int) (H:Heap) (Φ:Value→Heap→Prop),MpL H s l→(∀ m ∈ l,moD m.e≤4611686018427387904)→flatF l=.error w→(∀ D,H.le D→Φ (.tuple #[.agg (Qa.c Qa.zero).toArray,.agg (Qe.c ⟨w.1,psP w.2.1⟩).toArray,.int .i64 w.2.2]) D)→Spec P C fl [slv s] H Φ
 aw:CallOk P aw∧∀ (H:Heap) (Φ:Value→Heap→Prop),(∀ D,H.le D→Φ (.bool true) D)→Spec P C aw [] H Φ
theorem Emb.up3 {e:Env} {F H H2:Heap} {A:AS} (h:Emb e F A H) (hle:H.le H2):Emb e F A H2:=
 ⟨h.fle.trans hle,fun k o hk=>by
  obtain ⟨b,c,g,h1,h2,h3,h4⟩:=h.at_ k o hk
  exact ⟨b,c,g,h1,h2,hle _ _ h3,h4⟩,h.inj⟩
theorem QrL {P:Program} {C:Ctx} {fl aw:Nat} (hM:ModOk P C fl aw):PrimOk P C (modPrim fl aw):=⟨fun f args A r A' h=>by
 unfold modPrim at h
 cases h1:Nat.beq f fl with
 | true=>
  rw [h1] at h
  have:=Nat.eq_of_beq_eq_true h1
  subst this
  simp only [cond_true] at h
  split at h <;> try (cases h; done)
  rename_i a
  split at h <;> try (cases h; done)
  rename_i l hl
  cases hb:l.all fun m=>Nat.ble (moD m.e) 1000000 with
  | false=>rw [hb] at h; cases h
  | true=>
   rw [hb] at h
   simp only [cond_true] at h
   split at h <;> try (cases h; done)
   rename_i w hw
   injection h with h; injection h with h2 h3; subst h2; subst h3
   refine ⟨OutE.refl _,fun e F H us hd hE hfr=>?_,hM.fl.1⟩
   cases hd with
   | cons d1 d2=>
   cases d2
   obtain ⟨s,rfl,hs,_⟩:=Qcb hE (Qq9 hE) hl d1
   refine hM.fl.2 l s w H _ hs (fun m hm=>by have:=Qf3 (List.all_eq_true.1 hb m hm); omega) hw fun D hD=>⟨e,EnvX.refl _ _ _,?_,hE.up3 hD⟩
   exact .tup (.cons (.agg (.cons (.str _) (.cons QjX (.cons QjX (.cons QjX (.cons QjX (.cons QjX .nil))))))) (.cons (.agg (.cons (.str _) (.cons (.int ..) (.cons (.int ..) .nil)))) (.cons (.int ..) .nil)))
 | false=>
 rw [h1] at h
 simp only [cond_false] at h
 cases h2:Nat.beq f aw with
 | true=>
  rw [h2] at h
  have:=Nat.eq_of_beq_eq_true h2
  subst this
  simp only [cond_true] at h
  split at h <;> try (cases h; done)
  injection h with h; injection h with h2 h3; subst h2; subst h3
  refine ⟨OutE.refl _,fun e F H us hd hE hfr=>?_,hM.aw.1⟩
  cases hd
  exact hM.aw.2 H _ fun D hD=>⟨e,EnvX.refl _ _ _,.bool _,hE.up3 hD⟩
 | false=>rw [h2] at h; cases h⟩
end
section
open Go Go.Proofs
theorem xMod {C:Ctx} (hT:MaxC C):ModOk Tryz.prog C 12 13 where
 fl:=⟨QfA,fun l s w H Φ hs hd hw hΦ=>Spec.mono (QkO (K:=fun r r2 r3 D=>Φ (.tuple #[.agg (Qa.c r).toArray,.agg (Qe.c r2).toArray,.int .i64 r3]) D) hT hs (Heap.le.refl _) hd (fun D B W bo q o ho=>by rw [hw] at ho; cases ho) (fun D e he hl=>by rw [hw] at he; injection he with he; subst he; exact hΦ D hl)) fun u H2 ⟨r,r2,r3,e,hk⟩=>by rw [e]; exact hk⟩
 aw:=⟨QkD,fun H Φ hΦ=>Spec.mono (QpC (K:=fun r D=>Φ (.bool r) D) hT fun D hD=>hΦ D hD) fun u H2 ⟨r,e,hk⟩=>by rw [e]; exact hk⟩
def yNamesIds:Ids:=⟨99999,99999,(some 253),none,99999⟩
set_option maxRecDepth 1000000 in
theorem yNamesTrue:evTop Tryz.prog yNamesIds (modPrim 12 13) 100000 3=true:=by kernel_rfl
theorem yNamesNo : (Tryz.prog.funcs.toList.all fun fn => !(fn.name == "runtime.NumGoroutine")) = true := by kernel_rfl
theorem yNamesFol:Tryz.prog.follows .mixedOrders=true:=by kernel_rfl
theorem yNamesIdx:∀ f,yNamesIds.idx=some f→ExtOk Tryz.prog f Extern.BytealgIndexByte.indexByte:=fun f h=>by
 cases h; exact ⟨⟨_,Tryz.func253,by kernel_rfl,by kernel_rfl,by kernel_rfl,by kernel_rfl⟩⟩
theorem yNamesCnt:∀ f,yNamesIds.cnt=some f→ExtOk Tryz.prog f Extern.BytealgCount.count:=fun f h=>by
 cases h
theorem yNamesNoR : ∀ (f : FuncId) (fn : Func), Tryz.prog.funcs[f]? = some fn → (fn.name == "runtime.NumGoroutine") = false := fun f fn h => by
 have h1:=List.all_eq_true.1 yNamesNo fn (by
  rw [← Array.getElem?_toList] at h
  exact List.mem_of_getElem? h)
 simpa using h1
theorem Qkl {C:Ctx} (hT:MaxC C) {K:Bool→Heap→Prop} {H:Heap} (k:∀ H2,H.le H2→K true H2):QbE C K H:=
 (QoH yNamesIdx yNamesCnt (QrL (xMod hT)) yNamesNoR yNamesFol yNamesTrue H).mono fun u H2 ⟨hu,hle⟩=>⟨true,hu,k H2 hle⟩
end
section
open Go Go.Proofs
theorem Qjn {C:Ctx} {H:Heap} (hT:MaxC C):QbE C (fun r _=>r=true) H:=Qkl hT fun _ _=>rfl
end
end Sx
end
noncomputable section

end

