/-
  Texts of this family, one behind the other: Sh, FmtI, CntJ, ValQ, ValU, ValP1, ValP2, ValP3, ValP4, ValP5, ValR, ValW, ShowQ, BldB, ShowP, TreeI, TreeV, TreeE, TreeT1, TreeN, TreeG, TreeC1, TreeC2, TreeC3, TreeW1, TreeW2, TreeW3, TreeB.
-/
import Derived.Test.YtmeefnmaphmpkaaGreatDoorBF3
import Derived.Test.YtmeefnmaphmpkaaGreatDoorBF4
import Derived.Test.YtmeefnmaphmpkaaGreatDoorBF5
import Derived.Test.YtmeefnmaphmpkaaGreatDoorBF6
import Derived.Test.YtmeefnmaphmpkaaGreatDoorBF7
import Derived.Test.YtmeefnmaphmpkaaGreatDoorBF8
import Derived.Test.YtmeefnmaphmpkaaGreatDoorBF9
import Derived.Test.YtmeefnmaphmpkaaGreatDoorBF10
import Derived.Test.YtmeefnmaphmpkaaGreatDoorBF11
import Derived.Test.YtmeefnmaphmpkaaGreatDoorBF12
import Derived.Test.YtmeefnmaphmpkaaGreatDoorBF13
import Derived.Test.YtmeefnmaphmpkaaGreatDoorBF14
import Derived.Test.YtmeefnmaphmpkaaGreatDoorBF15
import Derived.Test.YtmeefnmaphmpkaaGreatDoorBF16
import Derived.Test.YtmeefnmaphmpkaaGreatDoorBF17
import Derived.Test.YtmeefnmaphmpkaaGreatDoorBF18
import Derived.Test.YtmeefnmaphmpkaaGreatDoorBF19
import Derived.Test.YtmeefnmaphmpkaaGreatDoorBF20
import Derived.Shelf.Strconv.Itoa4
import Derived.Shelf.Strings.Search3
import Derived.Shelf.Vars
import Derived.Lib.ItoaNum
import Derived.Lib.ItoaLen
import Derived.Lib.IndexMore
noncomputable section
set_option linter.unusedVariables false
set_option linter.unusedSimpArgs false
set_option maxRecDepth 10000
namespace Sx
section
set_option maxRecDepth 100000
set_option maxHeartbeats 4000000
open Go Go.Proofs
def Qc2 (C:Ctx) (a:Option (Nat×Nat)) (b:Int) (K:Bool→HP) (H:Heap):Prop:=
 nck a fun c=>
 ixr c 256 b <|
 ldB H (c.1,c.2+b.toNat*1) fun d=>
 K d H
theorem QgD (C a b K H) (h:Qc2 C a b K H):QaR C a b K H:=AE h Tryz.func278 rfl Tryz.ntmps278
end
end Sx
end
noncomputable section
set_option linter.unusedVariables false
namespace Go.Proofs
open Go.Shelf
def Tryz.lays173_ren:Go.Shelf.Ren:=⟨fun | 173=>234 | 246=>249 | 283=>257 | 284=>258 | 285=>259 | 286=>260 | 129=>264 | 317=>263 | 318=>265 | 319=>266 | 320=>267 | 337=>276 | 338=>277 | n=>n,fun | 2=>2 | 3=>3 | 9=>9 | 4=>4 | 171=>283 | 0=>0 | 53=>284 | 37=>87 | 5=>5 | 173=>287 | 212=>291 | 51=>277 | 20=>20 | 213=>292 | 46=>80 | 232=>306 | 233=>307 | n=>n,fun | 17=>1 | 18=>2 | 19=>3 | n=>n⟩
theorem Tryz.lays173:Go.Proofs.LaysM.n173 Tryz.prog Tryz.lays173_ren:={
 mixed:=by kernel_rfl
 f129:=Tryz.func264.trans (congrArg some (by kernel_rfl))
 f173:=Tryz.func234.trans (congrArg some (by kernel_rfl))
 f246:=Tryz.func249.trans (congrArg some (by kernel_rfl))
 f283:=Tryz.func257.trans (congrArg some (by kernel_rfl))
 f284:=Tryz.func258.trans (congrArg some (by kernel_rfl))
 f285:=Tryz.func259.trans (congrArg some (by kernel_rfl))
 f286:=Tryz.func260.trans (congrArg some (by kernel_rfl))
 f317:=Tryz.func263.trans (congrArg some (by kernel_rfl))
 f318:=Tryz.func265.trans (congrArg some (by kernel_rfl))
 f319:=Tryz.func266.trans (congrArg some (by kernel_rfl))
 f320:=Tryz.func267.trans (congrArg some (by kernel_rfl))
 f337:=Tryz.func276.trans (congrArg some (by kernel_rfl))
 f338:=Tryz.func277.trans (congrArg some (by kernel_rfl))
 t0:=Tryz.underlying0
 a0:=Tryz.isAgg0
 z0:=Tryz.sizeOf0
 v0:=Tryz.zeroValue0
 t2:=Tryz.underlying2
 a2:=Tryz.isAgg2
 z2:=Tryz.sizeOf2
 v2:=Tryz.zeroValue2
 t3:=Tryz.underlying3
 a3:=Tryz.isAgg3
 z3:=Tryz.sizeOf3
 v3:=Tryz.zeroValue3
 t4:=Tryz.underlying4
 a4:=Tryz.isAgg4
 z4:=Tryz.sizeOf4
 v4:=Tryz.zeroValue4
 t5:=Tryz.underlying5
 a5:=Tryz.isAgg5
 z5:=Tryz.sizeOf5
 v5:=Tryz.zeroValue5
 t9:=Tryz.underlying9
 a9:=Tryz.isAgg9
 z9:=Tryz.sizeOf9
 v9:=Tryz.zeroValue9
 t20:=Tryz.underlying20
 a20:=Tryz.isAgg20
 z20:=Tryz.sizeOf20
 v20:=Tryz.zeroValue20
 t37:=Tryz.underlying87
 a37:=Tryz.isAgg87
 z37:=Tryz.sizeOf87
 v37:=Tryz.zeroValue87
 t46:=Tryz.underlying80
 a46:=Tryz.isAgg80
 z46:=Tryz.sizeOf80
 v46:=Tryz.zeroValue80
 t51:=Tryz.underlying277
 a51:=Tryz.isAgg277
 z51:=Tryz.sizeOf277
 v51:=Tryz.zeroValue277
 t53:=Tryz.underlying284
 a53:=Tryz.isAgg284
 z53:=Tryz.sizeOf284
 v53:=Tryz.zeroValue284
 t171:=Tryz.underlying283
 a171:=Tryz.isAgg283
 z171:=Tryz.sizeOf283
 v171:=Tryz.zeroValue283
 t173:=Tryz.underlying287
 a173:=Tryz.isAgg287
 z173:=Tryz.sizeOf287
 v173:=Tryz.zeroValue287
 t212:=Tryz.underlying291
 a212:=Tryz.isAgg291
 z212:=Tryz.sizeOf291
 v212:=Tryz.zeroValue291
 t213:=Tryz.underlying292
 a213:=Tryz.isAgg292
 z213:=Tryz.sizeOf292
 t232:=Tryz.underlying306
 a232:=Tryz.isAgg306
 z232:=Tryz.sizeOf306
 v232:=Tryz.zeroValue306
 t233:=Tryz.underlying307
 a233:=Tryz.isAgg307
 z233:=Tryz.sizeOf307
 v233:=Tryz.zeroValue307
 g17:=by kernel_rfl
 g18:=by kernel_rfl
 g19:=by kernel_rfl
 i0:=by kernel_rfl
 i2:=by kernel_rfl
 i3:=by kernel_rfl
 i4:=by kernel_rfl
 i5:=by kernel_rfl
 i9:=by kernel_rfl
 i20:=by kernel_rfl
 i37:=by kernel_rfl
 i46:=by kernel_rfl
 i51:=by kernel_rfl
 i53:=by kernel_rfl
 i171:=by kernel_rfl
 i173:=by kernel_rfl
 i212:=by kernel_rfl
 i232:=by kernel_rfl
 i233:=by kernel_rfl
 m17:=by kernel_rfl
 m18:=by kernel_rfl
 m19:=by kernel_rfl }
end Go.Proofs
namespace Sx
open Go Go.Proofs Go.Stop Go.RowKit
def PowT (C:Ctx):Prop:=∃ t fr,C.old[(Tryz.lays173_ren.g 17)]? = some (.cells (Lib.pow10Tab.map fun z=>Value.int .u64 z).toArray t fr)
structure FmtC (C:Ctx):Prop where
 ok:∀ {n:Int} {H:Heap} {K:Str→HP},-9223372036854775808≤n→n≤9223372036854775807→K (Lib.itoa n) H→QgV C n 10 K H
theorem St.more {C:Ctx} {w:World} {H:Heap} (h:St C w H) (o:Obj):St C { w with heap:=w.heap.push o } H:=by
 by_cases hc:∃ c t b,o=.cells c t b
 ·obtain ⟨c,t,b,rfl⟩:=hc
  exact (h.push (o:=.cells c t b) (m:=false) (g:=.row c.toList) ⟨by simp,fun h=>by cases h⟩).weaken (Xc h.fresh)
 ·exact (h.push (o:=o) (m:=false) (g:=.obj o) ⟨rfl,fun c t b e=>hc ⟨c,t,b,e⟩⟩).weaken (Xc h.fresh)
theorem Xaj {C:Ctx} {H:Heap}:∀ (b:List Obj) {w:World},St C w H→St C { w with heap:=w.heap++b.toArray } H
 | [],w,h=>by
  have e:w.heap++([]:List Obj).toArray=w.heap:=by simp
  rw [e]; exact h
 | o::b,w,h=>by
  have e:w.heap++(o::b).toArray=w.heap.push o++b.toArray:=by apply Array.ext'; simp
  have:=Xaj b (h.more o)
  rw [e]; exact this
theorem St.drewN {C:Ctx} {H:Heap} {w:World} (h:St C w H):∀ k,St C (w.drewN k) H
 | 0=>h
 | k+1=>(St.drewN h k).drew
theorem QxO {C:Ctx} (h:PowT C):FmtC C:=⟨fun {n H K} h0 g k=>by
 intro w f
 obtain ⟨t,m,hg⟩:=h
 have b:=(Array.getElem?_eq_some_iff.1 hg).1
 refine (Any.strconv_FormatInt_10 Tryz.lays173 n h0 g w ?_).mono ?_
 ·unfold Lib.TabIs World.var?
  rw [Tryz.lays173.m17]
  simp only [Option.bind_some]
  rw [f.old _ b,hg]
 ·rintro e o ⟨rfl,i,j,rfl⟩
  have d:=Xaj j.toList (f.drewN i)
  rw [Array.toArray_toList] at d
  exact ⟨_,H,rfl,d,⟨_,rfl,k⟩⟩⟩
theorem Qtg {W:World} {b:String} (hg:P0.globalNamed b=some (Tryz.lays173_ren.g 17)):∀ (i:Nat) {l:List (String×DataW Unit)} {ps:List MemPlace},DataW.LaidVars P0 W l ps→l[i]? = some (b,Lib.tabData .u64 Lib.pow10Tab)→PowT (ctxOf W)
 | _,[],ps,_,hi=>by simp at hi
 | 0,(n,d)::r,ps,⟨g,t,cs,fuel,p,q,h1,h2,h3,h4,h5,h6⟩,hi=>by
  simp only [List.getElem?_cons_zero,Option.some.injEq,Prod.mk.injEq] at hi
  obtain ⟨rfl,rfl⟩:=hi
  obtain rfl:=Option.some.inj (hg.symm.trans h1)
  have h:(P0.globals[(Tryz.lays173_ren.g 17)]?).map (·.type)=some 291:=by kernel_rfl
  obtain rfl:=Option.some.inj (h.symm.trans h2)
  have j:=Lib.cells_of_tab Tryz.underlying291 Tryz.underlying284 (by kernel_rfl) (by kernel_rfl) h4
  unfold World.var? at h3
  rw [h1] at h3
  simp only [Option.bind_some] at h3
  cases hb:W.heap[(Tryz.lays173_ren.g 17)]? with
  | none=>rw [hb] at h3; cases h3
  | some o=>
   rw [hb] at h3
   cases o <;> simp only [reduceCtorEq,Option.some.injEq] at h3
   rename_i c ty f
   subst h3
   refine ⟨ty,f,?_⟩
   show W.heap[(Tryz.lays173_ren.g 17)]? = _
   rw [hb,← j]
 | i+1,(n,d)::r,ps,⟨g,t,cs,fuel,p,q,h1,h2,h3,h4,h5,h6⟩,hi=>Qtg hg i h5 (by simpa using hi)
theorem Qxh {W:World} {b:String} {l:List (String×DataW Unit)} (h:laidMet P0 l W) (i:Nat) (hi:l[i]? = some (b,Lib.tabData .u64 Lib.pow10Tab)) (hg:P0.globalNamed b=some (Tryz.lays173_ren.g 17)):PowT (ctxOf W):=by
 obtain ⟨ps,d,_⟩:=h
 exact Qtg hg i d hi
end Sx
end

noncomputable section
set_option linter.unusedVariables false
set_option linter.unusedSimpArgs false
namespace Go.Proofs
open Go.Shelf
def XJ:Go.Shelf.Ren:=⟨fun | 144=>121 | 143=>187 | 219=>221 | 217=>241 | 225=>242 | 224=>243 | 267=>244 | 266=>253 | 314=>254 | n=>n,fun | 9=>9 | 4=>4 | 3=>3 | 5=>5 | 46=>80 | 146=>278 | 51=>277 | n=>n,fun | 1=>0 | n=>n⟩
theorem X8:Go.Proofs.Lays.n144 Tryz.prog XJ:={
 mixed:=by kernel_rfl
 f143:=Tryz.func187.trans (congrArg some (by kernel_rfl))
 f144:=Tryz.func121.trans (congrArg some (by kernel_rfl))
 f217:=Tryz.func241.trans (congrArg some (by kernel_rfl))
 f219:=Tryz.func221.trans (congrArg some (by kernel_rfl))
 f224:=Tryz.func243.trans (congrArg some (by kernel_rfl))
 f225:=Tryz.func242.trans (congrArg some (by kernel_rfl))
 f266:=Tryz.func253.trans (congrArg some (by kernel_rfl))
 f267:=Tryz.func244.trans (congrArg some (by kernel_rfl))
 f314:=Tryz.func254.trans (congrArg some (by kernel_rfl))
 t3:=Tryz.underlying3
 a3:=Tryz.isAgg3
 z3:=Tryz.sizeOf3
 v3:=Tryz.zeroValue3
 t4:=Tryz.underlying4
 a4:=Tryz.isAgg4
 z4:=Tryz.sizeOf4
 v4:=Tryz.zeroValue4
 t5:=Tryz.underlying5
 a5:=Tryz.isAgg5
 z5:=Tryz.sizeOf5
 v5:=Tryz.zeroValue5
 t9:=Tryz.underlying9
 a9:=Tryz.isAgg9
 z9:=Tryz.sizeOf9
 v9:=Tryz.zeroValue9
 t46:=Tryz.underlying80
 a46:=Tryz.isAgg80
 z46:=Tryz.sizeOf80
 v46:=Tryz.zeroValue80
 t51:=Tryz.underlying277
 a51:=Tryz.isAgg277
 z51:=Tryz.sizeOf277
 v51:=Tryz.zeroValue277
 t146:=Tryz.underlying278
 a146:=Tryz.isAgg278
 z146:=Tryz.sizeOf278
 v146:=Tryz.zeroValue278
 g1:=by kernel_rfl }
end Go.Proofs
namespace Sx
open Go Go.Proofs Go.Stop Go.RowKit
def MaxC (C:Ctx):Prop:=0 < C.old.size∧∃ m,∀ w:World,(∀ b:Nat,b < C.old.size→w.heap[b]? = C.old[b]?)→w.cell? ⟨0,0,none⟩=some (.int .i64 m)
theorem QpK {C:Ctx} {a b:Str} {H:Heap} {K:Bool→HP} (f:MaxC C) (g:a.length < 4294967281) (k:K (Lib.contains a b) H):Qhh C a b K H:=by
 intro w d
 obtain ⟨_,m,hm⟩:=f
 refine (Any.strings_Contains X8 ⟨a.toArray⟩ ⟨b.toArray⟩ m w (by show a.toArray.size < _; simpa using g) (hm w d.old)).mono ?_
 rintro e h ⟨rfl,rfl⟩
 exact ⟨_,H,rfl,d,_,rfl,by simpa using k⟩
theorem Qw6 {W:World} (h:W.ShapedOpen P0):MaxC (ctxOf W):=by
 obtain ⟨m,hm⟩:=cell_of_shapedOpen_int (g:=0) (t:=3) (zero:=#[.int .i64 0]) (k:=.i64) h (by decide +kernel) (by kernel_rfl) rfl (by kernel_rfl) (by kernel_rfl) Tryz.underlying3
 have b:0 < W.heap.size:=by
  rcases Nat.lt_or_ge 0 W.heap.size with h | h
  ·exact h
  ·simp [World.cell?,Array.getElem?_eq_none h] at hm
 refine ⟨b,m,fun w d=>?_⟩
 have:=d 0 b
 simp only [World.cell?] at hm ⊢
 rw [this]; exact hm
end Sx
end

noncomputable section
set_option linter.unusedVariables false
set_option linter.unusedSimpArgs false
namespace Sx
open Go
inductive V where
 | mk (k n:Int) (s:Str) (l:List V)
namespace V
def k:V→Int | .mk k _ _ _=>k
def n:V→Int | .mk _ n _ _=>n
def s:V→Str | .mk _ _ s _=>s
def l:V→List V | .mk _ _ _ l=>l
end V
mutual
def vsize:V→Nat
 | .mk _ _ _ l=>vsizes l+1
def vsizes:List V→Nat
 | []=>0
 | v::l=>vsize v+vsizes l
end
theorem Qr7:∀ {l:List V} {v:V},v ∈ l→vsize v≤vsizes l
 | w::l,v,h=>by
  simp only [vsizes]
  rcases List.mem_cons.1 h with rfl | h
  ·omega
  ·have:=Qr7 h; omega
theorem Qvh {v w:V} (h:w ∈ v.l):vsize w < vsize v:=by
 obtain ⟨k,n,s,l⟩:=v
 have:=Qr7 (show w ∈ l from h)
 simp only [vsize]; omega
theorem V.rec_ {P:V→Prop} (h:∀ v,(∀ w ∈ v.l,P w)→P v) (v:V):P v:=by
 have:∀ n v,vsize v≤n→P v:=by
  intro n
  induction n with
  | zero=>intro v hv; obtain ⟨k,n,s,l⟩:=v; simp [vsize] at hv
  | succ n ih=>intro v hv; exact h v fun w hw=>ih w (by have:=Qvh hw; omega)
 exact this _ v (Nat.le_refl _)
mutual
def dep:V→Nat
 | .mk _ _ _ l=>deps l+1
def deps:List V→Nat
 | []=>0
 | v::l=>max (dep v) (deps l)
end
theorem Qwh (v:V):dep v=deps v.l+1:=by obtain ⟨k,n,s,l⟩:=v; rfl
theorem QlR:∀ (a b:List V),deps (a++b)=max (deps a) (deps b)
 | [],b=>by simp [deps]
 | v::a,b=>by simp only [List.cons_append,deps,QlR a b]; omega
theorem QrB {l:List V} {i:Nat} (h:i < l.length):deps (l.take (i+1))=max (deps (l.take i)) (dep l[i]):=by
 rw [Vp,Vf h,Vo,QlR]; simp [deps]
theorem Qsp:∀ {l:List V} {v:V},v ∈ l→dep v≤deps l
 | w::l,v,h=>by
  simp only [deps]
  rcases List.mem_cons.1 h with rfl | h
  ·omega
  ·have:=Qsp h; omega
theorem Qso (v:V):dep v≤vsize v:=by
 have h:∀ (l:List V),(∀ w ∈ l,dep w≤vsize w)→deps l≤vsizes l:=by
  intro l
  induction l with
  | nil=>intro _; simp [deps]
  | cons v l b=>
   intro h
   have f:=h v (List.mem_cons_self ..)
   have g:=b fun w d=>h w (List.mem_cons_of_mem _ d)
   simp only [deps,vsizes]; omega
 refine V.rec_ (P:=fun v=>dep v≤vsize v) (fun v b=>?_) v
 obtain ⟨k,n,s,l⟩:=v
 have:=h l b
 simp only [dep,vsize]; omega
def lowC (c:UInt8):Bool:=decide (97≤c.toNat) && decide (c.toNat≤122)
def nameC (c:UInt8):Bool:=lowC c || (decide (65≤c.toNat) && decide (c.toNat≤90)) || (decide (48≤c.toNat) && decide (c.toNat≤57)) || decide (c.toNat=95)
def nameS (s:Str):Bool:=!s.isEmpty && decide (s.length≤32) && lowC (s.headD 0) && s.all nameC
def digC (c:UInt8):Bool:=decide (48≤c.toNat) && decide (c.toNat≤57)
def cutD:Str→Option (Str×Str)
 | []=>none
 | c::t=>if c=46 then some ([],t) else (cutD t).map fun p=>(c::p.1,p.2)
theorem Qj3:∀ (a b:Str),(46:UInt8) ∉ a→cutD (a++46::b)=some (a,b)
 | [],b,_=>by simp [cutD]
 | c::a,b,h=>by
  have h1:c≠46:=fun e=>h (by rw [e]; exact List.mem_cons_self ..)
  simp only [List.cons_append,cutD,if_neg h1,Qj3 a b fun d=>h (List.mem_cons_of_mem _ d)]; rfl
theorem Qj4:∀ (a:Str),(46:UInt8) ∉ a→cutD a=none
 | [],_=>rfl
 | c::a,h=>by
  have h1:c≠46:=fun e=>h (by rw [e]; exact List.mem_cons_self ..)
  simp only [cutD,if_neg h1,Qj4 a fun b=>h (List.mem_cons_of_mem _ b)]; rfl
theorem Qn0:∀ (s:Str),(46:UInt8) ∈ s→∃ a b,s=a++46::b∧46 ∉ a
 | c::s,h=>by
  by_cases hc:c=46
  ·exact ⟨[],s,by rw [hc]; rfl,by simp⟩
  ·obtain ⟨a, b, h1, h2⟩ := Qn0 s (by simpa [Ne.symm hc] using h)
   exact ⟨c::a,b,by rw [h1]; rfl,by simp [h2,Ne.symm hc]⟩
def trueS:Str:=[116,114,117,101]
def falseS:Str:=[102,97,108,115,101]
def namesS (s:Str):Bool:=if s=trueS∨s=falseS then false else match cutD s with
 | some (a,b)=>nameS a && nameS b
 | none=>nameS s
def unmin (s:Str):Str:=if s.head? = some 45 then s.tail else s
def numS (s:Str):Bool:=!(unmin s).isEmpty && (unmin s).all digC && !(decide ((unmin s).head? = some 48) && decide (s≠[48]))
def digits (s:Str):Nat:=(unmin s).length
def okN (k n:Int) (s:Str) (m:Nat):Bool:=
 if k=1 then (n == 0 || n == 1) && s.isEmpty && decide (m=0)
 else if k=2 then s.isEmpty && decide (m=0)
 else if k=3 then numS s && n == 0 && decide (m=0)
 else if k=4 then n == 0 && decide (m=0)
 else if k=5 then n == 0 && s.isEmpty && decide (m≠1)
 else if k=6 then n == 0 && namesS s
 else false
def fitN (k:Int) (s:Str) (m:Nat):Bool:=
 if k=3 then decide (digits s≤200)
 else if k=4 then decide (s.length≤4096)
 else if k=5 then decide (m≤16)
 else if k=6 then decide (m≤8)
 else true
mutual
def formV:V→Bool
 | .mk k n s l=>okN k n s l.length && formVs l
def formVs:List V→Bool
 | []=>true
 | v::l=>formV v && formVs l
end
mutual
def fitsV:V→Bool
 | .mk k n s l=>fitN k s l.length && fitsVs l
def fitsVs:List V→Bool
 | []=>true
 | v::l=>fitsV v && fitsVs l
end
theorem QkR (v:V):formV v=(okN v.k v.n v.s v.l.length && formVs v.l):=by obtain ⟨k,n,s,l⟩:=v; rfl
theorem Qmg (v:V):fitsV v=(fitN v.k v.s v.l.length && fitsVs v.l):=by obtain ⟨k,n,s,l⟩:=v; rfl
theorem Qmh:∀ (a b:List V),formVs (a++b)=(formVs a && formVs b)
 | [],b=>by simp [formVs]
 | v::a,b=>by simp only [List.cons_append,formVs,Qmh a b,Bool.and_assoc]
theorem Qi1:∀ (a b:List V),fitsVs (a++b)=(fitsVs a && fitsVs b)
 | [],b=>by simp [fitsVs]
 | v::a,b=>by simp only [List.cons_append,fitsVs,Qi1 a b,Bool.and_assoc]
theorem QoJ {l:List V} {i:Nat} (h:i < l.length):formVs (l.take (i+1))=(formVs (l.take i) && formV l[i]):=by
 rw [Vp,Vf h,Vo,Qmh]; simp [formVs]
theorem QlU {l:List V} {i:Nat} (h:i < l.length):fitsVs (l.take (i+1))=(fitsVs (l.take i) && fitsV l[i]):=by
 rw [Vp,Vf h,Vo,Qi1]; simp [fitsVs]
theorem Qj6:∀ {l:List V} {v:V},v ∈ l→formV v=false→formVs l=false
 | w::l,v,h,hv=>by
  simp only [formVs]
  rcases List.mem_cons.1 h with rfl | h
  ·rw [hv]; rfl
  ·rw [Qj6 h hv,Bool.and_false]
theorem QpW:∀ {l:List V} {v:V},v ∈ l→formVs l=true→formV v=true:=fun h b=>by
 cases hv:formV _ with
 | true=>rfl
 | false=>rw [Qj6 h hv] at b; cases b
def checkV (v:V):Int:=if dep v > 64 then 65 else if formV v=false then 4 else if fitsV v=false then 40 else 0
def mayV (v:V):Bool:=decide (checkV v=0)
theorem Qs9 (v:V):mayV v=true↔dep v≤64∧formV v=true∧fitsV v=true:=by
 unfold mayV checkV
 rw [Vj]
 by_cases h1:dep v > 64
 ·simp [h1]; omega
 ·rw [if_neg h1]
  cases hf:formV v <;> cases hg:fitsV v <;> simp <;> omega
mutual
def sameV:V→V→Bool
 | .mk k n s l,.mk k' n' s' l'=>k == k' && n == n' && decide (s=s') && sameVs l l'
def sameVs:List V→List V→Bool
 | [],[]=>true
 | v::l,w::m=>sameV v w && sameVs l m
 | _,_=>false
end
theorem Qv0 {v w:V} (h:sameV v w=true):v=w:=by
 have d:∀ v:V,∀ w,sameV v w=true→v=w:=by
  refine V.rec_ (P:=fun v=>∀ w,sameV v w=true→v=w) fun v i w h=>?_
  obtain ⟨k,n,s,l⟩:=v
  obtain ⟨o,q,r,j⟩:=w
  simp only [sameV,Ve,beq_iff_eq,Vj] at h
  obtain ⟨⟨⟨rfl,rfl⟩,rfl⟩,h⟩:=h
  have:∀ (l m:List V),(∀ v ∈ l,∀ w,sameV v w=true→v=w)→sameVs l m=true→l=m:=by
   intro l
   induction l with
   | nil => intro m _ h; cases m with
    | nil=>rfl
    | cons _ _=>simp [sameVs] at h
   | cons v l b=>
    intro m f h
    cases m with
    | nil=>simp [sameVs] at h
    | cons w m=>
     simp only [sameVs,Ve] at h
     rw [f v (List.mem_cons_self ..) w h.1,b m (fun v g=>f v (List.mem_cons_of_mem _ g)) h.2]
  rw [this l j i h]
 exact d v w h
mutual
theorem Qp4:∀ v:V,sameV v v=true
 | .mk k n s l=>by simp [sameV,Qo6 l]
theorem Qo6:∀ l:List V,sameVs l l=true
 | []=>rfl
 | v::l=>by simp [sameVs,Qp4 v,Qo6 l]
end
theorem Qr1 {v w:V}:sameV v w=true↔v=w:=⟨Qv0,fun h=>h ▸ Qp4 v⟩
end Sx
end

noncomputable section
set_option linter.unusedVariables false
set_option linter.unusedSimpArgs false
set_option maxRecDepth 10000
namespace Sx
section
open Go Go.Proofs
theorem QkQ {α β:Type} (f:α→List β) (z:Nat) (b:∀ x,(f x).length=z):∀ (l:List α) (i:Nat) (x:α),l[i]? = some x→∀ (j:Nat) (v:β),(f x)[j]? = some v→(l.flatMap f)[i*z+j]? = some v
 | [],i,x,h,j,v,hv=>by simp at h
 | y::l,0,x,h,j,v,hv=>by
  simp at h; subst h
  rw [List.flatMap_cons,Nat.zero_mul,Nat.zero_add,List.getElem?_append_left (List.getElem?_eq_some_iff.1 hv).1]; exact hv
 | y::l,i+1,x,h,j,v,hv=>by
  have:=QkQ f z b l i x (by simpa using h) j v hv
  rw [List.flatMap_cons,List.getElem?_append_right (by rw [b,Nat.add_mul]; omega),b]
  rw [show (i+1)*z+j - z=i*z+j by rw [Nat.add_mul]; omega]; exact this
abbrev TV:=Qg
theorem Xak (x:TV):(Qg.c x).length=4:=rfl
mutual
def VIs (H:Heap):V→TV→Prop
 | .mk k n s l,x=>x.Kind=k∧x.N=n∧x.S=s∧∃ xs:List TV,rdsl H x.L (xs.flatMap Qg.c)∧x.L.len=xs.length∧VsAre H l xs
def VsAre (H:Heap):List V→List TV→Prop
 | [],[]=>True
 | v::l,x::xs=>VIs H v x∧VsAre H l xs
 | [],_::_=>False
 | _::_,[]=>False
end
def VRow (H:Heap) (t:Sl) (l:List V):Prop:=∃ xs:List TV,rdsl H t (xs.flatMap Qg.c)∧t.len=xs.length∧VsAre H l xs
theorem QgM {H:Heap} {v:V} {x:TV}:VIs H v x↔x.Kind=v.k∧x.N=v.n∧x.S=v.s∧VRow H x.L v.l:=by obtain ⟨k,n,s,l⟩:=v; rfl
theorem VsAre.len {H:Heap}:∀ {l:List V} {xs:List TV},VsAre H l xs→l.length=xs.length
 | [],[],_=>rfl
 | v::l,x::xs,h=>by have:=VsAre.len h.2; simp [this]
theorem VsAre.get {H:Heap}:∀ {l:List V} {xs:List TV},VsAre H l xs→∀ (i:Nat) (v:V) (x:TV),l[i]? = some v→xs[i]? = some x→VIs H v x
 | [],[],_,i,v,x,h,_=>by simp at h
 | v::l,x::xs,h,0,v',x',h1,h2=>by simp at h1 h2; subst h1; subst h2; exact h.1
 | v::l,x::xs,h,i+1,v',x',h1,h2=>VsAre.get h.2 i v' x' (by simpa using h1) (by simpa using h2)
mutual
theorem VIs.le {A B:Heap} (h:A.le B):∀ {v:V} {x:TV},VIs A v x→VIs B v x
 | .mk k n s l,x,⟨h1,h2,h3,xs,h4,h5,h6⟩=>⟨h1,h2,h3,xs,Qgl h h4,h5,VsAre.le h h6⟩
theorem VsAre.le {A B:Heap} (h:A.le B):∀ {l:List V} {xs:List TV},VsAre A l xs→VsAre B l xs
 | [],[],_=>trivial
 | v::l,x::xs,⟨h1,h2⟩=>⟨VIs.le h h1,VsAre.le h h2⟩
end
theorem VRow.le {A B:Heap} {t:Sl} {l:List V} (h:VRow A t l) (hle:A.le B):VRow B t l:=by
 obtain ⟨xs,b,d,f⟩:=h
 exact ⟨xs,Qgl hle b,d,f.le hle⟩
theorem VRow.len {H:Heap} {t:Sl} {l:List V} (h:VRow H t l):t.len=l.length:=by
 obtain ⟨xs,f,b,d⟩:=h
 rw [b,d.len]
theorem VIs.kind {H:Heap} {v:V} {x:TV} (h:VIs H v x):x.Kind=v.k:=(QgM.1 h).1
theorem VIs.num {H:Heap} {v:V} {x:TV} (h:VIs H v x):x.N=v.n:=(QgM.1 h).2.1
theorem VIs.txt {H:Heap} {v:V} {x:TV} (h:VIs H v x):x.S=v.s:=(QgM.1 h).2.2.1
theorem VIs.row {H:Heap} {v:V} {x:TV} (h:VIs H v x):VRow H x.L v.l:=(QgM.1 h).2.2.2
theorem VRow.ld {A H:Heap} {t:Sl} {l:List V} (h:VRow A t l) (hle:A.le H) {i:Nat} {x:Int} {K:TV→Prop} (hx:x=i) (hi:i < l.length) (k:∀ y,VIs A l[i] y→K y):ixa t x fun p=>ldT H Qg.c (p.1,p.2+x.toNat*4) K:=by
 have hl:=h.len
 obtain ⟨xs,h1,h2,h3⟩:=h
 have hi2:i < xs.length:=by omega
 have hg:=Vf hi2
 subst hx
 refine Qs7 (Qgl hle h1) (by omega) (by omega) (fun e=>?_) fun p _ hp=>⟨xs[i],?_,k _ (h3.get i _ _ (Vf hi) hg)⟩
 ·have:=QkQ Qg.c 4 Xak xs i _ hg 0 _ rfl
  rw [e] at this; simp at this
 ·refine Qff fun j v hj => ?_
  have:=Qi7 hp _ _ (QkQ Qg.c 4 Xak xs i _ hg j v hj)
  rw [show p.2+(i:Int).toNat*4+j=p.2+(i*4+j) by omega]; exact this
mutual
def VB:V→Prop
 | .mk k n s l=>(0≤k∧k≤255)∧(-9223372036854775808≤n∧n≤9223372036854775807)∧s.length≤140737488355328∧l.length≤140737488355328∧VBs l
def VBs:List V→Prop
 | []=>True
 | v::l=>VB v∧VBs l
end
theorem VBs.mem:∀ {l:List V},VBs l→∀ {v},v ∈ l→VB v
 | w::l,h,v,hv=>by
  rcases List.mem_cons.1 hv with rfl | hv
  ·exact h.1
  ·exact VBs.mem h.2 hv
theorem VB.k {v:V} (h:VB v):0≤v.k∧v.k≤255:=by obtain ⟨k,n,s,l⟩:=v; exact h.1
theorem VB.n {v:V} (h:VB v):-9223372036854775808≤v.n∧v.n≤9223372036854775807:=by obtain ⟨k,n,s,l⟩:=v; exact h.2.1
theorem VB.s {v:V} (h:VB v):v.s.length≤140737488355328:=by obtain ⟨k,n,s,l⟩:=v; exact h.2.2.1
theorem VB.l {v:V} (h:VB v):v.l.length≤140737488355328:=by obtain ⟨k,n,s,l⟩:=v; exact h.2.2.2.1
theorem VB.ls {v:V} (h:VB v):VBs v.l:=by obtain ⟨k,n,s,l⟩:=v; exact h.2.2.2.2
theorem VB.at {v:V} (h:VB v) {i:Nat} (hi:i < v.l.length):VB v.l[i]:=h.ls.mem (Vg hi)
section
variable {B:Heap} {b:Nat} {m:Bool} {x:TV}
theorem Qth (h:B b=some (m,.row (Qg.c x))):rd B (b,0)=some (.int .u8 x.Kind)∧rd B (b,1)=some (.int .i64 x.N)∧rd B (b,2)=some (sv x.S)∧rd B (b,3)=some (slv x.L):=
 ⟨by rw [Qaq h]; rfl,by rw [Qaq h]; rfl,by rw [Qaq h]; rfl,by rw [Qaq h]; rfl⟩
theorem bxK {K:Int→Prop} (h:B b=some (m,.row (Qg.c x))) (k:K x.Kind):ldI B .u8 ((b,0).1,(b,0).2+0) K:=⟨_,(Qth h).1,k⟩
theorem bxN {K:Int→Prop} (h:B b=some (m,.row (Qg.c x))) (k:K x.N):ldI B .i64 ((b,0).1,(b,0).2+1) K:=⟨_,(Qth h).2.1,k⟩
theorem bxS {K:Str→Prop} (h:B b=some (m,.row (Qg.c x))) (k:K x.S):ldS B ((b,0).1,(b,0).2+2) K:=⟨_,(Qth h).2.2.1,k⟩
theorem bxL {K:Sl→Prop} (h:B b=some (m,.row (Qg.c x))) (k:K x.L):ldL B ((b,0).1,(b,0).2+3) K:=⟨_,(Qth h).2.2.2,k⟩
theorem bxV {K:TV→Prop} (h:B b=some (m,.row (Qg.c x))) (k:K x):ldT B Qg.c (b,0) K:=⟨x,QhT h fun j v d=>by simpa using d,k⟩
end
section
variable {C:Ctx} {H:Heap}
theorem QpH {v:V} {x:TV} {H:Heap} {K:Int→HP} (j:VIs H v x) (g:VB v) (r:vsize v≤4611686018427387904) (k:K (dep v) H):QaO C x K H:=by
 refine V.rec_ (P:=fun v=>∀ {x H} {K:Int→HP},VIs H v x→VB v→vsize v≤4611686018427387904→K (dep v) H→QaO C x K H) (fun v I=>?_) v j g r k
 clear j g r k
 intro x H K j g r k
 apply QaO.gh
 apply Qk5
 unfold QhV
 intro A n1
 have z:=j.row
 have F:=z.len
 have B:=g.l
 have E:=Qso v
 have m:=Qwh v
 refine ⟨fun y t=>∃ i:Nat,y=((deps (v.l.take i):Int),(i:Int))∧i≤v.l.length∧(H.put A (.row (Qg.c x))).le t,fun y _=>v.l.length - y.2.toNat,⟨0,by simp [deps],Nat.zero_le _,Heap.le.refl _⟩,?_⟩
 rintro _ t ⟨i,rfl,hi,hle⟩
 have u:=hle _ _ (Xa ..)
 have b:=(Xc n1).trans hle
 refine bxL u ?_
 rw [F]
 refine ift.of (fun h=>?_) (fun h=>?_)
 ·have f : i < v.l.length := by have := Vb h; dsimp only at this; omega
  have d:=Vg f
  have G:=Qvh d
  have D:=Qsp d
  refine bxL u ?_
  refine z.ld b rfl f fun y hy=>?_
  refine I _ d (hy.le b) (g.at f) (by omega) ?_
  have o:=QrB f
  dsimp only
  rw [Qu (by omega) (by omega)]
  refine ⟨⟨i+1,?_,by omega,hle⟩,by first | omega | (dsimp only; omega)⟩
  rw [o]
  refine Prod.ext ?_ rfl
  dsimp only
  split <;> omega
 ·have q : i = v.l.length := by have := Vc h; dsimp only at this; omega
  subst q
  dsimp only
  rw [Vl,Qu (by omega) (by omega)]
  refine ⟨H,Gh.le b,?_⟩
  rw [m] at k; exact k
theorem QpL {v:V} {x:TV} {H:Heap} {m:Nat} {K:Int→HP} (z:VIs H v x) (o:VB v) (hm:m≤1000) (k:∀ r:Nat,r≤m+1→r≤dep v→(r=dep v∨m+1≤r)→K r H):Qbz C x m K H:=by
 refine V.rec_ (P:=fun v=>∀ {x H} {m:Nat} {K:Int→HP},VIs H v x→VB v→m≤1000→(∀ r:Nat,r≤m+1→r≤dep v→(r=dep v∨m+1≤r)→K r H)→Qbz C x m K H) (fun v Z=>?_) v z o hm k
 clear z o hm k m
 intro x H m K z o hm k
 apply Qbz.gh
 apply QpE
 unfold QlI
 intro L n1
 have Q:=z.row
 have U:=Q.len
 have R:=o.l
 have S:=Qwh v
 have D:(H.put L (.row (Qg.c x))) L=some (true,.row (Qg.c x)):=Xa ..
 refine ⟨fun y j=>H.le j∧∃ r:Nat,y=(r:Int)∧r≤m∧r≤deps v.l∧(r=deps v.l∨m≤r),?_,?_⟩
 rotate_left
 ·rintro y j ⟨hle,r,rfl,h0,M,h2⟩
  rw [Qu (by omega) (by omega)]
  have:=k (r+1) (by omega) (by omega) (by omega)
  exact ⟨H,Gh.le hle,by simpa using this⟩
 refine bxL D ?_
 refine ⟨fun y j=>∃ i r:Nat,y=((r:Int),(i:Int))∧i≤v.l.length∧H.le j∧r≤m∧r≤deps (v.l.take i)∧(r=deps (v.l.take i)∨m≤r),fun y _=>v.l.length - y.2.toNat,⟨0,0,rfl,Nat.zero_le _,Xc n1,Nat.zero_le _,Nat.zero_le _,.inl (by simp [deps])⟩,?_⟩
 rintro _ j ⟨i,r,rfl,hi,hle,I,t,u⟩
 have N:deps (v.l.take i)≤deps v.l:=by
  have M:=QlR (v.l.take i) (v.l.drop i)
  rw [List.take_append_drop] at M; omega
 dsimp only
 rw [U]
 refine ift.of (fun h=>?_) (fun h=>?_)
 ·have d : i < v.l.length := by have := Vb h; omega
  have f:=Vg d
  have T:=Qsp f
  refine Q.ld hle rfl d fun y hy=>?_
  intro A J
  refine ⟨_,Xa ..,by simp [Qg.c],?_⟩
  rw [Xh]
  have B:splice (Qg.c Qg.zero) (A,0).2 (Qg.c y)=Qg.c y:=rfl
  rw [B]
  have b:=hle.trans (Xc J (g:=.row (Qg.c y)) (m:=true))
  refine ift.of (fun h=>?_) (fun h=>?_)
  ·have F : m ≤ r := by have := Vb h; omega
   exact ⟨b,r,rfl,by omega,by omega,.inr F⟩
  ·have O : r < m := by have := Vc h; omega
   refine bxV (Xa ..) ?_
   have em:w .i64 ((m:Int) - 1)=((m - 1:Nat):Int):=by rw [Qu (by omega) (by omega)]; omega
   rw [em]
   refine Z _ f (hy.le b) (o.at d) (by omega) fun q W X Y=>?_
   have E:=QrB d
   rw [Qu (by omega) (by omega)]
   refine ⟨⟨i+1,max q r,?_,by omega,b,by omega,by omega,?_⟩,by first | omega | (dsimp only; omega)⟩
   ·refine Prod.ext ?_ rfl
    dsimp only
    split <;> omega
   ·rw [E]; omega
 ·have G : i = v.l.length := by have := Vc h; omega
  subst G
  rw [Vl] at t u
  exact ⟨hle,r,rfl,I,t,u⟩
end
end
section
open Go Go.Proofs
theorem u8eq (c:UInt8) (n:Nat) (hn:n < 256):((c.toNat:Int) == (n:Int))=decide (c=UInt8.ofNat n):=by
 rw [Vn]; simp only [Vj,beq_iff_eq]
 constructor
 ·intro h; exact UInt8.toNat_inj.1 (by rw [UInt8.toNat_ofNat']; omega)
 ·rintro rfl; rw [UInt8.toNat_ofNat']; omega
theorem e48 (c:UInt8):((c.toNat:Int) == 48)=decide (c=48):=u8eq c 48 (by omega)
theorem e45 (c:UInt8):((c.toNat:Int) == 45)=decide (c=45):=u8eq c 45 (by omega)
theorem e46 (c:UInt8):((c.toNat:Int) == 46)=decide (c=46):=u8eq c 46 (by omega)
theorem QnZ {α:Type} {p:α→Bool} {s:List α} {i:Nat} (h:i < s.length):(s.take (i+1)).all p=((s.take i).all p && p s[i]):=by
 rw [Vp,Vf h,Vo,List.all_append]; simp
theorem QsM {α:Type} {p:α→Bool} {s:List α} {x:α} (h:x ∈ s) (hp:p x=false):s.all p=false:=by
 rw [List.all_eq_false]; exact ⟨x,h,by simp [hp]⟩
theorem getE {s:Str} {i:Nat} (h:i < s.length):s[((i:Nat):Int).toNat]? = some s[i]:=by simp [h]
theorem getL {s:Str} (h:0 < s.length) {x:Int} (hx:x=(s.length:Int) - 1):s[x.toNat]? = some (s.getLast (List.ne_nil_of_length_pos h)):=by
 subst hx
 have:((s.length:Int) - 1).toNat=s.length - 1:=by omega
 rw [this,Vf (by omega),List.getLast_eq_getElem]
section
variable {C:Ctx} {H:Heap}
theorem QrL {c:UInt8} {K:Bool→HP} (k:K (lowC c) H):QfS C (c.toNat:Int) K H:=by
 apply Qof
 unfold Qkv
 have:(decide ((c.toNat:Int) ≥ 97) && decide ((c.toNat:Int)≤122))=lowC c:=by
  unfold lowC
  rw [Vn]; simp only [Ve,Vj]; omega
 rw [this]; exact k
theorem Qfg {s:Str} {K:Bool→HP} (z:s.length≤140737488355328) (k:K (nameS s) H):Qc9 C s K H:=by
 apply Qqf
 unfold Qmu
 refine ⟨fun b f=>H=f∧b=(s.isEmpty || decide (s.length > 32) || !lowC (s.headD 0)),?_,?_⟩
 ·refine ift.of (fun h => ⟨rfl, ?_⟩) (fun h => ?_)
  ·simp only [Bool.or_eq_true,Vj,beq_iff_eq] at h
   rcases h with rfl | h
   ·rfl
   ·have : decide (s.length > 32) = true := by rw [Vj]; omega
    rw [this]; simp
  ·cases s with
   | nil=>simp at h
   | cons c t=>
    refine ⟨c,by omega,rfl,?_⟩
    refine QrL ⟨rfl,?_⟩
    simp only [Bool.or_eq_false_iff,decide_eq_false_iff_not] at h
    have:decide ((c::t).length > 32)=false:=by rw [decide_eq_false_iff_not]; omega
    rw [this]; rfl
 rintro b _ ⟨rfl,rfl⟩
 refine ift.of (fun h=>?_) (fun h=>?_)
 ·have : nameS s = false := by
   unfold nameS
   simp only [Bool.or_eq_true,Vj,Bool.not_eq_true'] at h
   rcases h with (h | h) | h
   ·rw [h]; rfl
   ·have : decide (s.length ≤ 32) = false := by rw [decide_eq_false_iff_not]; omega
    rw [this]; simp
   ·rw [h]; simp
  rw [this] at k; exact k
 have hn:nameS s=s.all nameC:=by
  unfold nameS
  simp only [Bool.or_eq_false_iff,decide_eq_false_iff_not,Bool.not_eq_false'] at h
  have:decide (s.length≤32)=true:=by rw [Vj]; omega
  rw [h.1.1,this,h.2]; simp
 refine ⟨fun x f=>∃ i:Nat,x=(i:Int)∧i≤s.length∧H=f∧(s.take i).all nameC=true,fun x _=>s.length - x.toNat,⟨0,rfl,Nat.zero_le _,rfl,rfl⟩,?_⟩
 rintro x _ ⟨i,rfl,hi,rfl,g⟩
 refine ift.of (fun h=>?_) (fun h=>?_)
 ·have d : i < s.length := by have := Vb h; omega
  refine ⟨s[i],by omega,getE d,?_⟩
  dsimp only
  have hm:=Vg d
  have j:=QnZ (p:=nameC) d
  generalize s[i]=c at *
  refine QrL ?_
  have e:((((!lowC c) && (!((decide ((c.toNat:Int) ≥ 65)) && (decide ((c.toNat:Int)≤90))))) && (!((decide ((c.toNat:Int) ≥ 48)) && (decide ((c.toNat:Int)≤57))))) && ((c.toNat:Int) != 95))=!nameC c:=by
   unfold nameC
   have o:decide ((c.toNat:Int) ≥ 65)=decide (65≤c.toNat):=by rw [Vm]; omega
   have q:decide ((c.toNat:Int)≤90)=decide (c.toNat≤90):=by rw [Vm]; omega
   have r:decide ((c.toNat:Int) ≥ 48)=decide (48≤c.toNat):=by rw [Vm]; omega
   have u:decide ((c.toNat:Int)≤57)=decide (c.toNat≤57):=by rw [Vm]; omega
   have y:((c.toNat:Int) != 95)=!decide (c.toNat=95):=by
    rw [Vn]; simp only [bne_iff_ne,ne_eq,Bool.not_eq_true',decide_eq_false_iff_not]; omega
   rw [o,q,r,u,y]; simp only [Bool.not_or]
  rw [e]
  refine ift.of (fun h=>?_) (fun h=>?_)
  ·rw [hn,QsM hm (by simpa using h)] at k; exact k
  ·rw [Qu (by omega) (by omega)]
   refine ⟨⟨i+1,by omega,by omega,rfl,?_⟩,by first | omega | (dsimp only; omega)⟩
   rw [j,g]; simpa using h
 ·have m : i = s.length := by have := Vc h; omega
  rw [m,Vl] at g
  rw [hn,g] at k; exact k
theorem Qm1 {s:Str} {K:Bool→HP} (A:s.length≤140737488355328) (k:K (nameS s) H):Qer C s K H:=by
 apply QqH
 unfold QmW
 refine ⟨fun b f=>H=f∧b=(s.isEmpty || decide (s.length > 32) || decide ((s.headD 0).toNat < 97)),?_,?_⟩
 ·refine ift.of (fun h => ⟨rfl, ?_⟩) (fun h => ?_)
  ·simp only [Bool.or_eq_true,Vj,beq_iff_eq] at h
   rcases h with rfl | h
   ·rfl
   ·have : decide (s.length > 32) = true := by rw [Vj]; omega
    rw [this]; simp
  ·cases s with
   | nil=>simp at h
   | cons c t=>
    refine ⟨c,by omega,rfl,rfl,?_⟩
    simp only [Bool.or_eq_false_iff,decide_eq_false_iff_not] at h
    have:decide ((c::t).length > 32)=false:=by rw [decide_eq_false_iff_not]; omega
    rw [this]
    simp only [List.isEmpty_cons,Bool.false_or,List.headD_cons]
    exact (decide_eq_decide.2 (by omega):decide ((c.toNat:Int) < 97)=decide (c.toNat < 97))
 rintro b _ ⟨rfl,rfl⟩
 refine ⟨fun b f=>H=f∧b=(s.isEmpty || decide (s.length > 32) || !lowC (s.headD 0)),?_,?_⟩
 ·refine ift.of (fun h => ⟨rfl, ?_⟩) (fun h => ?_)
  ·simp only [Bool.or_eq_true,Vj] at h
   rcases h with (h | h) | h
   ·rw [h]; rfl
   ·have : decide (s.length > 32) = true := by rw [Vj]; omega
    rw [this]; simp
   ·have : lowC (s.headD 0) = false := by unfold lowC; rw [decide_eq_false (by omega)]; rfl
    rw [this]; simp
  ·simp only [Bool.or_eq_false_iff,decide_eq_false_iff_not] at h
   cases s with
   | nil=>simp at h
   | cons c t=>
    refine ⟨c,by omega,rfl,rfl,?_⟩
    have:decide ((c::t).length > 32)=false:=by rw [decide_eq_false_iff_not]; omega
    rw [this]
    simp only [List.isEmpty_cons,Bool.false_or,List.headD_cons] at h ⊢
    unfold lowC
    rw [decide_eq_true (by omega:97≤c.toNat),Bool.true_and,← decide_not,Vm]; omega
 rintro b _ ⟨rfl,rfl⟩
 refine ift.of (fun h=>?_) (fun h=>?_)
 ·have : nameS s = false := by
   unfold nameS
   simp only [Bool.or_eq_true,Vj,Bool.not_eq_true'] at h
   rcases h with (h | h) | h
   ·rw [h]; rfl
   ·have : decide (s.length ≤ 32) = false := by rw [decide_eq_false_iff_not]; omega
    rw [this]; simp
   ·rw [h]; simp
  rw [this] at k; exact k
 have hn:nameS s=s.all nameC:=by
  unfold nameS
  simp only [Bool.or_eq_false_iff,decide_eq_false_iff_not,Bool.not_eq_false'] at h
  have:decide (s.length≤32)=true:=by rw [Vj]; omega
  rw [h.1.1,this,h.2]; simp
 refine ⟨fun x f=>∃ i:Nat,x=(i:Int)∧i≤s.length∧H=f∧(s.take i).all nameC=true,fun x _=>s.length - x.toNat,⟨0,rfl,Nat.zero_le _,rfl,rfl⟩,?_⟩
 rintro x _ ⟨i,rfl,hi,rfl,j⟩
 refine ift.of (fun h=>?_) (fun h=>?_)
 ·have d : i < s.length := by have := Vb h; omega
  refine ⟨s[i],by omega,getE d,?_⟩
  dsimp only
  have hm:=Vg d
  have m:=QnZ (p:=nameC) d
  generalize s[i]=c at *
  have e:(!(((((decide ((c.toNat:Int) ≥ 97)) && (decide ((c.toNat:Int)≤122))) || ((decide ((c.toNat:Int) ≥ 65)) && (decide ((c.toNat:Int)≤90)))) || ((decide ((c.toNat:Int) ≥ 48)) && (decide ((c.toNat:Int)≤57)))) || ((c.toNat:Int) == 95)))=!nameC c:=by
   unfold nameC lowC
   have h0:decide ((c.toNat:Int) ≥ 97)=decide (97≤c.toNat):=by rw [Vm]; omega
   have g:decide ((c.toNat:Int)≤122)=decide (c.toNat≤122):=by rw [Vm]; omega
   have q:decide ((c.toNat:Int) ≥ 65)=decide (65≤c.toNat):=by rw [Vm]; omega
   have r:decide ((c.toNat:Int)≤90)=decide (c.toNat≤90):=by rw [Vm]; omega
   have u:decide ((c.toNat:Int) ≥ 48)=decide (48≤c.toNat):=by rw [Vm]; omega
   have y:decide ((c.toNat:Int)≤57)=decide (c.toNat≤57):=by rw [Vm]; omega
   have z:((c.toNat:Int) == 95)=decide (c.toNat=95):=by
    rw [Vn]; simp only [beq_iff_eq,Vj]; omega
   rw [h0,g,q,r,u,y,z]
  rw [e]
  refine ift.of (fun h=>?_) (fun h=>?_)
  ·rw [hn,QsM hm (by simpa using h)] at k; exact k
  ·rw [Qu (by omega) (by omega)]
   refine ⟨⟨i+1,by omega,by omega,rfl,?_⟩,by first | omega | (dsimp only; omega)⟩
   rw [m,j]; simpa using h
 ·have o : i = s.length := by have := Vc h; omega
  rw [o,Vl] at j
  rw [hn,j] at k; exact k
theorem Qxq {s:Str} {i:Nat} (h:i < s.length) (d:(46:UInt8) ∉ s.take i) (f:s[i]≠46):(46:UInt8) ∉ s.take (i+1):=by
 rw [Vp,Vf h,Vo,List.mem_append]
 rintro (b | b)
 ·exact d b
 ·exact f (List.mem_singleton.1 b).symm
theorem Qv5 {s:Str} {i:Nat} (h:i < s.length):s=s.take i++s[i]::s.drop (i+1):=by
 rw [← List.drop_eq_getElem_cons h,List.take_append_drop]
theorem QpI {s:Str} {K:Bool→HP} (y:s.length≤140737488355328) (k:K (namesS s) H):QiT C s K H:=by
 apply Qpl
 unfold Qlp
 unfold namesS at k
 refine ift.of (fun h=>?_) (fun h=>?_)
 ·simp only [Bool.or_eq_true,beq_iff_eq] at h
  rw [if_pos (show s=trueS∨s=falseS from h)] at k; exact k
 simp only [Bool.or_eq_false_iff,beq_eq_false_iff_ne,ne_eq] at h
 rw [if_neg (show ¬ (s=trueS∨s=falseS) from fun u=>u.elim h.1 h.2)] at k
 refine ⟨fun x m=>∃ i:Nat,x=(i:Int)∧i≤s.length∧H=m∧(46:UInt8) ∉ s.take i,fun x _=>s.length - x.toNat,⟨0,rfl,Nat.zero_le _,rfl,by simp⟩,?_⟩
 rintro x _ ⟨i,rfl,hi,rfl,d⟩
 refine ift.of (fun h=>?_) (fun h=>?_)
 ·have g : i < s.length := by have := Vb h; omega
  refine ⟨s[i],by omega,getE g,?_⟩
  dsimp only
  rw [e46]
  refine ift.of (fun h=>?_) (fun h=>?_)
  ·have o:s[i]=46:=Vb h
   have j:=Qv5 g
   rw [o] at j
   have f:=Qj3 (s.take i) (s.drop (i+1)) d
   rw [← j] at f
   rw [f] at k
   dsimp only at k
   refine ⟨by omega,by omega,by omega,_,rfl,?_⟩
   have r:(s.take ((i:Int)).toNat).drop (0:Int).toNat=s.take i:=by simp
   rw [r]
   refine Qfg (by simp; omega) ?_
   refine ⟨fun b m=>H=m∧b=(nameS (s.take i) && nameS (s.drop (i+1))),?_,?_⟩
   ·refine ift.of (fun h => ?_) (fun h => ⟨rfl, by rw [h]; rfl⟩)
    rw [Qu (by omega) (by omega)]
    refine ⟨by omega,by omega,by omega,_,rfl,?_⟩
    have t:(s.take ((s.length:Int)).toNat).drop ((i:Int)+1).toNat=s.drop (i+1):=by
     have:((i:Int)+1).toNat=i+1:=by omega
     rw [this]; simp
    rw [t]
    exact Qfg (by simp; omega) ⟨rfl,by rw [h]; rfl⟩
   ·rintro b _ ⟨rfl,rfl⟩
    exact k
  ·have o:s[i]≠46:=Vc h
   rw [Qu (by omega) (by omega)]
   exact ⟨⟨i+1,by omega,by omega,rfl,Qxq g d o⟩,by first | omega | (dsimp only; omega)⟩
 ·have q : i = s.length := by have := Vc h; omega
  rw [q,Vl] at d
  rw [Qj4 s d] at k
  exact Qfg y k
def numT (t:Str):Bool:=!t.isEmpty && !(decide (t.length > 1) && decide (t.head? = some 48)) && t.all digC
theorem Qte {c:UInt8} {t:Str}:numS (45::c::t)=if c=48 then false else numT (c::t):=by
 unfold numS numT unmin
 by_cases h:c=48
 ·subst h; simp
 ·simp [h]
theorem Qxc {s:Str} (h:¬ (s.length > 1∧s.head? = some 45)):numS s=numT s:=by
 unfold numS numT unmin
 cases s with
 | nil=>rfl
 | cons c t=>
  by_cases hc:c=45
  ·subst hc
   have : t = [] := by cases t with
    | nil=>rfl
    | cons d u=>exact absurd ⟨by simp,rfl⟩ h
   subst this; decide
  ·simp only [List.head?_cons,Option.some.injEq,hc,if_false]
   by_cases h8:c=48
   ·subst h8
    cases t with
    | nil=>decide
    | cons d u=>simp
   ·simp [h8]
theorem Qo3 {s:Str} {K:Bool→HP} (B:s.length≤140737488355328) (k:K (numS s) H):QhL C s K H:=by
 apply Qoe
 unfold Qku
 refine ⟨fun x f=>H=f∧x.length≤s.length∧numT x=numS s,?_,?_⟩
 ·refine ⟨fun b f => H = f ∧ b = decide (s.length > 1 ∧ s.head? = some 45), ?_, ?_⟩
  ·refine ift.of (fun h => ?_) (fun h => ⟨rfl, ?_⟩)
   ·have d : s.length > 1 := by have := Vb h; omega
    cases s with
    | nil=>simp at d
    | cons c t=>
     refine ⟨c,by omega,rfl,rfl,?_⟩
     rw [e45,Vm]
     simp at d ⊢
     exact fun _=>d
   ·have d:=Vc h
    rw [eq_comm,decide_eq_false_iff_not]; omega
  rintro b _ ⟨rfl,rfl⟩
  refine ift.of (fun h=>?_) (fun h=>?_)
  ·obtain ⟨d,u⟩:=Vb h
   cases s with
   | nil=>simp at d
   | cons r A=>
   obtain rfl:r=45:=by simpa using u
   cases A with
   | nil=>simp at d
   | cons c t=>
   refine ⟨by omega,by simp; omega,by omega,c::t,?_,?_⟩
   ·rw [List.take_of_length_le (by omega)]; rfl
   ·refine ⟨c, by omega, rfl, ?_⟩
    dsimp only
    rw [e48]
    rw [Qte] at k
    refine ift.of (fun h=>?_) (fun h=>?_)
    ·rw [if_pos (Vb h)] at k; exact k
    ·refine ⟨rfl, by simp, ?_⟩
     rw [Qte,if_neg (Vc h)]
  ·exact ⟨rfl,Nat.le_refl _,(Qxc (Vc h)).symm⟩
 rintro x _ ⟨rfl,z,hx⟩
 rw [← hx] at k
 clear hx
 refine ⟨fun b f=>H=f∧b=(x.isEmpty || (decide (x.length > 1) && decide (x.head? = some 48))),?_,?_⟩
 ·refine ift.of (fun h => ⟨rfl, ?_⟩) (fun h => ?_)
  ·have : x = [] := by simpa using h
   subst this; rfl
  ·refine ⟨fun b f => H = f ∧ b = (decide (x.length > 1) && decide (x.head? = some 48)), ?_, ?_⟩
   ·refine ift.of (fun h => ?_) (fun h => ⟨rfl, ?_⟩)
    ·have d : x.length > 1 := by have := Vb h; omega
     rw [decide_eq_true d]
     cases x with
     | nil=>simp at d
     | cons c t=>exact ⟨c,by omega,rfl,rfl,by rw [e48]; simp⟩
    ·have d:=Vc h
     rw [decide_eq_false (by omega)]; rfl
   ·rintro b _ ⟨rfl,rfl⟩
    have : x.isEmpty = false := by cases x with
     | nil=>simp at h
     | cons c t=>rfl
    rw [this]; exact ⟨rfl,rfl⟩
 rintro b _ ⟨rfl,rfl⟩
 have hnt:numT x=(!(x.isEmpty || (decide (x.length > 1) && decide (x.head? = some 48))) && x.all digC):=by unfold numT; simp [Bool.not_or]
 refine ift.of (fun h=>?_) (fun h=>?_)
 ·rw [hnt,h] at k; exact k
 rw [hnt,h,Bool.not_false,Bool.true_and] at k
 refine ⟨fun y f=>∃ i:Nat,y=(i:Int)∧i≤x.length∧H=f∧(x.take i).all digC=true,fun y _=>x.length - y.toNat,⟨0,rfl,Nat.zero_le _,rfl,rfl⟩,?_⟩
 rintro y _ ⟨i,rfl,hi,rfl,m⟩
 refine ift.of (fun h=>?_) (fun h=>?_)
 ·have g : i < x.length := by have := Vb h; omega
  have hm:=Vg g
  have o:=QnZ (p:=digC) g
  have j:=getE g
  generalize x[i]=c at *
  refine ⟨c,by omega,j,?_⟩
  refine ⟨fun b f=>H=f∧b=!digC c,?_,?_⟩
  ·refine ift.of (fun h => ⟨rfl, ?_⟩) (fun h => ?_)
   ·have d:=Vb h
    unfold digC; rw [decide_eq_false (by omega)]; rfl
   ·have d:=Vc h
    refine ⟨c,by omega,j,rfl,?_⟩
    unfold digC; rw [decide_eq_true (by omega:48≤c.toNat),Bool.true_and,← decide_not,Vm]; omega
  rintro b _ ⟨rfl,rfl⟩
  refine ift.of (fun h=>?_) (fun h=>?_)
  ·rw [QsM hm (by simpa using h)] at k; exact k
  ·rw [Qu (by omega) (by omega)]
   refine ⟨⟨i+1,by omega,by omega,rfl,?_⟩,by first | omega | (dsimp only; omega)⟩
   rw [o,m]; simpa using h
 ·have q : i = x.length := by have := Vc h; omega
  rw [q,Vl] at m
  rw [m] at k; exact k
theorem Qo2 {s:Str} {K:Int→HP} (d:s.length≤140737488355328) (hn:numS s=true) (k:K (digits s) H):QhK C s K H:=by
 apply Qod
 unfold Qkt
 cases s with
 | nil=>simp [numS,unmin] at hn
 | cons c t=>
  refine ⟨c,by omega,rfl,?_⟩
  dsimp only
  rw [e45]
  unfold digits unmin at k
  refine ift.of (fun h=>?_) (fun h=>?_)
  ·have b:c=45:=Vb h
   rw [if_pos (by rw [b]; rfl)] at k
   simp at d
   rw [Qu (by simp only [Vd]; omega) (by simp only [Vd]; omega)]
   simpa using k
  ·rw [if_neg (by simpa using Vc h)] at k; exact k
end
end
section
open Go Go.Proofs
theorem index_spec (c:UInt8):∀ s:Str,(Lib.indexByte s c = -1∧c ∉ s)∨∃ k:Nat,Lib.indexByte s c=(k:Int)∧∃ a b,s=a++c::b∧a.length=k∧c ∉ a
 | []=>.inl ⟨rfl,by simp⟩
 | b::s=>by
  unfold Lib.indexByte
  by_cases h:b=c
  ·subst h
   exact .inr ⟨0,by simp,[],s,rfl,rfl,by simp⟩
  ·have hb : (b == c) = false := by simpa using h
   rw [hb]
   rcases index_spec c s with ⟨f,g⟩ | ⟨k,f,a,d,g,i,j⟩
   ·left
    rw [f]
    refine ⟨by simp,by simp [g,Ne.symm h]⟩
   ·right
    refine ⟨k+1,?_,b::a,d,by rw [g]; rfl,by simp [i],by simp [j,Ne.symm h]⟩
    rw [f]
    have:((k:Int) == -1)=false:=by rw [beq_eq_false_iff_ne]; omega
    simp [this]
def setD (cs:List Value) (l:Str):List Value:=l.foldl (fun cs c=>cs.set c.toNat (.bool true)) cs
def setD0:List Value:=List.replicate 256 (.bool false)
def digS:Str:=[48,49,50,51,52,53,54,55,56,57]
theorem Qtj (l:Str):∀ cs,(setD cs l).length=cs.length:=by
 induction l with
 | nil=>intro cs; rfl
 | cons c l b=>intro cs; simp only [setD,List.foldl_cons] at b ⊢; rw [b]; simp
theorem Qu2 (l:Str) (c:UInt8) (cs:List Value):setD cs (l++[c])=(setD cs l).set c.toNat (.bool true):=by simp [setD]
theorem Qwz (l:Str):∀ cs:List Value,cs.all Value.oneCell' = true→(setD cs l).all Value.oneCell' = true:=by
 induction l with
 | nil=>intro cs h; exact h
 | cons c l b=>
  intro cs h
  simp only [setD,List.foldl_cons] at b ⊢
  refine b _ ?_
  rw [List.all_eq_true] at h ⊢
  intro x hx
  rcases List.mem_or_eq_of_mem_set hx with hx | rfl
  ·exact h x hx
  ·rfl
theorem Qv2:∀ n:Nat,n < 256→(match (setD setD0 digS)[n]? with | some (.bool b)=>b == (decide (48≤n) && decide (n≤57)) | _=>false)=true:=by decide +kernel
theorem Qv1 (c:UInt8):(setD setD0 digS)[c.toNat]? = some (.bool (digC c)):=by
 have h:=Qv2 c.toNat c.toBitVec.isLt
 unfold digC
 generalize (setD setD0 digS)[c.toNat]? = o at *
 cases o with
 | none=>simp at h
 | some v=>cases v <;> simp at h ⊢; exact h
section
variable {C:Ctx} {H:Heap}
theorem Qj8 {s p:Str} {K:Bool→HP} (k:K (p.isPrefixOf s) H):Qai C s p K H:=by
 apply QeV
 unfold QbV
 refine ⟨fun b d=>H=d∧b=p.isPrefixOf s,?_,?_⟩
 ·refine ift.of (fun h => ?_) (fun h => ⟨rfl, ?_⟩)
  ·have f : p.length ≤ s.length := by have := Vb h; omega
   refine ⟨by omega,by omega,by omega,s.take p.length,by simp,rfl,?_⟩
   rw [Vn,List.isPrefixOf_iff_prefix,beq_iff_eq,List.prefix_iff_eq_take]
   exact ⟨fun h=>h.symm,fun h=>h.symm⟩
  ·have f:=Vc h
   cases hh:p.isPrefixOf s with
   | false=>rfl
   | true=>
    have:=(List.isPrefixOf_iff_prefix.1 hh).length_le
    omega
 ·rintro b _ ⟨rfl,rfl⟩
  exact k
theorem Qrd {s p:Str} {K:Str→HP} (k:K (if p.isPrefixOf s then s.drop p.length else s) H):QdP C s p K H:=by
 apply QjN
 unfold Qf6
 apply QeU
 unfold QbM
 refine Qj8 ?_
 refine ift.of (fun h=>?_) (fun h=>?_)
 ·rw [if_pos h] at k
  have:=(List.isPrefixOf_iff_prefix.1 h).length_le
  exact ⟨by omega,by omega,by omega,_,by simp,k⟩
 ·rw [if_neg (by rw [h]; decide)] at k; exact k
theorem QoB {s:Str} {K:Str→Str→Bool→HP} (g:s.length≤140737488355328) (k:match cutD s with | some (a,b)=>K a b true H | none=>K s [] false H):Qe2 C s [46] K H:=by
 apply Qpv
 unfold Qlz
 apply QgN
 unfold Qdo
 have j:∀ {K:Int→HP},K (Lib.indexByte s 46) H→Qbw C s [46] K H:=by
  intro K k
  apply Qgd
  unfold QcF
  refine ift.of (fun h=>?_) (fun h=>?_)
  ·have g : [46] = s := by simpa using h
   subst g
   exact k
  ·refine QaK rfl ⟨46, by omega, rfl, ?_⟩
   apply QeW
   unfold QbW
   exact k
 refine j ?_
 rcases index_spec 46 s with ⟨d,f⟩ | ⟨i,d,a,b,f,q,r⟩
 ·rw [d]
  rw [Qj4 s f] at k
  exact Qaw rfl k
 ·rw [d]
  subst f
  rw [Qj3 a b r] at k
  subst q
  simp only [Va,Vd] at g
  refine QaK (by rw [Vj]; omega) ?_
  refine ⟨by omega,by omega,by simp; omega,a,by simp,?_⟩
  have m:(([46]:Str).length:Int)=1:=rfl
  rw [m,Qu (by omega) (by omega)]
  refine ⟨by omega,by simp; omega,by omega,b,?_,k⟩
  have o:((a.length:Int)+1).toNat=a.length+1:=by omega
  rw [List.take_of_length_le (by omega),o,List.drop_append]
  simp
def DSet (H:Heap) (b:Nat):Prop:=H b=some (true,.row (setD setD0 digS))
theorem Qoz {b:Nat} {c:UInt8} {K:Bool→HP} (h:DSet H b) (k:K (digC c) H):QaR C (some (b,0)) (c.toNat:Int) K H:=by
 apply QgD
 unfold Qc2
 refine ⟨(b,0),rfl,by omega,by have:=c.toBitVec.isLt; have:c.toNat < 256:=this; omega,digC c,?_,k⟩
 rw [Qaq h]
 have:=Qv1 c
 simpa using this
theorem Qv8 {b:Nat} {s:Str} {K:Str→HP} (x:s.length≤140737488355328) (h:DSet H b) (k:∀ t,t.length≤s.length→t.all digC=s.all digC→K t H):Qcb C s (some (b,0)) K H:=by
 apply QhD
 unfold Qea
 refine ⟨fun t i=>H=i∧t.length≤s.length∧t.all digC=s.all digC,?_,?_⟩
 rotate_left
 ·rintro t _ ⟨rfl,g,f⟩
  exact k t g f
 refine ⟨fun t i=>H=i∧t.length≤s.length∧t.all digC=s.all digC,fun t _=>t.length,⟨rfl,Nat.le_refl _,rfl⟩,?_⟩
 rintro t _ ⟨rfl,g,f⟩
 refine ift.of (fun m=>?_) (fun m=>⟨rfl,g,f⟩)
 have o:0 < t.length:=by have:=Vb m; omega
 have d:=List.ne_nil_of_length_pos o
 have r:t.dropLast++[t.getLast d]=t:=List.dropLast_concat_getLast d
 rw [Qu (by omega) (by omega)]
 refine ⟨t.getLast d,by omega,getL o rfl,?_⟩
 refine Qoz h ?_
 refine ift.of (fun j=>⟨rfl,g,f⟩) (fun j=>?_)
 have q:(t.take ((t.length:Int) - 1).toNat).drop (0:Int).toNat=t.dropLast:=by
  have:((t.length:Int) - 1).toNat=t.length - 1:=by omega
  rw [this,List.dropLast_eq_take]; simp
 refine ⟨by omega,by omega,by omega,_,q.symm,?_⟩
 have u:=List.length_dropLast (xs:=t)
 refine ⟨⟨rfl,by omega,?_⟩,by dsimp only; omega⟩
 rw [← f]
 conv=>rhs; rw [← r]
 rw [List.all_append]
 simp at j
 simp [j]
theorem Qv7 {b:Nat} {s:Str} {K:Str→HP} (j:s.length≤140737488355328) (h:DSet H b) (k:∀ t,t.all digC=s.all digC→(t=[]∨t.all digC=false)→K t H):Qcx C s (some (b,0)) K H:=by
 apply Qh4
 unfold QeI
 refine ⟨fun t g=>H=g∧t.all digC=s.all digC∧(t=[]∨t.all digC=false),?_,?_⟩
 rotate_left
 ·rintro t _ ⟨rfl,i,d⟩
  exact k t i d
 refine ⟨fun t g=>H=g∧t.length≤s.length∧t.all digC=s.all digC,fun t _=>t.length,⟨rfl,Nat.le_refl _,rfl⟩,?_⟩
 rintro t _ ⟨rfl,i,d⟩
 cases t with
 | nil=>exact Qaw rfl ⟨rfl,d,.inl rfl⟩
 | cons c t=>
  refine QaK (by rw [Vj]; simp only [Vd]; omega) ?_
  refine ⟨c,by omega,rfl,?_⟩
  refine Qoz h ?_
  refine ift.of (fun f=>⟨rfl,d,.inr ?_⟩) (fun f=>?_)
  ·simp at f; simp [f]
  ·refine ⟨by omega, by simp only [Vd]; omega, by omega, t, ?_, ⟨rfl, by simp only [Vd] at i; omega, ?_⟩, by simp⟩
   ·rw [List.take_of_length_le (by omega)]; rfl
   ·rw [← d]; simp at f; simp [f]
theorem Qq2 {K:List Value→Bool→HP} (k:K (setD setD0 digS) true H):Qac C digS K H:=by
 apply Qac.gh
 apply QiF
 unfold Qfk
 intro b n
 refine ⟨fun x t=>∃ i:Nat,x=(i:Int)∧i≤10∧t=H.put b (.row (setD setD0 (digS.take i))),fun x _=>10 - x.toNat,⟨0,rfl,by omega,rfl⟩,?_⟩
 rintro x _ ⟨i,rfl,hi,rfl⟩
 have d:(setD setD0 (digS.take i)).length=256:=by rw [Qtj]; simp [setD0]
 refine ift.of (fun h=>?_) (fun h=>?_)
 ·have f : i < digS.length := by have := Vb h; omega
  have hlt':i < 10:=f
  refine ⟨digS[i],by omega,getE f,?_⟩
  have hm:∀ c ∈ digS,c.toNat < 128:=by decide
  have q:=hm _ (Vg f)
  have o:digS.take (i+1)=digS.take i++[digS[i]]:=by rw [Vp,Vf f]; rfl
  generalize digS[i]=c at *
  refine Qaw (by rw [decide_eq_false_iff_not]; omega) ?_
  refine ⟨by omega,by omega,_,Xa ..,by rw [d]; simp; omega,?_⟩
  rw [Qu (by omega) (by omega),Xh]
  refine ⟨⟨i+1,by omega,by omega,?_⟩,by first | omega | (dsimp only; omega)⟩
  rw [o,Qu2]
  have:(b,0).2+(c.toNat:Int).toNat*1=c.toNat:=by simp
  rw [this]
 ·have g : i = 10 := by have := Vc h; have : digS.length = 10 := rfl; omega
  subst g
  have e:digS.take 10=digS:=rfl
  rw [e] at d ⊢
  have r:∀ {B:Heap},B b=some (true,.row (setD setD0 digS))→rds B (b,0) (setD setD0 digS):=fun h=>QhT h fun j v u=>by simpa using u
  refine ⟨_,d,r (Xa ..),d,Qwz _ _ (by decide +kernel),_,Xa ..,by simp,?_⟩
  have m:splice (setD setD0 digS) (b,0).2 (setD setD0 digS)=setD setD0 digS:=by
   unfold splice; simp
  rw [m,Xh]
  exact ⟨_,d,r (Xa ..),H,Gh.le (Xc n),k⟩
theorem QtS {s:Str} {K:Str→HP} (q:s.length≤140737488355328) (k:∀ t,(t=[]↔s.all digC=true)→K t H):QbZ C s digS K H:=by
 apply QbZ.gh
 apply Qoi
 unfold Qky
 refine ift.of (fun h=>?_) (fun h=>?_)
 ·have : s = [] := by simpa [digS] using h
  subst this
  exact ⟨H,Gh.refl _,k [] (by simp)⟩
 refine ⟨fun b o=>H=o∧b=false,Qaw rfl ⟨rfl,rfl⟩,?_⟩
 rintro _ _ ⟨rfl,rfl⟩
 refine Qaw rfl ?_
 refine Qq2 ?_
 intro b n
 have d:(setD setD0 digS).length=256:=by rw [Qtj]; simp [setD0]
 refine ⟨d,Qwz _ _ (by decide +kernel),_,Xa ..,by rw [d]; simp,?_⟩
 have g:splice (List.replicate 256 (.bool false:Value)) (b,0).2 (setD setD0 digS)=setD setD0 digS:=by
  unfold splice; simp [d]
 rw [g,Xh]
 refine QaK rfl ?_
 refine Qv8 q (Xa ..) fun t r i=>?_
 refine Qv7 (by omega) (Xa ..) fun u j m=>?_
 refine ⟨H,Gh.le (Xc n),k u ?_⟩
 rw [← i,← j]
 constructor
 ·rintro rfl; rfl
 ·intro h
  rcases m with f | f
  ·exact f
  ·rw [h] at f; cases f
theorem Qpa {s:Str} {K:Int→Bool→HP} (r:s.length≤140737488355328) (k:K (if numS s then (digits s:Int) else 0) (numS s) H):QhP C s K H:=by
 apply Qov
 unfold QkL
 refine Qrd ?_
 have e:(if ([45]:Str).isPrefixOf s then s.drop ([45]:Str).length else s)=unmin s:=by
  unfold unmin
  cases s with
  | nil=>rfl
  | cons c t=>
   by_cases hc:c=45
   ·subst hc; simp [List.isPrefixOf]
   ·simp [List.isPrefixOf,hc,Ne.symm hc]
 rw [e]
 have q:(unmin s).length≤s.length:=by unfold unmin; split <;> simp
 have f:digits s=(unmin s).length:=rfl
 have g:numS s=(!(unmin s).isEmpty && (unmin s).all digC && !(decide ((unmin s).head? = some 48) && decide (s≠[48]))):=rfl
 rw [f,g] at k
 clear f g e
 generalize unmin s=d at *
 refine ⟨fun b i=>H=i∧b=!(!d.isEmpty && d.all digC),?_,?_⟩
 ·refine ift.of (fun h => ⟨rfl, ?_⟩) (fun h => ?_)
  ·have : d = [] := by simpa using h
   subst this; rfl
  ·have j : d ≠ [] := by simpa using h
   refine QtS (by omega) fun t m=>⟨rfl,?_⟩
   have o : d.isEmpty = false := by cases d with
    | nil=>exact absurd rfl j
    | cons _ _=>rfl
   rw [o]
   cases hd:d.all digC with
   | true=>rw [m.2 hd]; rfl
   | false=>
    have:t≠[]:=fun e=>by rw [m.1 e] at hd; cases hd
    simpa using this
 rintro b _ ⟨rfl,rfl⟩
 refine ⟨fun b i=>H=i∧b=!(!d.isEmpty && d.all digC && !(decide (d.head? = some 48) && decide (s≠[48]))),?_,?_⟩
 ·refine ift.of (fun h => ⟨rfl, ?_⟩) (fun h => ?_)
  ·simp only [Bool.not_eq_true'] at h
   rw [h]; rfl
  ·simp only [Bool.not_eq_false'] at h
   rw [h]
   cases d with
   | nil=>simp at h
   | cons c t=>
    refine ⟨c,by omega,rfl,rfl,?_⟩
    rw [e48]
    simp only [List.head?_cons,Option.some.injEq,Bool.true_and,Bool.not_not]
    congr 1
    rw [decide_not]; congr 1
    rw [Vn]; simp
 rintro b _ ⟨rfl,rfl⟩
 refine ift.of (fun h=>?_) (fun h=>?_)
 ·simp only [Bool.not_eq_true'] at h
  rw [h] at k; exact k
 ·simp only [Bool.not_eq_false'] at h
  rw [h] at k; exact k
end
end
section
open Go Go.Proofs
section
variable {C:Ctx} {H:Heap}
theorem sEmpty {s:Str}:(s == ([]:Str))=s.isEmpty:=by cases s <;> rfl
theorem lenZ {l:List V} {n:Nat} (h:n=l.length) (m:Nat):((n:Int) == (m:Int))=decide (l.length=m):=by
 rw [Vn]; simp only [beq_iff_eq,Vj]; omega
theorem Qmr {v:V} {x:TV} {H:Heap} {K:Bool→HP} (u:VIs H v x) (A:VB v) (k:K (formV v) H):QbR C x K H:=by
 refine V.rec_ (P:=fun v=>∀ {x H} {K:Bool→HP},VIs H v x→VB v→K (formV v) H→QbR C x K H) (fun v T=>?_) v u A k
 clear u A k
 intro x H K u A k
 apply QbR.gh
 apply Qqi
 unfold Qmx
 intro G n1
 have O:=u.row
 have B:=O.len
 have Q:=A.l
 have D:=A.s
 have R:=u.kind
 have hn:=u.num
 have E:=u.txt
 have d:(H.put G (.row (Qg.c x))) G=some (true,.row (Qg.c x)):=Xa ..
 have o:=Xc n1 (g:=.row (Qg.c x)) (m:=true)
 generalize H.put G (.row (Qg.c x))=H1 at *
 refine ⟨fun b j=>H1=j∧b=okN v.k v.n v.s v.l.length,?_,?_⟩
 rotate_left
 ·rintro b _ ⟨rfl,rfl⟩
  refine ⟨fun y j=>∃ i:Nat,y.2=(i:Int)∧i≤v.l.length∧H1=j∧(y.1=true→okN v.k v.n v.s v.l.length=true∧formVs (v.l.take i)=true)∧(y.1=false→formV v=false),fun y _=>v.l.length - y.2.toNat,⟨0,rfl,Nat.zero_le _,rfl,fun h=>⟨h,rfl⟩,fun h=>by dsimp only at h; rw [QkR,h]; rfl⟩,?_⟩
  rintro ⟨f,y⟩ _ ⟨i,hy,hi,rfl,I,N⟩
  dsimp only at hy I N
  subst hy
  refine bxL d ?_
  rw [B]
  refine ift.of (fun h=>?_) (fun h=>?_)
  ·simp only [Ve,Vj] at h
   have q:i < v.l.length:=by omega
   obtain ⟨J,F⟩:=I h.2
   have r:=Vg q
   refine bxL d ?_
   refine O.ld o rfl q fun z S=>?_
   refine T _ r (S.le o) (A.at q) ?_
   dsimp only
   rw [Qu (by omega) (by omega)]
   refine ⟨⟨i+1,by omega,by omega,rfl,fun t=>⟨J,?_⟩,fun t=>?_⟩,by first | omega | (dsimp only; omega)⟩
   ·rw [QoJ q,F]; exact t
   ·rw [QkR,Qj6 r t,Bool.and_false]
  ·dsimp only
   refine ⟨H,Gh.le o,?_⟩
   cases t:f with
   | false=>rw [N t] at k; exact k
   | true=>
    rw [t] at h
    simp only [Bool.and_true,decide_eq_false_iff_not] at h
    have M:i=v.l.length:=by omega
    subst M
    obtain ⟨J,F⟩:=I t
    rw [Vl] at F
    rw [QkR,J,F] at k; exact k
 refine bxK d ?_
 rw [R]
 unfold okN
 refine ift.of (fun h=>?_) (fun h=>?_)
 ·have h : v.k = 1 := by simpa using h
  rw [if_pos h]
  refine bxN d ?_
  refine ⟨fun b j=>H1=j∧b=(v.n == 0 || v.n == 1),?_,?_⟩
  ·rw [hn]
   refine ift.of (fun h=>⟨rfl,by rw [h]; rfl⟩) (fun h=>?_)
   refine bxN d ⟨rfl,?_⟩
   rw [h,hn]; rfl
  rintro _ _ ⟨rfl,rfl⟩
  refine ⟨fun b j=>H1=j∧b=((v.n == 0 || v.n == 1) && v.s.isEmpty),?_,?_⟩
  ·refine ift.of (fun h => ?_) (fun h => ⟨rfl, by rw [h]; rfl⟩)
   refine bxS d ⟨rfl,?_⟩
   rw [h,E,sEmpty]; rfl
  rintro _ _ ⟨rfl,rfl⟩
  refine ⟨fun b j=>H1=j∧b=((v.n == 0 || v.n == 1) && v.s.isEmpty && decide (v.l.length=0)),?_,?_⟩
  ·refine ift.of (fun h => ?_) (fun h => ⟨rfl, by rw [h]; rfl⟩)
   refine bxL d ⟨rfl,?_⟩
   rw [h]; exact lenZ B 0
  rintro _ _ ⟨rfl,rfl⟩
  exact ⟨rfl,rfl⟩
 rw [if_neg (by simpa using h)]
 refine ift.of (fun h=>?_) (fun h=>?_)
 ·have h : v.k = 2 := by simpa using h
  rw [if_pos h]
  refine bxS d ?_
  refine ⟨fun b j=>H1=j∧b=(v.s.isEmpty && decide (v.l.length=0)),?_,?_⟩
  ·rw [E,sEmpty]
   refine ift.of (fun h=>?_) (fun h=>⟨rfl,by rw [h]; rfl⟩)
   refine bxL d ⟨rfl,?_⟩
   rw [h]; exact lenZ B 0
  rintro _ _ ⟨rfl,rfl⟩
  exact ⟨rfl,rfl⟩
 rw [if_neg (by simpa using h)]
 refine ift.of (fun h=>?_) (fun h=>?_)
 ·have h : v.k = 3 := by simpa using h
  rw [if_pos h]
  refine bxN d ?_
  refine ⟨fun b j=>H1=j∧b=(v.n == 0 && decide (v.l.length=0)),?_,?_⟩
  ·rw [hn]
   refine ift.of (fun h=>?_) (fun h=>⟨rfl,by rw [h]; rfl⟩)
   refine bxL d ⟨rfl,?_⟩
   rw [h]; exact lenZ B 0
  rintro _ _ ⟨rfl,rfl⟩
  refine ⟨fun b j=>H1=j∧b=(numS v.s && v.n == 0 && decide (v.l.length=0)),?_,?_⟩
  ·refine ift.of (fun h => ?_) (fun h => ⟨rfl, ?_⟩)
   ·refine bxS d ?_
    rw [E]
    refine Qo3 D ⟨rfl,?_⟩
    rw [Bool.and_assoc,h,Bool.and_true]
   ·rw [Bool.and_assoc,h,Bool.and_false]
  rintro _ _ ⟨rfl,rfl⟩
  exact ⟨rfl,rfl⟩
 rw [if_neg (by simpa using h)]
 refine ift.of (fun h=>?_) (fun h=>?_)
 ·have h : v.k = 4 := by simpa using h
  rw [if_pos h]
  refine bxN d ?_
  refine ⟨fun b j=>H1=j∧b=(v.n == 0 && decide (v.l.length=0)),?_,?_⟩
  ·rw [hn]
   refine ift.of (fun h=>?_) (fun h=>⟨rfl,by rw [h]; rfl⟩)
   refine bxL d ⟨rfl,?_⟩
   rw [h]; exact lenZ B 0
  rintro _ _ ⟨rfl,rfl⟩
  exact ⟨rfl,rfl⟩
 rw [if_neg (by simpa using h)]
 refine ift.of (fun h=>?_) (fun h=>?_)
 ·have h : v.k = 5 := by simpa using h
  rw [if_pos h]
  refine bxN d ?_
  refine ⟨fun b j=>H1=j∧b=(v.n == 0 && v.s.isEmpty),?_,?_⟩
  ·rw [hn]
   refine ift.of (fun h=>?_) (fun h=>⟨rfl,by rw [h]; rfl⟩)
   refine bxS d ⟨rfl,?_⟩
   rw [h,E,sEmpty]; rfl
  rintro _ _ ⟨rfl,rfl⟩
  refine ⟨fun b j=>H1=j∧b=(v.n == 0 && v.s.isEmpty && decide (v.l.length≠1)),?_,?_⟩
  ·refine ift.of (fun h => ?_) (fun h => ⟨rfl, by rw [h]; rfl⟩)
   refine bxL d ⟨rfl,?_⟩
   rw [h,bne,show ((x.L.len:Int) == 1)=decide (v.l.length=1) from lenZ B 1,decide_not]; rfl
  rintro _ _ ⟨rfl,rfl⟩
  exact ⟨rfl,rfl⟩
 rw [if_neg (by simpa using h)]
 refine ift.of (fun h=>?_) (fun h=>?_)
 ·have h : v.k = 6 := by simpa using h
  rw [if_pos h]
  refine bxN d ?_
  refine ⟨fun b j=>H1=j∧b=(v.n == 0 && namesS v.s),?_,?_⟩
  ·rw [hn]
   refine ift.of (fun h=>?_) (fun h=>⟨rfl,by rw [h]; rfl⟩)
   refine bxS d ?_
   rw [E]
   refine QpI D ⟨rfl,?_⟩
   rw [h]; rfl
  rintro _ _ ⟨rfl,rfl⟩
  exact ⟨rfl,rfl⟩
 rw [if_neg (by simpa using h)]
 exact ⟨rfl,rfl⟩
theorem Qxd {k n:Int} {s:Str} {m:Nat} (h:okN k n s m=true) (b:k=3):numS s=true:=by
 unfold okN at h
 rw [if_neg (by omega),if_neg (by omega),if_pos b] at h
 simp only [Ve] at h
 exact h.1.1
theorem Qra {v:V} {x:TV} {H:Heap} {K:Bool→HP} (t:VIs H v x) (u:VB v) (A:formV v=true) (k:K (fitsV v) H):QbQ C x K H:=by
 refine V.rec_ (P:=fun v=>∀ {x H} {K:Bool→HP},VIs H v x→VB v→formV v=true→K (fitsV v) H→QbQ C x K H) (fun v W=>?_) v t u A k
 clear t u A k
 intro x H K t u A k
 apply QbQ.gh
 apply Qqh
 unfold Qmw
 intro E n1
 have N:=t.row
 have T:=N.len
 have R:=u.l
 have I:=u.s
 have S:=t.kind
 have hn:=t.num
 have O:=t.txt
 rw [QkR,Ve] at A
 have d:(H.put E (.row (Qg.c x))) E=some (true,.row (Qg.c x)):=Xa ..
 have j:=Xc n1 (g:=.row (Qg.c x)) (m:=true)
 generalize H.put E (.row (Qg.c x))=H1 at *
 refine ⟨fun b D=>H1=D∧b=fitN v.k v.s v.l.length,?_,?_⟩
 rotate_left
 ·rintro b _ ⟨rfl,rfl⟩
  refine ⟨fun y D=>∃ i:Nat,y.2=(i:Int)∧i≤v.l.length∧H1=D∧(y.1=true→fitN v.k v.s v.l.length=true∧fitsVs (v.l.take i)=true)∧(y.1=false→fitsV v=false),fun y _=>v.l.length - y.2.toNat,⟨0,rfl,Nat.zero_le _,rfl,fun h=>⟨h,rfl⟩,fun h=>by dsimp only at h; rw [Qmg,h]; rfl⟩,?_⟩
  rintro ⟨f,y⟩ _ ⟨i,hy,hi,rfl,F,L⟩
  dsimp only at hy F L
  subst hy
  refine bxL d ?_
  rw [T]
  refine ift.of (fun h=>?_) (fun h=>?_)
  ·simp only [Ve,Vj] at h
   have o:i < v.l.length:=by omega
   obtain ⟨G,B⟩:=F h.2
   have q:=Vg o
   refine bxL d ?_
   refine N.ld j rfl o fun z U=>?_
   refine W _ q (U.le j) (u.at o) (QpW q A.2) ?_
   dsimp only
   rw [Qu (by omega) (by omega)]
   refine ⟨⟨i+1,by omega,by omega,rfl,fun r=>⟨G,?_⟩,fun r=>?_⟩,by first | omega | (dsimp only; omega)⟩
   ·rw [QlU o,B]; exact r
   ·have Q : fitsVs (v.l.take (i + 1)) = false := by rw [QlU o]; rw [r, Bool.and_false]
    have M:=Qi1 (v.l.take (i+1)) (v.l.drop (i+1))
    rw [List.take_append_drop,Q] at M
    rw [Qmg,M]; simp
  ·dsimp only
   refine ⟨H,Gh.le j,?_⟩
   cases r:f with
   | false=>rw [L r] at k; exact k
   | true=>
    rw [r] at h
    simp only [Bool.and_true,decide_eq_false_iff_not] at h
    have J:i=v.l.length:=by omega
    subst J
    obtain ⟨G,B⟩:=F r
    rw [Vl] at B
    rw [Qmg,G,B] at k; exact k
 refine bxK d ?_
 rw [S]
 unfold fitN
 refine ift.of (fun h=>?_) (fun h=>?_)
 ·have h : v.k = 3 := by simpa using h
  rw [if_pos h]
  refine bxS d ?_
  rw [O]
  refine Qo2 I (Qxd A.1 h) ⟨rfl,?_⟩
  rw [Vm]; omega
 rw [if_neg (by simpa using h)]
 refine ift.of (fun h=>?_) (fun h=>?_)
 ·have h : v.k = 4 := by simpa using h
  rw [if_pos h]
  refine bxS d ⟨rfl,?_⟩
  rw [O,Vm]; omega
 rw [if_neg (by simpa using h)]
 refine ift.of (fun h=>?_) (fun h=>?_)
 ·have h : v.k = 5 := by simpa using h
  rw [if_pos h]
  refine bxL d ⟨rfl,?_⟩
  rw [Vm]; omega
 rw [if_neg (by simpa using h)]
 refine ift.of (fun h=>?_) (fun h=>?_)
 ·have h : v.k = 6 := by simpa using h
  rw [if_pos h]
  refine bxL d ⟨rfl,?_⟩
  rw [Vm]; omega
 rw [if_neg (by simpa using h)]
 exact ⟨rfl,rfl⟩
theorem QpG {v:V} {x:TV} {H:Heap} {K:Int→HP} (o:VIs H v x) (j:VB v) (q:vsize v≤4611686018427387904) (k:K (checkV v) H):Qbx C x K H:=by
 apply Qbx.gh
 apply Qk4
 unfold QhU
 intro i n1
 have d:(H.put i (.row (Qg.c x))) i=some (true,.row (Qg.c x)):=Xa ..
 have b:=Xc n1 (g:=.row (Qg.c x)) (m:=true)
 generalize H.put i (.row (Qg.c x))=H1 at *
 unfold checkV at k
 refine bxV d (QpH (o.le b) j q ?_)
 refine ift.of (fun h=>?_) (fun h=>?_)
 ·have h:=Vb h
  rw [if_pos (by omega)] at k
  exact ⟨H,Gh.le b,k⟩
 have h:=Vc h
 rw [if_neg (by omega)] at k
 refine bxV d (Qmr (o.le b) j ?_)
 refine ift.of (fun h=>?_) (fun h=>?_)
 ·have h : formV v = false := by simpa using h
  rw [if_pos h] at k
  exact ⟨H,Gh.le b,k⟩
 have f:formV v=true:=by simpa using h
 rw [if_neg (by rw [f]; decide)] at k
 refine bxV d (Qra (o.le b) j f ?_)
 refine ift.of (fun h=>?_) (fun h=>?_)
 ·have h : fitsV v = false := by simpa using h
  rw [if_pos h] at k
  exact ⟨H,Gh.le b,k⟩
 have f:fitsV v=true:=by simpa using h
 rw [if_neg (by rw [f]; decide)] at k
 exact ⟨H,Gh.le b,k⟩
end
end
section
open Go Go.Proofs
theorem QuL (s:Str):namesS s=(match cutD s with | some (a,b)=>nameS a && nameS b | none=>nameS s && !decide (s=trueS) && !decide (s=falseS)):=by
 unfold namesS
 by_cases ht:s=trueS
 ·subst ht; rfl
 by_cases hf:s=falseS
 ·subst hf; rfl
 rw [if_neg (fun h=>h.elim ht hf)]
 cases hc:cutD s with
 | none=>simp [ht,hf]
 | some p=>rfl
section
variable {C:Ctx} {H:Heap}
theorem Qw3 {v:V} {x:TV} {H:Heap} {K:Bool→Bool→HP} (W:VIs H v x) (X:VB v) (k:∀ g,(formV v=true→g=fitsV v)→K (formV v) g H):Qao C x K H:=by
 refine V.rec_ (P:=fun v=>∀ {x H} {K:Bool→Bool→HP},VIs H v x→VB v→(∀ g,(formV v=true→g=fitsV v)→K (formV v) g H)→Qao C x K H) (fun v ih=>?_) v W X k
 clear W X k
 intro x H K W X k
 apply Qao.gh
 apply Ql9
 unfold Qhx
 intro F n1
 have hr:=W.row
 have Y:=hr.len
 have d5:=X.l
 have U:=X.s
 have hk:=W.kind
 have hn:=W.num
 have R:=W.txt
 have d:(H.put F (.row (Qg.c x))) F=some (true,.row (Qg.c x)):=Xa ..
 have a1:=Xc n1 (g:=.row (Qg.c x)) (m:=true)
 generalize H.put F (.row (Qg.c x))=H1 at *
 refine bxN d ?_
 refine ⟨fun b A=>H1=A,?_,?_⟩
 ·exact ift.of (fun _=>bxS d rfl) (fun _=>rfl)
 rintro _ _ rfl
 refine ⟨fun b A=>H1=A,?_,?_⟩
 ·exact ift.of (fun _=>bxL d rfl) (fun _=>rfl)
 rintro _ _ rfl
 refine ⟨fun b A=>H1=A∧b.1=okN v.k v.n v.s v.l.length∧(b.1=true→b.2=fitN v.k v.s v.l.length),?_,?_⟩
 rotate_left
 ·rintro ⟨o,g⟩ _ ⟨rfl,ho,hg⟩
  dsimp only at ho hg ⊢
  subst ho
  refine bxL d ?_
  refine ⟨fun y A=>∃ i:Nat,y.2.2=(i:Int)∧i≤v.l.length∧H.le A∧y.1=(okN v.k v.n v.s v.l.length && formVs (v.l.take i))∧(y.1=true→y.2.1=(fitN v.k v.s v.l.length && fitsVs (v.l.take i))),fun y _=>v.l.length - y.2.2.toNat,⟨0,rfl,Nat.zero_le _,a1,by simp [formVs],fun h=>by simp [fitsVs,hg h]⟩,?_⟩
  rintro ⟨f,g',y⟩ H2 ⟨i,hy,hi,hle,S,E⟩
  dsimp only at hy S E
  subst hy
  dsimp only
  rw [Y]
  refine ift.of (fun h=>?_) (fun h=>?_)
  ·have M : i < v.l.length := by have := Vb h; omega
   have a2:=Vg M
   refine hr.ld hle rfl M fun z hz=>?_
   intro b3 b7
   refine ⟨_,Xa ..,by simp [Qg.c],?_⟩
   rw [Xh]
   have b4:splice (Qg.c Qg.zero) (b3,0).2 (Qg.c z)=Qg.c z:=rfl
   rw [b4]
   have Q:=hle.trans (Xc b7 (g:=.row (Qg.c z)) (m:=true))
   refine bxV (Xa ..) ?_
   refine ih _ a2 (hz.le Q) (X.at M) fun q hq=>?_
   rw [Qu (by omega) (by omega)]
   refine ⟨⟨i+1,by omega,by omega,Q,?_,fun O=>?_⟩,by first | omega | (dsimp only; omega)⟩
   ·rw [S,QoJ M,Bool.and_assoc]
   ·rw [Ve] at O
    rw [E O.1,QlU M,hq O.2,Bool.and_assoc]
  ·have b5 : i = v.l.length := by have := Vc h; omega
   subst b5
   rw [Vl] at S E
   rw [← QkR] at S
   rw [← Qmg] at E
   refine ⟨H,Gh.le hle,?_⟩
   rw [S] at E ⊢
   exact k g' E
 refine bxK d ?_
 rw [hk]
 refine ift.of (fun h=>?_) (fun h=>?_)
 ·have h : v.k = 1 := by simpa using h
  have I:okN v.k v.n v.s v.l.length=((v.n == 0 || v.n == 1) && v.s.isEmpty && decide (v.l.length=0)):=by rw [h]; rfl
  have J:fitN v.k v.s v.l.length=true:=by rw [h]; rfl
  rw [I,J]
  refine bxN d ?_
  refine ⟨fun b A=>H1=A∧b=(v.n == 0 || v.n == 1),?_,?_⟩
  ·rw [hn]
   refine ift.of (fun h=>⟨rfl,by rw [h]; rfl⟩) (fun h=>?_)
   refine bxN d ⟨rfl,?_⟩
   rw [h,hn]; rfl
  rintro _ _ ⟨rfl,rfl⟩
  refine ⟨fun b A=>H1=A∧b=((v.n == 0 || v.n == 1) && v.s.isEmpty),?_,?_⟩
  ·refine ift.of (fun h => ?_) (fun h => ⟨rfl, by rw [h]; rfl⟩)
   refine bxS d ⟨rfl,?_⟩
   rw [h,R,sEmpty]; rfl
  rintro _ _ ⟨rfl,rfl⟩
  refine ⟨fun b A=>H1=A∧b=((v.n == 0 || v.n == 1) && v.s.isEmpty && decide (v.l.length=0)),?_,?_⟩
  ·refine ift.of (fun h => ?_) (fun h => ⟨rfl, by rw [h]; rfl⟩)
   refine bxL d ⟨rfl,?_⟩
   rw [h]; exact lenZ Y 0
  rintro _ _ ⟨rfl,rfl⟩
  exact ⟨rfl,rfl,fun _=>rfl⟩
 have g1:v.k≠1:=by simpa using h
 refine ift.of (fun h=>?_) (fun h=>?_)
 ·have h : v.k = 2 := by simpa using h
  have I:okN v.k v.n v.s v.l.length=(v.s.isEmpty && decide (v.l.length=0)):=by rw [h]; rfl
  have J:fitN v.k v.s v.l.length=true:=by rw [h]; rfl
  rw [I,J]
  refine bxS d ?_
  refine ⟨fun b A=>H1=A∧b=(v.s.isEmpty && decide (v.l.length=0)),?_,?_⟩
  ·rw [R,sEmpty]
   refine ift.of (fun h=>?_) (fun h=>⟨rfl,by rw [h]; rfl⟩)
   refine bxL d ⟨rfl,?_⟩
   rw [h]; exact lenZ Y 0
  rintro _ _ ⟨rfl,rfl⟩
  exact ⟨rfl,rfl,fun _=>rfl⟩
 have g2:v.k≠2:=by simpa using h
 refine ift.of (fun h=>?_) (fun h=>?_)
 ·have h : v.k = 3 := by simpa using h
  have I:okN v.k v.n v.s v.l.length=(numS v.s && v.n == 0 && decide (v.l.length=0)):=by rw [h]; rfl
  have J:fitN v.k v.s v.l.length=decide (digits v.s≤200):=by rw [h]; rfl
  rw [I,J]
  refine bxS d ?_
  rw [R]
  refine Qpa U ?_
  refine ⟨fun b A=>H1=A∧b=(numS v.s && v.n == 0),?_,?_⟩
  ·refine ift.of (fun h => ?_) (fun h => ⟨rfl, by rw [h]; rfl⟩)
   refine bxN d ⟨rfl,?_⟩
   rw [h,hn]; rfl
  rintro _ _ ⟨rfl,rfl⟩
  refine ⟨fun b A=>H1=A∧b=(numS v.s && v.n == 0 && decide (v.l.length=0)),?_,?_⟩
  ·refine ift.of (fun h => ?_) (fun h => ⟨rfl, by rw [h]; rfl⟩)
   refine bxL d ⟨rfl,?_⟩
   rw [h]; exact lenZ Y 0
  rintro _ _ ⟨rfl,rfl⟩
  refine ⟨rfl,rfl,fun O=>?_⟩
  dsimp only at O ⊢
  simp only [Ve] at O
  rw [O.1.1,if_pos rfl,Vm]; omega
 have g3:v.k≠3:=by simpa using h
 refine ift.of (fun h=>?_) (fun h=>?_)
 ·have h : v.k = 4 := by simpa using h
  have I:okN v.k v.n v.s v.l.length=(v.n == 0 && decide (v.l.length=0)):=by rw [h]; rfl
  have J:fitN v.k v.s v.l.length=decide (v.s.length≤4096):=by rw [h]; rfl
  rw [I,J]
  have ed:decide ((v.s.length:Int)≤4096)=decide (v.s.length≤4096):=by rw [Vm]; omega
  refine ⟨fun b A=>H1=A∧b=((v.n == 0 && decide (v.l.length=0)),decide (v.s.length≤4096)),?_,?_⟩
  ·refine ⟨H1,Heap.le.refl _,bxN d (bxS d ?_)⟩
   rw [hn,R,ed]
   refine ift.of (fun h=>?_) (fun h=>⟨rfl,by rw [h]; rfl⟩)
   refine bxL d ⟨rfl,?_⟩
   rw [h,show ((x.L.len:Int) == 0)=decide (v.l.length=0) from lenZ Y 0]; rfl
  rintro _ _ ⟨rfl,rfl⟩
  exact ⟨rfl,rfl,fun _=>rfl⟩
 have g4:v.k≠4:=by simpa using h
 refine ift.of (fun h=>?_) (fun h=>?_)
 ·have h : v.k = 5 := by simpa using h
  have I:okN v.k v.n v.s v.l.length=(v.n == 0 && v.s.isEmpty && decide (v.l.length≠1)):=by rw [h]; rfl
  have J:fitN v.k v.s v.l.length=decide (v.l.length≤16):=by rw [h]; rfl
  rw [I,J]
  have ed:decide ((x.L.len:Int)≤16)=decide (v.l.length≤16):=by rw [Vm]; omega
  refine ⟨fun b A=>H1=A∧b=((v.n == 0 && v.s.isEmpty && decide (v.l.length≠1)),decide (v.l.length≤16)),?_,?_⟩
  ·refine ⟨H1,Heap.le.refl _,bxN d (bxL d ?_)⟩
   rw [hn,ed]
   refine ift.of (fun h=>?_) (fun h=>⟨rfl,by rw [h]; rfl⟩)
   refine bxS d ?_
   rw [R,sEmpty]
   refine ift.of (fun E=>?_) (fun E=>⟨rfl,by rw [E]; simp⟩)
   refine bxL d ⟨rfl,?_⟩
   rw [h,E,bne,show ((x.L.len:Int) == 1)=decide (v.l.length=1) from lenZ Y 1,decide_not]; rfl
  rintro _ _ ⟨rfl,rfl⟩
  exact ⟨rfl,rfl,fun _=>rfl⟩
 have g5:v.k≠5:=by simpa using h
 refine ift.of (fun h=>?_) (fun h=>?_)
 ·have h : v.k = 6 := by simpa using h
  have I:okN v.k v.n v.s v.l.length=(v.n == 0 && namesS v.s):=by rw [h]; rfl
  have J:fitN v.k v.s v.l.length=decide (v.l.length≤8):=by rw [h]; rfl
  rw [I,J]
  have ed:decide ((x.L.len:Int)≤8)=decide (v.l.length≤8):=by rw [Vm]; omega
  refine bxS d ?_
  rw [R]
  refine QoB U ?_
  have a3:∀ (a b:Str) (G:Bool),a.length≤140737488355328→b.length≤140737488355328→namesS v.s=(if G then nameS a && nameS b else nameS a && !decide (v.s=trueS) && !decide (v.s=falseS))→
   jn (α := Bool × Bool) (fun N Z => H1 = Z ∧ N.1 = (v.n == 0 && namesS v.s) ∧ (N.1 = true → N.2 = decide (v.l.length ≤ 8)))
    (fun r=>dr H1 fun j=>
    ldI j .i64 ((F,0).1,(F,0).2+1) fun a6=>
    ldL j ((F,0).1,(F,0).2+3) fun u=>
    ift ((a6:Int) == 0)
    (Qer C a (fun a4 B=>
    Heap.le j B∧
    ift a4
    (ift G
    (Qer C b (fun a5 D=>
    Heap.le j D∧
    ift a5
    (r (true,(decide (((Sl.len u:Int):Int)≤8))) D)
    (ift (!G)
    (ldS j ((F,0).1,(F,0).2+2) fun a7=>
    ift (!(a7 == ([116,114,117,101]:Str)))
    (ldS j ((F,0).1,(F,0).2+2) fun a8=>
    r ((!(a8 == ([102,97,108,115,101]:Str))),(decide (((Sl.len u:Int):Int)≤8))) D)
    (r (false,(decide (((Sl.len u:Int):Int)≤8))) D))
    (r (false,(decide (((Sl.len u:Int):Int)≤8))) D))) B)
    (ift (!G)
    (ldS j ((F,0).1,(F,0).2+2) fun a9=>
    ift (!(a9 == ([116,114,117,101]:Str)))
    (ldS j ((F,0).1,(F,0).2+2) fun b0=>
    r ((!(b0 == ([102,97,108,115,101]:Str))),(decide (((Sl.len u:Int):Int)≤8))) B)
    (r (false,(decide (((Sl.len u:Int):Int)≤8))) B))
    (r (false,(decide (((Sl.len u:Int):Int)≤8))) B)))
    (r (false,(decide (((Sl.len u:Int):Int)≤8))) B)) H1)
    (r (false,(decide (((Sl.len u:Int):Int)≤8))) H1)):=by
   intro a b G ha hb b6
   refine ⟨fun y A=>H1=A∧y=((v.n == 0 && namesS v.s),decide (v.l.length≤8)),?_,?_⟩
   ·refine ⟨H1,Heap.le.refl _,bxN d (bxL d ?_)⟩
    rw [hn,ed]
    refine ift.of (fun h=>?_) (fun h=>⟨rfl,by rw [h]; rfl⟩)
    refine Qm1 ha ⟨Heap.le.refl _,?_⟩
    rw [h,b6]
    refine ift.of (fun E=>?_) (fun E=>⟨rfl,by rw [E]; cases G <;> rfl⟩)
    rw [E]
    have eq:∀ t:Str,(v.s == t)=decide (v.s=t):=fun t=>by rw [Vn]; simp
    cases G with
    | true=>
     refine QaK rfl ?_
     refine Qm1 hb ⟨Heap.le.refl _,?_⟩
     exact ift.of (fun T=>⟨rfl,by rw [T]; rfl⟩) (fun T=>Qaw rfl ⟨rfl,by rw [T]; rfl⟩)
    | false=>
     refine Qaw rfl (QaK rfl ?_)
     refine bxS d ?_
     rw [R,show (v.s == ([116,114,117,101]:Str))=decide (v.s=trueS) from eq _]
     refine ift.of (fun T=>?_) (fun T=>⟨rfl,?_⟩)
     ·refine bxS d ⟨rfl,?_⟩
      rw [R,show (v.s == ([102,97,108,115,101]:Str))=decide (v.s=falseS) from eq _,T]; rfl
     ·rw [T]; rfl
   ·rintro _ _ ⟨rfl,rfl⟩
    exact ⟨rfl,rfl,fun _=>rfl⟩
  have hc:=QuL v.s
  cases hcd:cutD v.s with
  | none=>
   rw [hcd] at hc
   exact a3 _ _ _ U (by simp) hc
  | some p=>
   obtain ⟨a,b⟩:=p
   rw [hcd] at hc
   have c0:a.length≤v.s.length∧b.length≤v.s.length:=by
    by_cases hm:(46:UInt8) ∈ v.s
    ·obtain ⟨a',b',e1,e2⟩:=Qn0 _ hm
     have:=Qj3 a' b' e2
     rw [← e1,hcd] at this
     injection this with this; injection this with S E
     subst S; subst E
     rw [e1]; simp; omega
    ·rw [Qj4 _ hm] at hcd; cases hcd
   exact a3 _ _ _ (by omega) (by omega) hc
 have g6:v.k≠6:=by simpa using h
 have I:okN v.k v.n v.s v.l.length=false:=by unfold okN; rw [if_neg g1,if_neg g2,if_neg g3,if_neg g4,if_neg g5,if_neg g6]
 rw [I]
 exact ⟨rfl,rfl,fun O=>by cases O⟩
theorem QlK {v:V} {x:TV} {H:Heap} {K:Int→HP} (o:VIs H v x) (j:VB v) (k:K (checkV v) H):QbU C x K H:=by
 apply QbU.gh
 apply QpD
 unfold QlH
 intro i n1
 have d:(H.put i (.row (Qg.c x))) i=some (true,.row (Qg.c x)):=Xa ..
 have b:=Xc n1 (g:=.row (Qg.c x)) (m:=true)
 generalize H.put i (.row (Qg.c x))=H1 at *
 unfold checkV at k
 refine bxV d (QpL (m:=65) (o.le b) j (by omega) fun r h0 q t=>?_)
 refine ift.of (fun h=>?_) (fun h=>?_)
 ·have h:=Vb h
  rw [if_pos (by omega)] at k
  exact ⟨H,Gh.le b,k⟩
 have h:=Vc h
 rw [if_neg (by omega)] at k
 refine bxV d (Qw3 (o.le b) j fun g hg=>?_)
 refine ift.of (fun h=>?_) (fun h=>?_)
 ·have h : formV v = false := by simpa using h
  rw [if_pos h] at k
  exact ⟨H,Gh.le b,k⟩
 have f:formV v=true:=by simpa using h
 rw [if_neg (by rw [f]; decide)] at k
 rw [hg f]
 refine ift.of (fun h=>?_) (fun h=>?_)
 ·have h : fitsV v = false := by simpa using h
  rw [if_pos h] at k
  exact ⟨H,Gh.le b,k⟩
 have f:fitsV v=true:=by simpa using h
 rw [if_neg (by rw [f]; decide)] at k
 exact ⟨H,Gh.le b,k⟩
end
end
section
open Go Go.Proofs
section
variable {C:Ctx} {H:Heap}
theorem QvK (v:V):((checkV v:Int) == 0)=mayV v:=by unfold mayV; rw [Vn]; simp
theorem Qp5:∀ {l m:List V},sameVs l m=true→l.length=m.length
 | [],[],_=>rfl
 | [],_::_,h=>by simp [sameVs] at h
 | _::_,[],h=>by simp [sameVs] at h
 | v::l,w::m,h=>by
  simp only [sameVs,Ve] at h
  have:=Qp5 h.2
  simp [this]
theorem Qsc {l m:List V} {s t:Sl} {H:Heap} {K:Bool→HP} (j:VRow H s l) (o:VRow H t m) (D:l.length≤140737488355328)
 (u:∀ v ∈ l,∀ w,∀ {x y:TV} {K:Bool→HP},VIs H v x→VIs H w y→w ∈ m→K (sameV v w) H→Qbk C x y K H) (k:K (sameVs l m) H):QgT C s t K H:=by
 apply QnR
 unfold Qjl
 rw [j.len,o.len]
 by_cases hlm:l.length=m.length
 rotate_left
 ·refine QaK (by simp; omega) ?_
  cases hh:sameVs l m with
  | true=>exact absurd (Qp5 hh) hlm
  | false=>rw [hh] at k; exact k
 refine Qaw (by simp; omega) ?_
 refine ⟨fun x q=>∃ i:Nat,x=(i:Int)∧i≤l.length∧H=q∧sameVs l m=sameVs (l.drop i) (m.drop i),fun x _=>l.length - x.toNat,⟨0,rfl,Nat.zero_le _,rfl,rfl⟩,?_⟩
 rintro x _ ⟨i,rfl,hi,rfl,b⟩
 refine ift.of (fun h=>?_) (fun h=>?_)
 ·have d : i < l.length := by have := Vb h; omega
  have f:i < m.length:=by omega
  have A:=Vg d
  have B:=Vg f
  rw [List.drop_eq_getElem_cons d,List.drop_eq_getElem_cons f] at b
  simp only [sameVs] at b
  refine ⟨H,Heap.le.refl _,?_⟩
  refine j.ld (Heap.le.refl _) rfl d fun y hy=>?_
  refine o.ld (Heap.le.refl _) rfl f fun z r=>?_
  refine u _ A _ hy r B ⟨Heap.le.refl _,?_⟩
  refine ift.of (fun h=>?_) (fun h=>?_)
  ·have h : sameV l[i] m[i] = false := by simpa using h
   rw [b,h] at k; exact k
  ·have h : sameV l[i] m[i] = true := by simpa using h
   rw [h,Bool.true_and] at b
   rw [Qu (by omega) (by omega)]
   exact ⟨⟨i+1,by omega,by omega,rfl,b⟩,by first | omega | (dsimp only; omega)⟩
 ·have g : i = l.length := by have := Vc h; omega
  rw [g,List.drop_length,hlm,List.drop_length] at b
  rw [b] at k; exact k
theorem Qu0 (v w:V):sameV v w=(v.k == w.k && v.n == w.n && decide (v.s=w.s) && sameVs v.l w.l):=by
 obtain ⟨k,n,s,l⟩:=v
 obtain ⟨b,f,g,d⟩:=w
 simp only [sameV,V.k,V.n,V.s,V.l]
 rfl
theorem QtY {v w:V} {x y:TV} {H:Heap} {K:Bool→HP} (i:VIs H v x) (j:VIs H w y) (t:VB v) (k:K (sameV v w) H):Qbk C x y K H:=by
 refine V.rec_ (P:=fun v=>∀ {w x y H} {K:Bool→HP},VIs H v x→VIs H w y→VB v→K (sameV v w) H→Qbk C x y K H) (fun v z=>?_) v i j t k
 clear i j t k
 intro w x y H K i j t k
 apply Qbk.gh
 apply Qqg
 unfold Qmv
 intro r n1 b3 n3
 have f:((H.put r (.row (Qg.c x))).put b3 (.row (Qg.c y))) b3=some (true,.row (Qg.c y)):=Xa ..
 have u:r≠b3:=fun e=>by rw [e,Xa] at n3; cases n3
 have d:((H.put r (.row (Qg.c x))).put b3 (.row (Qg.c y))) r=some (true,.row (Qg.c x)):=by rw [Xb _ _ _ u,Xa]
 have hle:=(Xc n1 (g:=.row (Qg.c x)) (m:=true)).trans (Xc n3 (g:=.row (Qg.c y)) (m:=true))
 generalize (H.put r (.row (Qg.c x))).put b3 (.row (Qg.c y))=H1 at *
 have k':∃ H0,Gh C H1 H0∧K (sameV v w) H0:=⟨H,Gh.le hle,k⟩
 rw [Qu0] at k'
 refine bxK d (bxK f ?_)
 rw [i.kind,j.kind]
 refine ⟨fun b o=>H1=o∧b=(v.k == w.k && v.n == w.n),?_,?_⟩
 ·refine ift.of (fun h => ?_) (fun h => ⟨rfl, by rw [h]; rfl⟩)
  refine bxN d (bxN f ⟨rfl,?_⟩)
  rw [h,i.num,j.num]; rfl
 rintro _ _ ⟨rfl,rfl⟩
 refine ⟨fun b o=>H1=o∧b=(v.k == w.k && v.n == w.n && decide (v.s=w.s)),?_,?_⟩
 ·refine ift.of (fun h => ?_) (fun h => ⟨rfl, by rw [h]; rfl⟩)
  refine bxS d (bxS f ⟨rfl,?_⟩)
  rw [h,i.txt,j.txt,Bool.true_and,Vn]; simp
 rintro _ _ ⟨rfl,rfl⟩
 refine ⟨fun b o=>H1=o∧b=(v.k == w.k && v.n == w.n && decide (v.s=w.s) && sameVs v.l w.l),?_,?_⟩
 ·refine ift.of (fun h => ?_) (fun h => ⟨rfl, by rw [h]; rfl⟩)
  refine bxL d (bxL f ?_)
  refine Qsc (i.row.le hle) (j.row.le hle) t.l (fun p hp q {D E} {B} hx hy _ A=>z p hp hx hy (t.ls.mem hp) A) ⟨rfl,?_⟩
  rw [h]; rfl
 rintro _ _ ⟨rfl,rfl⟩
 exact k'
end
end
section
open Go
section
variable {H:Type} {enc:TypeId×Value→H} {P:Program} {W:World}
theorem Qp8 {t e : TypeId} {n : Nat} {cs : List Value} {x : DataW H × List MemPlace} (ht : P.underlying t = some (.slice e)) (hz0 : 0 < P.cellsOf e) (h : DataW.trod enc P W 0 (fun _ => true) true n t cs = some x) :
 ∃ (s:Sl) (css:List (List Value)) (ys:List (DataW H×List MemPlace)) (m:Nat),m < n∧cs=[slv s]∧s.len≤s.cap∧css.length=s.len∧ys.length=s.len∧rdsl (heapOf W) s css.flatten∧sizeDs (ys.map (·.1))+1≤sizeD x.1∧
  ∀ (i:Nat) (c:List Value) (y:DataW H×List MemPlace),css[i]? = some c→ys[i]? = some y→c.length=P.cellsOf e∧DataW.trod enc P W 0 (fun _=>true) true m e c=some y:=by
 rcases DataW.trod_slice ht h with ⟨h0,hx⟩ | ⟨a,len,cap,elems,rest,m,rfl,hcs,hx,hb,hl,hm,hlen,hel,hsp,hns⟩
 ·have : 0 < n := by cases n with
   | zero=>simp [DataW.trod] at h
   | succ n=>omega
  exact ⟨Sl.nil,[],[],0,this,h0,Nat.le_refl _,rfl,rfl,.inl rfl,by rw [hx]; simp [sizeD,sizeDs],fun i c y hc=>by simp at hc⟩
 ·have hall : ∀ i, i < len → ∃ c, W.cells? 0 (a.add (i * P.cellsOf e)) (P.cellsOf e) = some c ∧ ∀ y, elems[i]? = some y → DataW.trod enc P W 0 (fun _ => true) true m e c = some y := by
   intro i hi
   have h1:=hel i hi
   have h2:i < elems.length:=by omega
   rw [Vf h2] at h1
   rw [Option.bind_eq_some_iff] at h1
   obtain ⟨c,hc,ht⟩:=h1
   exact ⟨c,hc,fun y hy=>by rw [Vf h2] at hy; injection hy with hy; subst hy; exact ht⟩
  obtain ⟨css,hcl,hcss⟩:=listOf hall
  obtain ⟨b,o,sp⟩:=a
  refine ⟨⟨some (b,o),len,cap,sp⟩,css,elems,m,Nat.lt_succ_self _,by rw [hcs]; rfl,hl,hcl,hlen,?_,by rw [hx]; simp only [sizeD]; omega,fun i c y hc hy=>?_⟩
  ·rcases Nat.eq_zero_or_pos len with h0 | h0
   ·left
    have:css=[]:=List.length_eq_zero_iff.1 (by omega)
    simp [this]
   ·obtain ⟨c0,hc0,_⟩:=hall 0 h0
    obtain ⟨_,hl0,hcell0⟩:=World.cells?_some hc0
    have hsp0:sp=none:=by
     have h1:=hcell0 0 hz0
     rw [Vf (by omega)] at h1
     have:=Qoy h1
     simpa [Addr.add] using this
    subst hsp0
    right
    refine ⟨rfl,(b,o),rfl,Qq9 (z:=P.cellsOf e) (fun c hc=>?_) fun i c hc=>?_⟩
    ·obtain ⟨i,hi,rfl⟩:=List.getElem_of_mem hc
     obtain ⟨h1,_⟩:=hcss i _ (Vf hi)
     exact (World.cells?_some h1).2.1
    ·obtain ⟨h1,_⟩:=hcss i c hc
     obtain ⟨_,hcl1,hcell⟩:=World.cells?_some h1
     refine Qff fun j v hj=>QrW ?_
     have hjl:j < P.cellsOf e:=by rw [← hcl1]; exact (List.getElem?_eq_some_iff.1 hj).1
     have h2:=hcell j hjl
     rw [hj] at h2
     rw [← h2]
     have e1:(⟨b,o,none⟩:Addr)=adv (b,o):=rfl
     rw [e1,Qgh,Qgh]
  ·obtain ⟨h1,h2⟩:=hcss i c hc
   exact ⟨(World.cells?_some h1).2.1,h2 y hy⟩
structure ValT (P:Program) (t tl:TypeId):Prop where
 st:∃ fs:Array Field,P.underlying t=some (.struct fs)∧fs.size=4∧(∃ f tk,fs[0]? = some f∧f.type=tk∧f.offset=0∧P.underlying tk=some (.int .u8)∧P.cellsOf tk=1)∧(∃ f tk,fs[1]? = some f∧f.type=tk∧f.offset=1∧P.underlying tk=some (.int .i64)∧P.cellsOf tk=1)∧(∃ f tk,fs[2]? = some f∧f.type=tk∧f.offset=2∧P.underlying tk=some .string∧P.cellsOf tk=1)∧(∃ f,fs[3]? = some f∧f.type=tl∧f.offset=3∧P.cellsOf tl=1)
 cells:P.cellsOf t=4
 sl:P.underlying tl=some (.slice t)
mutual
def vbulk:V→Nat
 | .mk k n s l=>vbulks l+s.length+1
def vbulks:List V→Nat
 | []=>0
 | v::l=>vbulk v+vbulks l
end
theorem Qtp (v:V):vbulk v=vbulks v.l+v.s.length+1:=by obtain ⟨k,n,s,l⟩:=v; rfl
theorem Qqb:∀ l:List V,l.length≤vbulks l
 | []=>by simp [vbulks]
 | v::l=>by have:=Qqb l; have:=Qtp v; simp only [vbulks,Vd]; omega
theorem QvV {t tl:TypeId} (J:ValT P t tl) {d:List (List Value)} {ys:List (DataW H×List MemPlace)} {m:Nat} {s:Sl} (K:d.length=s.len) (hy:ys.length=s.len) (E:rdsl (heapOf W) s d.flatten)
 (F:∀ (i:Nat) (c:List Value) (y:DataW H×List MemPlace),d[i]? = some c→ys[i]? = some y→∃ (v:V) (x:TV),c=Qg.c x∧VIs (heapOf W) v x∧VB v∧vbulk v≤sizeD y.1) :
 ∃ l:List V,VRow (heapOf W) s l∧VBs l∧vbulks l≤sizeDs (ys.map (·.1)):=by
 have q:∀ (d:List (List Value)) (ys:List (DataW H×List MemPlace)),d.length=ys.length→(∀ (i:Nat) (c:List Value) (y:DataW H×List MemPlace),d[i]? = some c→ys[i]? = some y→∃ (v:V) (x:TV),c=Qg.c x∧VIs (heapOf W) v x∧VB v∧vbulk v≤sizeD y.1)→
  ∃ (l:List V) (xs:List TV),d.flatten=xs.flatMap Qg.c∧d.length=xs.length∧VsAre (heapOf W) l xs∧VBs l∧vbulks l≤sizeDs (ys.map (·.1)):=by
  intro d
  induction d with
  | nil=>intro ys h _; exact ⟨[],[],rfl,rfl,trivial,trivial,by simp [vbulks]⟩
  | cons c d o=>
   intro ys h z
   cases ys with
   | nil=>simp at h
   | cons y ys=>
    obtain ⟨v,x,B,C,D,I⟩:=z 0 c y rfl rfl
    obtain ⟨l,xs,f,r,g,j,u⟩:=o ys (by simpa using h) fun i A G a b=>z (i+1) A G (by simpa using a) (by simpa using b)
    refine ⟨v::l,x::xs,by rw [List.flatten_cons,List.flatMap_cons,f,B],by simp [r],⟨C,g⟩,⟨D,j⟩,?_⟩
    simp only [vbulks,List.map_cons,sizeDs]; omega
 obtain ⟨l,xs,f,r,g,j,u⟩:=q d ys (by omega) F
 exact ⟨l,⟨xs,by rw [← f]; exact E,by omega,g⟩,j,u⟩
theorem Qx9 {t tl:TypeId} (b:ValT P t tl):∀ (n:Nat) {cs:List Value} {x:DataW H×List MemPlace},DataW.trod enc P W 0 (fun _=>true) true n t cs=some x→sizeD x.1≤1000000000→∃ (v:V) (y:TV),cs=Qg.c y∧VIs (heapOf W) v y∧VB v∧vbulk v≤sizeD x.1:=by
 intro n
 induction n using Nat.strongRecOn with
 | _ n ih=>
 intro cs x h b7
 obtain ⟨fs,hu,u,⟨f0,t0,F,K,N,T,e0⟩,⟨f1,t1,G,L,O,U,Y⟩,⟨f2,t2,I,M,Q,X,Z⟩,⟨f3,J,b3,R,e3⟩⟩:=b.st
 obtain ⟨xs,m,rfl,hx,C,d,g⟩:=DataW.trod_struct hu h
 rw [b.cells] at C
 rw [u] at d
 match cs,C with
 | [q0,q1,q2,q3],_=>
 match xs,d with
 | [y0,y1,y2,y3],_=>
 have j:=g 0 f0 F
 have o:=g 1 f1 G
 have q:=g 2 f2 I
 have r:=g 3 f3 J
 rw [K,N,e0] at j
 rw [L,O,Y] at o
 rw [M,Q,Z] at q
 rw [b3,R,e3] at r
 simp at j o q r
 obtain ⟨E,k0,k1,k2⟩:=DataW.trod_int T j
 obtain ⟨n1,z,l1,l2⟩:=DataW.trod_int U o
 obtain ⟨s2,A,m1,m2⟩:=DataW.trod_string X q
 obtain ⟨s,S,ys,D,b5,B,p1,p2,p3,p4,p5,p6⟩:=Qp8 b.sl (by rw [b.cells]; omega) r
 have b6:sizeD x.1=sizeD y0.1+(sizeD y1.1+(sizeD y2.1+(sizeD y3.1+0)))+1:=by rw [hx]; simp [sizeD,sizeDs]
 have h0:=QmX y0.1
 have h1:=QmX y1.1
 have h2:sizeD y2.1=s2.data.toList.length+1:=by rw [m1]; simp [sizeD]
 obtain ⟨l,r1,r2,r3⟩:=QvV (H:=H) b p2 p3 p4 (m:=D) fun i c y hc hy=>by
  obtain ⟨_,h5⟩:=p6 i c y hc hy
  have h6:=QiB (List.mem_map_of_mem (f:=(·.1)) (List.mem_of_getElem? hy))
  exact ih D (by omega) h5 (by omega)
 have hvl:=Qqb l
 refine ⟨.mk E n1 s2.data.toList l,⟨E,n1,s2.data.toList,s⟩,?_,QgM.2 ⟨rfl,rfl,rfl,r1⟩,⟨?_,?_,by omega,by omega,r2⟩,?_⟩
 ·injection k0 with k0
  injection z with z
  injection A with A
  injection B with B
  subst k0; subst z; subst A; subst B
  simp [Qg.c,sv]
 ·simpa [Lit.wf,IntKind.min,IntKind.max,IntKind.signed,IntKind.bits] using k2
 ·simpa [Lit.wf,IntKind.min,IntKind.max,IntKind.signed,IntKind.bits] using l2
 ·rw [Qtp]
  simp only [V.l,V.s]
  omega
end
end
section
open Go
section
variable {H:Type} {enc:TypeId×Value→H} {P:Program} {W:World}
end
end
section
open Go
def hexD (k:Nat):UInt8:=if k < 10 then UInt8.ofNat (48+k) else UInt8.ofNat (87+k)
def qC (c:UInt8):Str:=
 if c=34∨c=92 then [92,c] else if c=10 then [92,110] else if c=9 then [92,116]
 else if 32≤c.toNat∧c.toNat≤126 then [c] else [92,120,hexD (c.toNat / 16),hexD (c.toNat % 16)]
def quoteS (s:Str):Str:=34::(s.flatMap qC++[34])
mutual
def showV:V→Str
 | .mk k n s l => if k = 1 then (if n = 1 then trueS else falseS) else if k = 2 then Lib.itoa n else if k = 3 then s ++ [98] else if k = 4 then quoteS s
  else if k=5 then 40::(showR true l++[41]) else s++(if l.length=0 then [] else 40::(showR true l++[41]))
def showR:Bool→List V→Str
 | _,[]=>[]
 | f,v::l=>(if f then [] else [44,32])++(showV v++showR false l)
end
theorem Qp6:∀ (l:List V) (f:Bool) (v:V),showR f (l++[v])=showR f l++((if f && l.isEmpty then [] else [44,32])++showV v)
 | [],f,v=>by cases f <;> simp [showR]
 | w::l,f,v=>by
  rw [List.cons_append]
  simp only [showR,Qp6 l false v,List.isEmpty_cons,Bool.and_false,Bool.false_and,Bool.false_eq_true,if_false,List.append_assoc]
theorem QnN:∀ (a b:List V) (f:Bool),showR f (a++b)=showR f a++showR (f && a.isEmpty) b
 | [],b,f=>by simp [showR]
 | v::a,b,f=>by
  rw [List.cons_append]
  simp only [showR,QnN a b false,List.isEmpty_cons,Bool.and_false,Bool.false_and,List.append_assoc]
theorem Qu3 (l:List V) (i:Nat):(showR true (l.take i)).length≤(showR true l).length:=by
 have:=congrArg List.length (QnN (l.take i) (l.drop i) true)
 rw [List.take_append_drop,Va] at this
 omega
theorem QtQ {l:List V} {i:Nat} (h:i < l.length):showR true (l.take (i+1))=showR true (l.take i)++((if i=0 then [] else [44,32])++showV l[i]):=by
 rw [Vp,Vf h,Vo,Qp6]
 congr 2
 have e:(l.take i).isEmpty=decide (i=0):=by
  rw [Vn,List.isEmpty_iff,decide_eq_true_iff]
  refine ⟨fun b=>?_,fun b=>by rw [b]; rfl⟩
  have:=congrArg List.length b
  rw [List.length_take,Vk] at this; omega
 rw [Bool.true_and,e]
 by_cases hi:i=0 <;> simp [hi]
def stopC (c:UInt8):Bool:=c == 40 || c == 41 || c == 44 || c == 59 || c == 34
theorem Qq8 {v:V} (h:formV v=true):formVs v.l=true∧((v.k=1∧(v.n=0∨v.n=1)∧v.s=[]∧v.l=[])∨(v.k=2∧v.s=[]∧v.l=[])∨(v.k=3∧numS v.s=true∧v.n=0∧v.l=[])∨(v.k=4∧v.n=0∧v.l=[])∨
 (v.k=5∧v.n=0∧v.s=[])∨(v.k=6∧v.n=0∧namesS v.s=true)):=by
 rw [QkR,Ve] at h
 obtain ⟨h,d⟩:=h
 refine ⟨d,?_⟩
 unfold okN at h
 split at h
 ·rename_i b
  simp only [Ve,Bool.or_eq_true,beq_iff_eq,List.isEmpty_iff,Vj,List.length_eq_zero_iff] at h
  exact .inl ⟨b,h.1.1,h.1.2,h.2⟩
 split at h
 ·rename_i b
  simp only [Ve,beq_iff_eq,List.isEmpty_iff,Vj,List.length_eq_zero_iff] at h
  exact .inr (.inl ⟨b,h.1,h.2⟩)
 split at h
 ·rename_i b
  simp only [Ve,beq_iff_eq,Vj,List.length_eq_zero_iff] at h
  exact .inr (.inr (.inl ⟨b,h.1.1,h.1.2,h.2⟩))
 split at h
 ·rename_i b
  simp only [Ve,beq_iff_eq,Vj,List.length_eq_zero_iff] at h
  exact .inr (.inr (.inr (.inl ⟨b,h.1,h.2⟩)))
 split at h
 ·rename_i b
  simp only [Ve,beq_iff_eq,List.isEmpty_iff] at h
  exact .inr (.inr (.inr (.inr (.inl ⟨b,h.1.1,h.1.2⟩))))
 split at h
 ·rename_i b
  simp only [Ve,beq_iff_eq] at h
  exact .inr (.inr (.inr (.inr (.inr ⟨b,h.1,h.2⟩))))
 ·cases h
theorem Qnl {c:UInt8} (h:nameC c=true):stopC c=false:=by
 simp only [nameC,lowC,Bool.or_eq_true,Ve,Vj] at h
 unfold stopC
 simp only [Bool.or_eq_false_iff,beq_eq_false_iff_ne]
 refine ⟨⟨⟨⟨?_,?_⟩,?_⟩,?_⟩,?_⟩ <;> (rintro rfl; revert h; decide)
theorem QlV {s:Str} (h:nameS s=true):s≠[]∧s.length≤32∧lowC (s.headD 0)=true∧∀ c ∈ s,nameC c=true:=by
 simp only [nameS,Ve,Bool.not_eq_true',List.isEmpty_eq_false_iff,Vj,List.all_eq_true] at h
 exact ⟨h.1.1.1,h.1.1.2,h.1.2,h.2⟩
theorem QrO {s:Str} (h:namesS s=true):s≠trueS∧s≠falseS∧s≠[]∧s.length≤65∧lowC (s.headD 0)=true∧∀ c ∈ s,stopC c=false:=by
 unfold namesS at h
 split at h
 ·cases h
 rename_i g
 refine ⟨fun e=>g (.inl e),fun e=>g (.inr e),?_⟩
 split at h
 ·rename_i a b d
  rw [Ve] at h
  obtain ⟨i,t,j,m⟩:=QlV h.1
  obtain ⟨z,A,B,r⟩:=QlV h.2
  have u:s=a++46::b:=by
   by_cases hm:(46:UInt8) ∈ s
   ·obtain ⟨x,y,o,q⟩:=Qn0 s hm
    rw [o,Qj3 x y q] at d
    injection d with d; injection d with e3 e4
    rw [o,e3,e4]
   ·rw [Qj4 s hm] at d; cases d
  rw [u]
  refine ⟨by simp,by rw [Va,Vd]; omega,?_,fun c f=>?_⟩
  ·cases a with
   | nil=>exact absurd rfl i
   | cons x a=>exact j
  ·rw [List.mem_append,List.mem_cons] at f
   rcases f with f | rfl | f
   ·exact Qnl (m c f)
   ·rfl
   ·exact Qnl (r c f)
 ·obtain ⟨i,t,j,m⟩:=QlV h
  exact ⟨i,by omega,j,fun c f=>Qnl (m c f)⟩
theorem QtI {s:Str} (h:numS s=true):s≠[]∧(∀ c ∈ s,digC c=true∨c=45)∧s.length≤digits s+1:=by
 simp only [numS,Ve,Bool.not_eq_true',List.isEmpty_eq_false_iff,List.all_eq_true] at h
 obtain ⟨⟨i,f⟩,j⟩:=h
 unfold digits
 unfold unmin at i f ⊢
 split at i
 ·rename_i b
  rw [if_pos b] at f ⊢
  cases s with
  | nil=>cases b
  | cons c s=>
   simp only [List.head?_cons,Option.some.injEq] at b
   subst b
   refine ⟨by simp,fun d g=>?_,by simp⟩
   rcases List.mem_cons.1 g with rfl | g
   ·exact .inr rfl
   ·exact .inl (f d g)
 ·rename_i b
  rw [if_neg b] at f ⊢
  exact ⟨i,fun d g=>.inl (f d g),by omega⟩
theorem QvQ (c:UInt8):((c=34∨c=92)∧qC c=[92,c])∨(c=10∧qC c=[92,110])∨(c=9∧qC c=[92,116])∨(c≠34∧c≠92∧qC c=[c])∨qC c=[92,120,hexD (c.toNat / 16),hexD (c.toNat % 16)]:=by
 unfold qC
 by_cases h1:c=34∨c=92
 ·rw [if_pos h1]; exact .inl ⟨h1,rfl⟩
 rw [if_neg h1]
 by_cases h2:c=10
 ·rw [if_pos h2]; exact .inr (.inl ⟨h2,rfl⟩)
 rw [if_neg h2]
 by_cases h3:c=9
 ·rw [if_pos h3]; exact .inr (.inr (.inl ⟨h3,rfl⟩))
 rw [if_neg h3]
 split
 ·exact .inr (.inr (.inr (.inl ⟨fun e=>h1 (.inl e),fun e=>h1 (.inr e),rfl⟩)))
 ·exact .inr (.inr (.inr (.inr rfl)))
theorem Qwb {c d:UInt8} (h:c.toNat=d.toNat):c=d:=UInt8.toNat_inj.1 h
end
section
open Go Go.Proofs
section
variable {C:Ctx} {H:Heap} {T:TypeId}
def LiB (T:TypeId):Prop:=liesAt P0 P0.depth T (2 / P0.cellsOf T) 0 145 1=true
theorem liB145:LiB 145:=by unfold LiB; kernel_rfl
theorem liB147:LiB 147:=by unfold LiB; kernel_rfl
theorem Qnu {b:Nat} {p:Option (Nat×Nat)} {s:Sl} {K:HP} (d:H b=some (true,.trow T 0 [pv p,slv s])) (hp:p=none∨p=some (b,0)) (f:LiB T) (k:K (H.put b (.trow T 0 [pv (some (b,0)),slv s]))):QaQ C (some (b,0)) K H:=by
 apply QgC
 unfold Qc1
 refine ⟨_,rfl,p,by simp [rd,d,GO.cells?],?_⟩
 rcases hp with rfl | rfl
 ·exact QaK rfl ⟨(b,0),rfl,⟨true,_,0,_,d,by simp⟩,⟨T,true,0,_,d,rfl,rfl,f⟩,_,rfl,_,0,_,d,Nat.le_refl _,by simp,k⟩
 ·refine Qaw rfl ⟨_, rfl, some (b, 0), by simp [rd, d, GO.cells?], (b, 0), rfl, rfl, Qaw rfl ?_⟩
  have:H.put b (.trow T 0 [pv (some (b,0)),slv s])=H:=Heap.put_id d
  rw [this] at k; exact k
theorem Qwv {H:Heap} {b:Nat} {p:Option (Nat×Nat)} {s:Sl} {t:TypeId} (d:H b=some (true,.trow t 0 [pv p,slv s])):rd H (b,0+1)=some (slv s):=by simp [rd,d,GO.cells?]
theorem QjK {b:Nat} {bs:Str} {c:UInt8} {K:Value→HP} (h:IsB T tyE H b bs) (j:LiB T) (m:bs.length+1≤140737488355328) (k:K .nilIface (H.put b (.bld T tyE (bs++[c])))):Qp C (some (b,0)) (c.toNat:Int) K H:=by
 apply Qp.gh
 refine h.open_ fun p s q f=>?_
 refine QgB _ _ _ _ _ ?_
 unfold Qc0
 refine Qnu f.row f.self j ?_
 have d:=f.setP (p2:=some (b,0)) (.inr rfl)
 refine ⟨_,rfl,s,Qwv d.row,?_⟩
 refine d.apd (by obtain ⟨g,hg⟩:=h.some; exact ⟨_,hg⟩) (ys:=[c]) (by simpa using m) fun r t i o=>?_
 exact ⟨_,rfl,_,0,_,o,Nat.zero_le _,by simp,_,Gh.hideB i,k⟩
theorem Qk3 {b:Nat} {bs c:Str} {K:Int→Value→HP} (h:IsB T tyE H b bs) (j:LiB T) (m:bs.length+c.length≤140737488355328) (k:K (c.length:Int) .nilIface (H.put b (.bld T tyE (bs++c)))):Qn C (some (b,0)) c K H:=by
 apply Qn.gh
 refine h.open_ fun p s q f=>?_
 refine QfV _ _ _ _ _ ?_
 unfold Qcn
 refine Qnu f.row f.self j ?_
 have d:=f.setP (p2:=some (b,0)) (.inr rfl)
 refine ⟨_,rfl,s,Qwv d.row,?_⟩
 refine d.apd (by obtain ⟨g,hg⟩:=h.some; exact ⟨_,hg⟩) (ys:=c) m fun r t i o=>?_
 exact ⟨_,rfl,_,0,_,o,Nat.zero_le _,by simp,_,Gh.hideB i,k⟩
theorem Qrf {b:Nat} {bs:Str} {K:Str→HP} (h:IsB T tyE H b bs) (E:LiB T) (A:bs.length≤9223372036854775807) (k:K bs (H.put b (.bld T tyE bs))):QL C (some (b,0)) K H:=by
 apply QL.gh
 refine h.open_ fun p s H' d=>?_
 refine QhC _ _ _ _ ?_
 unfold Qd9
 obtain ⟨D,y,z⟩:=d.slen
 have j:rd (H'.hide s) (b,0+1)=some (slv s):=by
  have:(H'.hide s) b=H' b:=by
   unfold Heap.hide
   split
   ·rename_i q B; rw [if_neg (fun e=>d.ne q B e.symm)]
   ·rfl
  simp [rd,this,d.row,GO.cells?]
 refine ⟨H'.hide s,Xp _ _,_,rfl,s,j,⟨z,y⟩,_,rfl,s,j,?_⟩
 rcases d.buf with ⟨rfl,rfl⟩ | ⟨g,u,row,hg,rfl,m,F,o,r,i⟩
 ·exact .inl ⟨rfl,Xp _ _,_,Gh.hideB d,k⟩
 ·by_cases h0:bs=[]
  ·subst h0
   exact .inl ⟨rfl,Xp _ _,_,Gh.hideB d,k⟩
  ·refine .inr ⟨g, u, row, bs, rfl, m, rfl, h0, A, i, fun x v hx => ?_, _, Gh.hideB (b := b) (T := T) (e := tyE) (bs := bs) (p := p) (s := ⟨some (g, 0), bs.length, row.length, none⟩) ?_, k⟩
   ·have f : x ≠ g := fun e => by subst e; simp [Heap.hide] at hx
    rw [Xb _ _ _ f]; exact (Xp _ _) _ _ hx
   ·refine ⟨d.self, by rw [Xb _ _ _ (Ne.symm hg)]; exact d.row, .inr ⟨g, max u bs.length, row, hg, rfl, Xa .., by omega, o, r, i⟩, d.gnot, fun x v hx t => ?_⟩
    have f:x≠g:=fun e=>by subst e; have:=d.gnot (x,0) rfl; dsimp only at this; rw [this] at t; cases t
    rw [Xb _ _ _ f]; exact d.but x v hx t
end
end
section
open Go Go.Proofs
section
variable {C:Ctx} {H:Heap}
theorem Qqc {b:Bool} {K:Str→HP} (k:K (if b then trueS else falseS) H):QdO C b K H:=by
 apply QjM
 unfold Qf5
 apply QfU
 unfold Qcm
 cases b with
 | true=>exact QaK rfl k
 | false=>exact Qaw rfl k
theorem hexS {k:Nat} (h:k < 16):([48,49,50,51,52,53,54,55,56,57,97,98,99,100,101,102]:Str)[k]? = some (hexD k):=by
 have:∀ k:Fin 16,([48,49,50,51,52,53,54,55,56,57,97,98,99,100,101,102]:Str)[k.val]? = some (hexD k.val):=by decide
 exact this ⟨k,h⟩
theorem shr4:∀ c:UInt8,sShr .u8 (c.toNat:Int) 4=((c.toNat / 16:Nat):Int):=by
 have:∀ k:Fin 256,sShr .u8 (k.val:Int) 4=((k.val / 16:Nat):Int):=by decide +kernel
 exact fun c=>this ⟨c.toNat,c.toNat_lt⟩
theorem and15:∀ c:UInt8,bAnd .u8 (c.toNat:Int) 15=((c.toNat % 16:Nat):Int):=by
 have:∀ k:Fin 256,bAnd .u8 (k.val:Int) 15=((k.val % 16:Nat):Int):=by decide +kernel
 exact fun c=>this ⟨c.toNat,c.toNat_lt⟩
structure Wr (A B:Heap) (b:Nat) (bs:Str):Prop where
 le:A.le B
 nb:A b=none
 bl:IsB tyB tyE B b bs
theorem Wr.byte {A B:Heap} {b:Nat} {bs:Str} {c:UInt8} {i:Int} {K:Value→HP} (h:Wr A B b bs) (hi:i=(c.toNat:Int)) (d:bs.length+1≤140737488355328) (k:∀ D,Wr A D b (bs++[c])→K .nilIface D):Qp C (some (b,0)) i K B:=by
 subst hi
 exact QjK h.bl liB145 d (k _ ⟨h.le.put _ _ h.nb,h.nb,IsB.put⟩)
theorem Wr.str {A B:Heap} {b:Nat} {bs s:Str} {K:Int→Value→HP} (h:Wr A B b bs) (d:bs.length+s.length≤140737488355328) (k:∀ D,Wr A D b (bs++s)→K (s.length:Int) .nilIface D):Qn C (some (b,0)) s K B:=
 Qk3 h.bl liB145 d (k _ ⟨h.le.put _ _ h.nb,h.nb,IsB.put⟩)
theorem QuW (c:UInt8):1≤(qC c).length∧(qC c).length≤4:=by
 rcases QvQ c with ⟨_,e⟩ | ⟨_,e⟩ | ⟨_,e⟩ | ⟨_,_,e⟩ | e <;> rw [e] <;> simp
theorem QvR {A B:Heap} {b:Nat} {bs s:Str} {K:HP} (h:Wr A B b bs) (R:bs.length+(quoteS s).length≤140737488355328) (k:∀ D,Wr A D b (bs++quoteS s)→K D):QiZ C (some (b,0)) s K B:=by
 apply QpF
 unfold QlJ
 have L:(quoteS s).length=(s.flatMap qC).length+2:=by simp [quoteS]
 have q:∀ i,((s.take i).flatMap qC).length≤(s.flatMap qC).length:=fun i=>by
  have:=congrArg List.length (congrArg (List.flatMap qC) (List.take_append_drop i s))
  rw [List.flatMap_append,Va] at this; omega
 have T:s.length≤(s.flatMap qC).length:=by
  clear R k L q
  induction s with
  | nil=>exact Nat.le_refl _
  | cons c s X=>
   have:=(QuW c).1
   rw [List.flatMap_cons,Va,Vd]; omega
 refine h.byte (c:=34) rfl (by omega) fun U O=>?_
 refine ⟨fun x D=>∃ i:Nat,x=(i:Int)∧i≤s.length∧Wr A D b (bs++[34]++(s.take i).flatMap qC),fun x _=>s.length - x.toNat,⟨0,rfl,Nat.zero_le _,by simpa using O⟩,?_⟩
 rintro _ D ⟨i,rfl,hi,r⟩
 refine ift.of (fun f=>?_) (fun f=>?_)
 ·have f : i < s.length := by have := Vb f; omega
  have g:(s.take (i+1)).flatMap qC=(s.take i).flatMap qC++qC s[i]:=by
   rw [Vp,Vf f,Vo,List.flatMap_append,List.flatMap_singleton]
  have d:=q (i+1)
  rw [g,Va] at d
  have M:(bs++[34]++(s.take i).flatMap qC).length=bs.length+1+((s.take i).flatMap qC).length:=by simp only [Va,List.length_singleton]
  refine ⟨fun _ E=>Wr A E b (bs++[34]++(s.take (i+1)).flatMap qC),?_,?_⟩
  ·refine ⟨s[i], by omega, by rw [Int.toNat_natCast]; exact Vf f, ?_⟩
   rw [g,← List.append_assoc]
   generalize s[i]=c at *
   generalize bs++[34]++(s.take i).flatMap qC=cur at *
   have F:((c.toNat:Int) == 34)=decide (c=34):=by
    rw [Vn,beq_iff_eq,decide_eq_true_iff]
    exact ⟨fun h=>Qwb (by show c.toNat=34; omega),fun h=>by rw [h]; rfl⟩
   have G:((c.toNat:Int) == 92)=decide (c=92):=by
    rw [Vn,beq_iff_eq,decide_eq_true_iff]
    exact ⟨fun h=>Qwb (by show c.toNat=92; omega),fun h=>by rw [h]; rfl⟩
   have z:((c.toNat:Int) == 10)=decide (c=10):=by
    rw [Vn,beq_iff_eq,decide_eq_true_iff]
    exact ⟨fun h=>Qwb (by show c.toNat=10; omega),fun h=>by rw [h]; rfl⟩
   have N:((c.toNat:Int) == 9)=decide (c=9):=by
    rw [Vn,beq_iff_eq,decide_eq_true_iff]
    exact ⟨fun h=>Qwb (by show c.toNat=9; omega),fun h=>by rw [h]; rfl⟩
   rw [F,G,z,N]
   have S:=(QuW c).2
   refine ift.of (fun t=>?_) (fun t=>?_)
   ·simp only [Bool.or_eq_true,Vj] at t
    have e:qC c=[92,c]:=by unfold qC; rw [if_pos t]
    rw [e] at d ⊢
    simp only [Vd,Vk] at d
    refine r.byte (c:=92) rfl (by omega) fun u m=>m.byte (c:=c) rfl (by simp; omega) fun D2 H=>?_
    simpa using H
   simp only [Bool.or_eq_false_iff,decide_eq_false_iff_not] at t
   have c1':¬ (c=34∨c=92):=fun h=>h.elim t.1 t.2
   refine ift.of (fun j=>?_) (fun j=>?_)
   ·have j:=Vb j
    have e:qC c=[92,110]:=by unfold qC; rw [if_neg c1',if_pos j]
    rw [e] at d ⊢
    simp only [Vd,Vk] at d
    exact r.str (s:=[92,110]) (by simp; omega) fun u m=>m
   have j:=Vc j
   refine ift.of (fun o=>?_) (fun o=>?_)
   ·have o:=Vb o
    have e:qC c=[92,116]:=by unfold qC; rw [if_neg c1',if_neg j,if_pos o]
    rw [e] at d ⊢
    simp only [Vd,Vk] at d
    exact r.str (s:=[92,116]) (by simp; omega) fun u m=>m
   have o:=Vc o
   refine ift.of (fun y=>?_) (fun y=>?_)
   ·simp only [Ve,Vj] at y
    have e:qC c=[c]:=by unfold qC; rw [if_neg c1',if_neg j,if_neg o,if_pos (by omega)]
    rw [e] at d ⊢
    simp only [Vd,Vk] at d
    exact r.byte (c:=c) rfl (by omega) fun u m=>m
   ·simp only [Bool.and_eq_false_iff,decide_eq_false_iff_not] at y
    have e:qC c=[92,120,hexD (c.toNat / 16),hexD (c.toNat % 16)]:=by unfold qC; rw [if_neg c1',if_neg j,if_neg o,if_neg (by omega)]
    rw [e] at d ⊢
    simp only [Vd,Vk] at d
    have Q:=c.toNat_lt
    refine r.str (s:=[92,120]) (by simp; omega) fun u m=>?_
    rw [shr4,and15]
    refine ⟨hexD (c.toNat / 16),by omega,by rw [Int.toNat_natCast]; exact hexS (by omega),?_⟩
    refine m.byte (c:=hexD (c.toNat / 16)) rfl (by simp; omega) fun D2 H=>?_
    refine ⟨hexD (c.toNat % 16),by omega,by rw [Int.toNat_natCast]; exact hexS (by omega),?_⟩
    refine H.byte (c:=hexD (c.toNat % 16)) rfl (by simp; omega) fun W P=>?_
    simpa using P
  ·rintro _ E I
   rw [Qu (by omega) (by omega)]
   exact ⟨⟨i+1,by omega,by omega,I⟩,by first | omega | (dsimp only; omega)⟩
 ·have J : i = s.length := by have := Vc f; omega
  rw [J,Vl] at r
  refine r.byte (c:=34) rfl (by simp only [Va,List.length_singleton]; omega) fun E I=>k E ?_
  simpa [quoteS] using I
structure Clo (C:Ctx) (A:Heap) (b p q:Nat):Prop where
 list:∃ x,rd A (p,0)=some x∧∀ (t:Sl) (B:Heap) (Φ:Value→HP),QhO C t (b,0) (q,0) (fun D=>Φ (.tuple #[]) D) B→callU P0 C x [slv t] B Φ
 show_:∃ x,rd A (q,0)=some x∧∀ (v:TV) (B:Heap) (Φ:Value→HP),QdX C v (b,0) (p,0) (fun D=>Φ (.tuple #[]) D) B→callU P0 C x [.agg (Qg.c v).toArray] B Φ
variable {A B:Heap} {b p q:Nat}
theorem Clo.le {d:Heap} (h:Clo C A b p q) (hle:A.le d):Clo C d b p q:=by
 obtain ⟨⟨x,f,g⟩,y,i,j⟩:=h
 exact ⟨⟨x,QsA hle f,g⟩,y,QsA hle i,j⟩
theorem Wr.box {bs:Str} {d:Nat} {x:TV} (h:Wr A B b bs) (n1:B d=none) :
 Wr (A.put d (.row (Qg.c x))) (B.put d (.row (Qg.c x))) b bs∧A.le (A.put d (.row (Qg.c x)))∧(A.put d (.row (Qg.c x))) d=some (true,.row (Qg.c x)):=by
 have i:b≠d:=fun e=>by
  obtain ⟨g,hg⟩:=h.bl.some
  rw [e,n1] at hg; cases hg
 refine ⟨⟨fun z e f=>?_,by rw [Xb _ _ _ i]; exact h.nb,h.bl.le (Xc n1)⟩,Xc (h.le.none n1),Xa ..⟩
 by_cases hzb:z=d
 ·subst hzb; rw [Xa] at f ⊢; exact f
 ·rw [Xb _ _ _ hzb] at f ⊢; exact h.le _ _ f
theorem Wr.base {d D:Heap} {bs:Str} (h:Wr d D b bs) (hle:A.le d):Wr A D b bs:=⟨hle.trans h.le,hle.none h.nb,h.bl⟩
theorem Qtk (v:V):showV v=if v.k=1 then (if v.n=1 then trueS else falseS) else if v.k=2 then Lib.itoa v.n else if v.k=3 then v.s++[98] else if v.k=4 then quoteS v.s
 else if v.k=5 then 40::(showR true v.l++[41]) else v.s++(if v.l.length=0 then [] else 40::(showR true v.l++[41])):=by cases v; rfl
theorem QuD {l:List V} (P:∀ w ∈ l,∀ {A B:Heap} {x:TV} {bs:Str} {K:HP},Clo C A b p q→VIs A w x→VB w→Wr A B b bs→bs.length+(showV w).length≤140737488355328→(∀ D,Wr A D b (bs++showV w)→K D)→QdX C x (b,0) (p,0) K B)
 {A B:Heap} {t:Sl} {bs:Str} {K:HP} (G:Clo C A b p q) (H:VRow A t l) (O:l.length≤140737488355328) (L:VBs l) (h:Wr A B b bs) (T:bs.length+(showR true l).length+2≤140737488355328)
 (k:∀ D,Wr A D b (bs++(40::(showR true l++[41])))→K D):QhO C t (b,0) (q,0) K B:=by
 apply Qot
 unfold QkJ
 refine h.byte (c:=40) rfl (by omega) fun S J=>?_
 rw [H.len]
 refine ⟨fun x D=>∃ i:Nat,x=(i:Int)∧i≤l.length∧Wr A D b (bs++[40]++showR true (l.take i)),fun x _=>l.length - x.toNat,⟨0,rfl,Nat.zero_le _,by simpa [showR] using J⟩,?_⟩
 rintro _ D ⟨i,rfl,hi,o⟩
 refine ift.of (fun d=>?_) (fun d=>?_)
 ·have d : i < l.length := by have := Vb d; omega
  have hm:=Vg d
  have m:=QtQ d
  have f:=Qu3 l (i+1)
  rw [m] at f
  simp only [Va] at f
  refine H.ld o.le rfl d fun x hx=>?_
  intro j z
  refine ⟨_,Xa ..,by simp [Qg.c],?_⟩
  rw [Xh]
  have N:splice (Qg.c Qg.zero) (j,0).2 (Qg.c x)=Qg.c x:=rfl
  rw [N]
  obtain ⟨I,r,Q⟩:=o.box (x:=x) z
  refine ⟨fun _ E=>Wr (A.put j (.row (Qg.c x))) E b (bs++[40]++showR true (l.take i)++(if i=0 then [] else [44,32])),?_,?_⟩
  ·refine ift.of (fun h0 => ?_) (fun h0 => ?_)
   ·have h0 : i ≠ 0 := by have := Vb h0; omega
    rw [if_neg h0] at f ⊢
    simp only [Vd,Vk] at f
    exact I.str (s:=[44,32]) (by simp only [Va,Vd,Vk]; omega) fun E g=>g
   ·have h0 : i = 0 := by have := Vc h0; omega
    rw [if_pos h0,List.append_nil]; exact I
  ·rintro _ E g
   obtain ⟨y,y1,R⟩:=(G.le r).show_
   refine ⟨y,QsA g.le y1,bxV (g.le _ _ Q) (R _ _ _ (P _ hm (G.le r) (hx.le r) (L.mem hm) g ?_ fun F M=>⟨rfl,?_⟩))⟩
   ·simp only [Va,Vd,Vk]; omega
   ·rw [Qu (by omega) (by omega)]
    refine ⟨⟨i+1,by omega,by omega,?_⟩,by first | omega | (dsimp only; omega)⟩
    rw [m]
    have:=M.base r
    simpa only [List.append_assoc] using this
 ·have u : i = l.length := by have := Vc d; omega
  rw [u,Vl] at o
  refine o.byte (c:=41) rfl (by simp only [Va,Vd,Vk]; omega) fun E g=>k E ?_
  simpa only [List.append_assoc,List.cons_append,List.nil_append] using g
theorem Qv3 (S:FmtC C) (v:V):∀ {A B:Heap} {x:TV} {bs:Str} {K:HP},Clo C A b p q→VIs A v x→VB v→Wr A B b bs→bs.length+(showV v).length≤140737488355328→(∀ D,Wr A D b (bs++showV v)→K D)→QdX C x (b,0) (p,0) K B:=by
 refine V.rec_ (P:=fun v=>∀ {A B:Heap} {x:TV} {bs:Str} {K:HP},Clo C A b p q→VIs A v x→VB v→Wr A B b bs→bs.length+(showV v).length≤140737488355328→(∀ D,Wr A D b (bs++showV v)→K D)→QdX C x (b,0) (p,0) K B) (fun v O=>?_) v
 intro A B x bs K R T I h f k
 apply Qou
 unfold QkK
 intro J n1
 obtain ⟨o,M,N⟩:=h.box (x:=x) n1
 have i:=QgM.1 T
 have g:=o.le _ _ N
 have d:∀ D,Wr (A.put J (.row (Qg.c x))) D b (bs++showV v)→K D:=fun D j=>k D (j.base M)
 rw [Qtk] at f d
 have H:=R.le M
 have m:=i.2.2.2.le M
 generalize A.put J (.row (Qg.c x))=A1 at *
 generalize B.put J (.row (Qg.c x))=B1 at *
 refine bxK g ?_
 rw [i.1]
 refine ift.of (fun r=>?_) (fun r=>?_)
 ·have r : v.k = 1 := by simpa using r
  rw [if_pos r] at f d
  refine bxN g (Qqc ?_)
  rw [i.2.1]
  have e:(if (v.n == 1)=true then trueS else falseS)=(if v.n=1 then trueS else falseS):=by simp
  rw [e]
  exact o.str f d
 have r:v.k≠1:=by simpa using r
 rw [if_neg r] at f d
 refine ift.of (fun t=>?_) (fun t=>?_)
 ·have t : v.k = 2 := by simpa using t
  rw [if_pos t] at f d
  refine bxN g ?_
  rw [i.2.1]
  exact S.ok I.n.1 I.n.2 (o.str f d)
 have t:v.k≠2:=by simpa using t
 rw [if_neg t] at f d
 refine ift.of (fun u=>?_) (fun u=>?_)
 ·have u : v.k = 3 := by simpa using u
  rw [if_pos u] at f d
  simp only [Va,Vd,Vk] at f
  refine bxS g ?_
  rw [i.2.2.1]
  refine o.str (by omega) fun D j=>j.byte (c:=98) rfl (by rw [Va]; omega) fun E L=>d E ?_
  simpa only [List.append_assoc] using L
 have u:v.k≠3:=by simpa using u
 rw [if_neg u] at f d
 refine ift.of (fun z=>?_) (fun z=>?_)
 ·have z : v.k = 4 := by simpa using z
  rw [if_pos z] at f d
  refine bxS g ?_
  rw [i.2.2.1]
  exact QvR o f d
 have z:v.k≠4:=by simpa using z
 rw [if_neg z] at f d
 obtain ⟨y,y1,Q⟩:=H.list
 refine ift.of (fun F=>?_) (fun F=>?_)
 ·have F : v.k = 5 := by simpa using F
  rw [if_pos F] at f d
  simp only [Va,Vd,Vk] at f
  exact ⟨y,QsA o.le y1,bxL g (Q _ _ _ (QuD O H m I.l I.ls o (by omega) fun D j=>⟨rfl,d D j⟩))⟩
 have F:v.k≠5:=by simpa using F
 rw [if_neg F] at f d
 rw [Va] at f
 refine bxS g ?_
 rw [i.2.2.1]
 refine o.str (by omega) fun D j=>bxL (j.le _ _ N) ?_
 rw [m.len]
 refine ift.of (fun G=>?_) (fun G=>?_)
 ·have G : v.l.length ≠ 0 := by have := Vb G; omega
  rw [if_neg G] at f d
  simp only [Va,Vd,Vk] at f
  refine ⟨y,QsA j.le y1,bxL (j.le _ _ N) (Q _ _ _ (QuD O H m I.l I.ls j (by rw [Va]; omega) fun E L=>⟨rfl,d E ?_⟩))⟩
  rw [← List.append_assoc]; exact L
 ·have G : v.l.length = 0 := by have := Vc G; omega
  rw [if_pos G] at d
  rw [List.append_nil] at d
  exact d D j
theorem QwF (hF:FmtC C) {v:V} {x:TV} {K:Str→HP} (hv:VIs H v x) (hB:VB v) (hl:mayV v=true→(showV v).length≤140737488355328) (k:∀ H2,H.le H2→K (if mayV v then showV v else []) H2):Qj2 C x K H:=by
 apply QqG
 unfold QmV
 intro b1 n1
 have hle1:=Xc n1 (g:=.row (Qg.c x)) (m:=true)
 have hb1:(H.put b1 (.row (Qg.c x))) b1=some (true,.row (Qg.c x)):=Xa ..
 have hv1:=hv.le hle1
 generalize H.put b1 (.row (Qg.c x))=H1 at *
 refine bxV hb1 (QlK hv1 hB ?_)
 rw [bne,QvK]
 refine ift.of (fun h=>?_) (fun h=>?_)
 ·have h : mayV v = false := by simpa using h
  have:=k H1 hle1
  rw [h] at this; exact this
 have h:mayV v=true:=by simpa using h
 intro b8 n8 b10 n10 b12 n12
 have l8:=Xc n8 (g:=.trow tyB 0 [pv none,slv Sl.nil]) (m:=true)
 have ne1:b8≠b10:=fun e=>by rw [e,Xa] at n10; cases n10
 have ne2:b8≠b12:=fun e=>by rw [← e,Xb _ _ _ ne1,Xa] at n12; cases n12
 have ne3:b10≠b12:=fun e=>by rw [e,Xa] at n12; cases n12
 refine ⟨[.nilFunc],Xa ..,Nat.zero_lt_one,?_⟩
 refine ⟨[.nilFunc],?_,Nat.zero_lt_one,?_⟩
 ·show ((((H1.put b8 _).put b10 _).put b12 _).put b12 _) b10=_
  rw [Xb _ _ _ ne3,Xb _ _ _ ne3,Xa]
 generalize hf24:Value.func (Fn.func _) (List.toArray []) (List.toArray [pv (some (b8,0)),pv (some (b10,0))])=F24
 generalize hf27:Value.func (Fn.func _) (List.toArray []) (List.toArray [pv (some (b8,0)),pv (some (b12,0))])=F27
 simp only [List.set_cons_zero]
 have n10':H1 b10=none:=l8.none n10
 have n12':H1 b12=none:=(l8.trans (Xc n10)).none n12
 generalize hD0:((((H1.put b8 (.trow tyB 0 [pv none,slv Sl.nil])).put b10 (.row [.nilFunc])).put b12 (.row [.nilFunc])).put b12 (.row [F24])).put b10 (.row [F27])=D0
 have d8:D0 b8=some (true,.trow tyB 0 [pv none,slv Sl.nil]):=by
  rw [← hD0,Xb _ _ _ ne1,Xb _ _ _ ne2,Xb _ _ _ ne2,Xb _ _ _ ne1,Xa]
 have d10:D0 b10=some (true,.row [F27]):=by rw [← hD0,Xa]
 have d12:D0 b12=some (true,.row [F24]):=by rw [← hD0,Xb _ _ _ (Ne.symm ne3),Xa]
 have dle:H1.le D0:=fun z e hz=>by
  have z8:z≠b8:=fun e'=>by rw [e',n8] at hz; cases hz
  have z10:z≠b10:=fun e'=>by rw [e',n10'] at hz; cases hz
  have z12:z≠b12:=fun e'=>by rw [e',n12'] at hz; cases hz
  rw [← hD0,Xb _ _ _ z10,Xb _ _ _ z12,Xb _ _ _ z12,Xb _ _ _ z10,Xb _ _ _ z8]; exact hz
 clear hD0
 let A:Heap:=D0.del b8
 have hA8:A b8=none:=Xg ..
 have hAle:A.le D0:=Xf D0 b8
 have hHA:H1.le A:=fun z e hz=>by
  have z8:z≠b8:=fun e'=>by rw [e',n8] at hz; cases hz
  show D0.del b8 z=_
  rw [Xd _ z8]; exact dle _ _ hz
 have hw:Wr A D0 b8 []:=⟨hAle,hA8,.inr ⟨rfl,d8⟩⟩
 have a10:A b10=some (true,.row [F27]):=by show D0.del b8 b10=_; rw [Xd _ (Ne.symm ne1)]; exact d10
 have a12:A b12=some (true,.row [F24]):=by show D0.del b8 b12=_; rw [Xd _ (Ne.symm ne2)]; exact d12
 have hC:Clo C A b8 b12 b10:=by
  refine ⟨⟨F24,by simp [rd,a12,GO.cells?],fun t B Φ hh=>?_⟩,F27,by simp [rd,a10,GO.cells?],fun w B Φ hh=>?_⟩
  ·exact ⟨_,[],_,hf24.symm,Qkn,Spec.mono hh fun u B2 ⟨e,h2⟩=>by rw [e]; exact h2⟩
  ·exact ⟨_,[],_,hf27.symm,Qko,Spec.mono hh fun u B2 ⟨e,h2⟩=>by rw [e]; exact h2⟩
 obtain ⟨y,y1,y2⟩:=hC.show_
 refine ⟨y,QsA hAle y1,bxV (dle _ _ hb1) (y2 _ _ _ (Qv3 hF v (bs:=[]) hC (hv1.le hHA) hB hw (by simpa using hl h) fun D hD=>⟨rfl,?_⟩))⟩
 refine Qrf hD.bl liB145 (by rw [List.nil_append]; have:=hl h; omega) ?_
 have:=k (D.put b8 (Bd ([]++showV v))) ((hle1.trans hHA).trans (hD.le.put _ _ hA8))
 rw [h] at this
 exact this
end
theorem QtL (s:Str):(quoteS s).length≤4*s.length+2:=by
 have:(s.flatMap qC).length≤4*s.length:=by
  induction s with
  | nil=>exact Nat.le_refl _
  | cons c s b=>
   have:=(QuW c).2
   rw [List.flatMap_cons,Va,Vd]; omega
 simp only [quoteS,Vd,Va,Vk]; omega
theorem Qr2:∀ (l:List V) (f:Bool),(∀ v ∈ l,(showV v).length+2≤17000*vsize v)→(showR f l).length≤17000*vsizes l
 | [],f,_=>by simp [showR]
 | v::l,f,h=>by
  have h1:=h v (List.mem_cons_self ..)
  have d:=Qr2 l false fun w b=>h w (List.mem_cons_of_mem _ b)
  simp only [showR,vsizes,Va]
  have g:(if f=true then ([]:Str) else [44,32]).length≤2:=by cases f <;> simp
  omega
theorem Qu4 (v:V):VB v→formV v=true→fitsV v=true→(showV v).length+2≤17000*vsize v:=by
 refine V.rec_ (P:=fun v=>VB v→formV v=true→fitsV v=true→(showV v).length+2≤17000*vsize v) (fun v y=>?_) v
 intro g u d
 have m:vsize v=vsizes v.l+1:=by cases v; rfl
 obtain ⟨i,r⟩:=Qq8 u
 rw [Qmg,Ve] at d
 have q:∀ {l:List V} {w:V},w ∈ l→fitsVs l=true→fitsV w=true:=by
  intro l
  induction l with
  | nil=>intro w f; cases f
  | cons x l o=>
   intro w f j
   simp only [fitsVs,Ve] at j
   rcases List.mem_cons.1 f with rfl | f
   ·exact j.1
   ·exact o f j.2
 have A:=Qr2 v.l true fun w f=>y w f (g.ls.mem f) (QpW f i) (q f d.2)
 have b:=d.1
 rw [Qtk,m]
 unfold fitN at b
 rcases r with ⟨h,_⟩ | ⟨h,_⟩ | ⟨h,hn,_⟩ | ⟨h,_⟩ | ⟨h,_⟩ | ⟨h,_,hn⟩
 ·rw [if_pos h]
  have:(if v.n=1 then trueS else falseS).length≤5:=by split <;> decide
  omega
 ·rw [if_neg (by omega), if_pos h]
  have:=Lib.itoa_length_le v.n g.n.1 g.n.2
  omega
 ·rw [if_neg (by omega), if_neg (by omega), if_pos h]
  rw [if_pos h] at b
  have t:=Vb b
  have:=(QtI hn).2.2
  rw [Va,List.length_singleton]; omega
 ·rw [if_neg (by omega), if_neg (by omega), if_neg (by omega), if_pos h]
  rw [if_neg (by omega),if_pos h] at b
  have t:=Vb b
  have:=QtL v.s
  omega
 ·rw [if_neg (by omega), if_neg (by omega), if_neg (by omega), if_neg (by omega), if_pos h]
  simp only [Vd,Va,Vk]; omega
 ·rw [if_neg (by omega), if_neg (by omega), if_neg (by omega), if_neg (by omega), if_neg (by omega)]
  have:=(QrO hn).2.2.2.1
  have z:(if v.l.length=0 then ([]:Str) else 40::(showR true v.l++[41])).length≤(showR true v.l).length+2:=by
   split
   ·exact Nat.zero_le _
   ·simp
  rw [Va]; omega
end
section
open Go
inductive TyV where
 | mk (n:Str) (a:List TyV)
inductive ExV where
 | mk (k:Int) (n:Str) (v:V) (a:List ExV)
structure LiV where
 k:Int
 r:Str
 a:List ExV
structure FdV where
 n:Str
 t:TyV
structure CnV where
 n:Str
 f:List FdV
structure TdV where
 p:Bool
 n:Str
 ps:List Str
 cs:List CnV
structure RdV where
 p:Bool
 i:Bool
 n:Str
 f:List FdV
structure RuV where
 r:Str
 a:List ExV
 g:List Str
 b:List LiV
structure NeV where
 n:Str
 b:List LiV
structure MoV where
 n:Str
 im:List Str
 ty:List TdV
 re:List RdV
 ru:List RuV
 ne:List NeV
def TyV.n:TyV→Str | .mk n _=>n
def TyV.a:TyV→List TyV | .mk _ a=>a
def ExV.k:ExV→Int | .mk k _ _ _=>k
def ExV.n:ExV→Str | .mk _ n _ _=>n
def ExV.v:ExV→V | .mk _ _ v _=>v
def ExV.a:ExV→List ExV | .mk _ _ _ a=>a
theorem TyV.rec_ {P:TyV→Prop} (h:∀ v,(∀ w ∈ v.a,P w)→P v):∀ v,P v
 | .mk n a=>h _ fun w hw=>by
  have:sizeOf w < sizeOf a:=List.sizeOf_lt_of_mem hw
  exact TyV.rec_ h w
termination_by v=>sizeOf v
decreasing_by simp_wf; have:sizeOf w < sizeOf a:=List.sizeOf_lt_of_mem hw; omega
theorem ExV.rec_ {P:ExV→Prop} (h:∀ v,(∀ w ∈ v.a,P w)→P v):∀ v,P v
 | .mk k n u a=>h _ fun w hw=>by
  have:sizeOf w < sizeOf a:=List.sizeOf_lt_of_mem hw
  exact ExV.rec_ h w
termination_by v=>sizeOf v
decreasing_by simp_wf; have:sizeOf w < sizeOf a:=List.sizeOf_lt_of_mem hw; omega
end
section
open Go Go.Proofs
def Nm (x n:Str):Prop:=x=n∧n.length≤140737488355328
def SlIs {α β:Type} (R:α→β→Prop) (c:β→List Value) (A:Heap) (s:Sl) (l:List α):Prop:=
 ∃ xs:List β,rdsl A s (xs.flatMap c)∧s.len=xs.length∧l.length=xs.length∧l.length≤140737488355328∧∀ (i:Nat) (v:α) (x:β),l[i]? = some v→xs[i]? = some x→R v x
mutual
def TyIs (H:Heap):TyV→Qf→Prop
 | .mk n a,x=>Nm x.Name n∧∃ xs:List Qf,rdsl H x.Args (xs.flatMap Qf.c)∧x.Args.len=xs.length∧a.length≤140737488355328∧TysAre H a xs
def TysAre (H:Heap):List TyV→List Qf→Prop
 | [],[]=>True
 | v::l,x::xs=>TyIs H v x∧TysAre H l xs
 | [],_::_=>False
 | _::_,[]=>False
end
mutual
def ExIs (H:Heap):ExV→Qe→Prop
 | .mk k n v a,x=>x.Kind=k∧Nm x.Name n∧VIs H v x.Value_∧VB v∧∃ xs:List Qe,rdsl H x.Args (xs.flatMap Qe.c)∧x.Args.len=xs.length∧a.length≤140737488355328∧ExsAre H a xs
def ExsAre (H:Heap):List ExV→List Qe→Prop
 | [],[]=>True
 | v::l,x::xs=>ExIs H v x∧ExsAre H l xs
 | [],_::_=>False
 | _::_,[]=>False
end
theorem TysAre.iff {H:Heap}:∀ {l:List TyV} {xs:List Qf},TysAre H l xs↔l.length=xs.length∧∀ (i:Nat) (v:TyV) (x:Qf),l[i]? = some v→xs[i]? = some x→TyIs H v x
 | [],[]=>by simp [TysAre]
 | [],_::_=>by simp [TysAre]
 | _::_,[]=>by simp [TysAre]
 | v::l,x::xs=>by
  simp only [TysAre,TysAre.iff (l:=l) (xs:=xs),Vd]
  constructor
  ·rintro ⟨h1,h2,h3⟩
   refine ⟨by omega,fun i v' x' hv hx=>?_⟩
   cases i with
   | zero=>simp at hv hx; subst hv; subst hx; exact h1
   | succ i=>exact h3 i v' x' (by simpa using hv) (by simpa using hx)
  ·rintro ⟨h1,h2⟩
   exact ⟨h2 0 v x rfl rfl,by omega,fun i v' x' hv hx=>h2 (i+1) v' x' (by simpa using hv) (by simpa using hx)⟩
theorem ExsAre.iff {H:Heap}:∀ {l:List ExV} {xs:List Qe},ExsAre H l xs↔l.length=xs.length∧∀ (i:Nat) (v:ExV) (x:Qe),l[i]? = some v→xs[i]? = some x→ExIs H v x
 | [],[]=>by simp [ExsAre]
 | [],_::_=>by simp [ExsAre]
 | _::_,[]=>by simp [ExsAre]
 | v::l,x::xs=>by
  simp only [ExsAre,ExsAre.iff (l:=l) (xs:=xs),Vd]
  constructor
  ·rintro ⟨h1,h2,h3⟩
   refine ⟨by omega,fun i v' x' hv hx=>?_⟩
   cases i with
   | zero=>simp at hv hx; subst hv; subst hx; exact h1
   | succ i=>exact h3 i v' x' (by simpa using hv) (by simpa using hx)
  ·rintro ⟨h1,h2⟩
   exact ⟨h2 0 v x rfl rfl,by omega,fun i v' x' hv hx=>h2 (i+1) v' x' (by simpa using hv) (by simpa using hx)⟩
abbrev TyL (A:Heap):=SlIs (TyIs A) Qf.c A
abbrev ExL (A:Heap):=SlIs (ExIs A) Qe.c A
theorem Qb7 {H:Heap} {v:TyV} {x:Qf}:TyIs H v x↔Nm x.Name v.n∧TyL H x.Args v.a:=by
 obtain ⟨n,a⟩:=v
 simp only [TyIs,TyV.n,TyV.a,TyL,SlIs,TysAre.iff]
 constructor
 ·rintro ⟨b,xs,d,f,g,h,i⟩; exact ⟨b,xs,d,f,h,g,i⟩
 ·rintro ⟨b,xs,d,f,h,g,i⟩; exact ⟨b,xs,d,f,g,h,i⟩
theorem Qdv {H:Heap} {v:ExV} {x:Qe}:ExIs H v x↔x.Kind=v.k∧Nm x.Name v.n∧VIs H v.v x.Value_∧VB v.v∧ExL H x.Args v.a:=by
 obtain ⟨k,n,u,a⟩:=v
 simp only [ExIs,ExV.k,ExV.n,ExV.v,ExV.a,ExL,SlIs,ExsAre.iff]
 constructor
 ·rintro ⟨b,d,f,g,xs,h,i,j,h8,m⟩; exact ⟨b,d,f,g,xs,h,i,h8,j,m⟩
 ·rintro ⟨b,d,f,g,xs,h,i,h8,j,m⟩; exact ⟨b,d,f,g,xs,h,i,j,h8,m⟩
def StL (A:Heap):Sl→List Str→Prop:=SlIs (fun (v:Str) (x:Str)=>Nm x v) (fun x=>[sv x]) A
def FdIs (A:Heap) (v:FdV) (x:Ql):Prop:=Nm x.Name v.n∧TyIs A v.t x.Type_
abbrev FdL (A:Heap):=SlIs (FdIs A) Ql.c A
def CnIs (A:Heap) (v:CnV) (x:Qj):Prop:=Nm x.Name v.n∧FdL A x.Fields v.f
abbrev CnL (A:Heap):=SlIs (CnIs A) Qj.c A
def TdIs (A:Heap) (v:TdV) (x:Qd):Prop:=x.Pub=v.p∧Nm x.Name v.n∧StL A x.Params v.ps∧CnL A x.Cons v.cs
abbrev TdL (A:Heap):=SlIs (TdIs A) Qd.c A
def RdIs (A:Heap) (v:RdV) (x:Qh):Prop:=x.Pub=v.p∧x.Input=v.i∧Nm x.Name v.n∧FdL A x.Fields v.f
abbrev RdL (A:Heap):=SlIs (RdIs A) Qh.c A
def LiIs (A:Heap) (v:LiV) (x:Qm):Prop:=x.Kind=v.k∧Nm x.Rel v.r∧ExL A x.Args v.a
abbrev LiL (A:Heap):=SlIs (LiIs A) Qm.c A
def RuIs (A:Heap) (v:RuV) (x:Qi):Prop:=Nm x.Rel v.r∧ExL A x.Args v.a∧StL A x.Aggs v.g∧LiL A x.Body v.b
abbrev RuL (A:Heap):=SlIs (RuIs A) Qi.c A
def NeIs (A:Heap) (v:NeV) (x:Qo):Prop:=Nm x.Name v.n∧LiL A x.Body v.b
abbrev NeL (A:Heap):=SlIs (NeIs A) Qo.c A
def ImIs (v:Str) (x:Qq):Prop:=Nm x.Name v
abbrev ImL (A:Heap):=SlIs ImIs Qq.c A
def MoIs (A:Heap) (v:MoV) (x:Qa):Prop:=Nm x.Name v.n∧ImL A x.Imports v.im∧TdL A x.Types v.ty∧RdL A x.Rels v.re∧RuL A x.Rules v.ru∧NeL A x.Nevers v.ne
section
variable {α β:Type} {R:α→β→Prop} {c:β→List Value} {A H:Heap} {s:Sl} {l:List α}
theorem SlIs.len (h:SlIs R c A s l):s.len=l.length:=by obtain ⟨xs,b,d,f,_⟩:=h; omega
theorem SlIs.bd (h:SlIs R c A s l):l.length≤140737488355328:=by obtain ⟨xs,d,f,g,b,_⟩:=h; exact b
theorem SlIs.at_ (h:SlIs R c A s l) (hle:A.le H) {z:Nat} (d:∀ x,(c x).length=z) (f:0 < z) {i:Nat} {x:Int} {K:Nat×Nat→Prop} (hx:x=i) (hi:i < l.length) (k:∀ p y,R l[i] y→(∀ j v,(c y)[j]? = some v→rd H (p.1,p.2+x.toNat*z+j)=some v)→K p):ixa s x K:=by
 obtain ⟨xs,g,q,r,_,m⟩:=h
 have b:i < xs.length:=by omega
 have hg:=Vf b
 subst hx
 refine Qs7 (Qgl hle g) (by omega) (by omega) (fun e=>?_) fun p _ hp=>k p xs[i] (m i _ _ (Vf hi) hg) fun j v o=>?_
 ·have := QkQ c z d xs i _ hg 0 ((c xs[i])[0]'(by rw [d]; exact f)) (by rw [Vf])
  rw [e] at this; simp at this
 ·have:=Qi7 hp _ _ (QkQ c z d xs i _ hg j v o)
  have e0:(i:Int).toNat=i:=by omega
  rw [e0,Nat.add_assoc]; exact this
theorem SlIs.ld (h:SlIs R c A s l) (hle:A.le H) {z:Nat} (g:∀ x,(c x).length=z) (b:0 < z) {i:Nat} {x:Int} {K:β→Prop} (hx:x=i) (hi:i < l.length) (k:∀ y,R l[i] y→K y):ixa s x fun p=>ldT H c (p.1,p.2+x.toNat*z) K:=
 h.at_ hle g b hx hi fun p y hy f=>⟨y,Qff fun j v d=>f j v d,k y hy⟩
theorem Qg5 {l m:List α} {i:Nat} (h1:i < l.length) (h2:i < m.length) (h:l.take i=m.take i) (he:l[i]=m[i]):l.take (i+1)=m.take (i+1):=by
 rw [Vp,Vp,h,Vf h1,Vf h2,he]
theorem Qj7 {l m:List α} {i:Nat} (d:i < l.length) (f:i < m.length) (b:l[i]≠m[i]):l≠m:=fun e=>by subst e; exact b rfl
theorem Qfs {l m:List α} {i:Nat} (b:i=l.length) (d:l.length=m.length) (h:l.take i=m.take i):l=m:=by
 rw [b,Vl,d,Vl] at h; exact h
end
section
variable {α β:Type} {R R2:α→β→Prop} {c:β→List Value} {A B:Heap} {s:Sl} {l:List α}
theorem SlIs.le (hle:A.le B) (h:SlIs R c A s l) (o:∀ v ∈ l,∀ x,R v x→R2 v x):SlIs R2 c B s l:=by
 obtain ⟨xs,d,f,g,j,m⟩:=h
 exact ⟨xs,Qgl hle d,f,g,j,fun i v x b hx=>o v (List.mem_of_getElem? b) x (m i v x b hx)⟩
end
theorem TyIs.le {A B:Heap} (hle:A.le B):∀ v:TyV,∀ x,TyIs A v x→TyIs B v x:=by
 refine TyV.rec_ fun v b x h=>?_
 rw [Qb7] at h ⊢
 exact ⟨h.1,h.2.le hle b⟩
section
variable {A B:Heap} (hle:A.le B)
include hle
theorem StL.le {s:Sl} {l:List Str} (h:StL A s l):StL B s l:=SlIs.le hle h fun _ _ _ h=>h
theorem FdIs.le {v:FdV} {x} (h:FdIs A v x):FdIs B v x:=⟨h.1,TyIs.le hle _ _ h.2⟩
theorem CnIs.le {v:CnV} {x} (h:CnIs A v x):CnIs B v x:=⟨h.1,h.2.le hle fun _ _ _ h=>FdIs.le hle h⟩
end
end
section
open Go Go.Proofs
open Classical in
noncomputable def sm {α:Type} (v w:α):Bool:=decide (v=w)
theorem sm_t {α:Type} {v w:α}:sm v w=true↔v=w:=by unfold sm; simp
theorem QmZ {α:Type} {v w:α} (h:v=w):sm v w=true:=sm_t.2 h
theorem Qk2 {α:Type} {v w:α} (h:¬ v=w):sm v w=false:=by
 cases hs:sm v w with
 | false=>rfl
 | true=>exact absurd (sm_t.1 hs) h
section
variable {C:Ctx} {H:Heap}
theorem box2 {b d:List Value} {K:Nat→Nat→HP} (k:∀ b1 b3 H4,H.le H4→H4 b1=some (true,.row b)→H4 b3=some (true,.row d)→K b1 b3 H4):nw b (fun b1 H2=>nw d (fun b3 H4=>K b1 b3 H4) H2) H:=by
 intro b1 n1 b3 n3
 have ne:b1≠b3:=fun e=>by rw [e,Xa] at n3; cases n3
 exact k b1 b3 _ ((Xc n1).trans (Xc n3)) (by rw [Xb _ _ _ ne,Xa]) (Xa ..)
theorem nwT {b:Nat} {d f:List Value} {K:HP} (g:d.length=f.length) (k:K (H.put b (.row d))):stT (b,0) d K (H.put b (.row f)):=by
 refine ⟨_,Xa ..,by rw [g]; simp,?_⟩
 rw [Xh]
 have e:splice f (b,0).2 d=d:=by
  unfold splice
  rw [List.take_zero,List.nil_append,List.drop_of_length_le (by rw [g]; simp),List.append_nil]
 rw [e]; exact k
theorem bxT {β:Type} {c:β→List Value} {b:Nat} {m:Bool} {x:β} {K:β→Prop} (h:H b=some (m,.row (c x))) (k:K x):ldT H c (b,0) K:=⟨x,QhT h fun j v d=>by rw [Nat.zero_add]; exact d,k⟩
theorem fS {b j:Nat} {m:Bool} {cs:List Value} {t:Str} {K:Str→Prop} (h:H b=some (m,.row cs)) (d:cs[j]? = some (sv t)) (k:K t):ldS H ((b,0).1,(b,0).2+j) K:=⟨t,by rw [Qaq h,Nat.zero_add]; exact d,k⟩
theorem fI {b j:Nat} {m:Bool} {cs:List Value} {q:IntKind} {t:Int} {K:Int→Prop} (h:H b=some (m,.row cs)) (d:cs[j]? = some (.int q t)) (k:K t):ldI H q ((b,0).1,(b,0).2+j) K:=⟨t,by rw [Qaq h,Nat.zero_add]; exact d,k⟩
theorem fB {b j:Nat} {m:Bool} {cs:List Value} {t:Bool} {K:Bool→Prop} (h:H b=some (m,.row cs)) (d:cs[j]? = some (.bool t)) (k:K t):ldB H ((b,0).1,(b,0).2+j) K:=⟨t,by rw [Qaq h,Nat.zero_add]; exact d,k⟩
theorem fL {b j:Nat} {m:Bool} {cs:List Value} {t:Sl} {K:Sl→Prop} (h:H b=some (m,.row cs)) (d:cs[j]? = some (slv t)) (k:K t):ldL H ((b,0).1,(b,0).2+j) K:=⟨t,by rw [Qaq h,Nat.zero_add]; exact d,k⟩
theorem fT {β:Type} {c:β→List Value} {b j:Nat} {m:Bool} {cs:List Value} {x:β} {K:β→Prop} (h:H b=some (m,.row cs)) (d:∀ i v,(c x)[i]? = some v→cs[j+i]? = some v) (k:K x):ldT H c ((b,0).1,(b,0).2+j) K:=⟨x,QhT h fun i v hi=>by rw [Nat.zero_add]; exact d i v hi,k⟩
theorem cu {P:Program} {f:FuncId} {vs:List Value} {Φ:Value→HP} (b:CallOk P f) (h:Spec P C f vs H Φ):callU P C (.func (.func f) (List.toArray []) (List.toArray [])) vs H Φ:=⟨f,[],[],rfl,b,by simpa using h⟩
end
section
variable {α β:Type} {R:α→β→Prop} {c:β→List Value} {A H:Heap} {s:Sl} {l:List α} {z:Nat} {i j:Nat} {x:Int}
theorem SlIs.fS {K:Str→Prop} (h:SlIs R c A s l) (hle:A.le H) (m:∀ x,(c x).length=z) (b:0 < z) (hx:x=i) (hi:i < l.length) {f:β→Str} (d:∀ y,(c y)[j]? = some (sv (f y))) (k:∀ y,R l[i] y→K (f y)):ixa s x fun p=>ldS H ((p.1,p.2+x.toNat*z).1,(p.1,p.2+x.toNat*z).2+j) K:=
 h.at_ hle m b hx hi fun p y hy g=>⟨f y,g j _ (d y),k y hy⟩
theorem SlIs.fI {q:IntKind} {K:Int→Prop} (h:SlIs R c A s l) (hle:A.le H) (m:∀ x,(c x).length=z) (b:0 < z) (hx:x=i) (hi:i < l.length) {f:β→Int} (d:∀ y,(c y)[j]? = some (.int q (f y))) (k:∀ y,R l[i] y→K (f y)):ixa s x fun p=>ldI H q ((p.1,p.2+x.toNat*z).1,(p.1,p.2+x.toNat*z).2+j) K:=
 h.at_ hle m b hx hi fun p y hy g=>⟨f y,g j _ (d y),k y hy⟩
theorem SlIs.fL {K:Sl→Prop} (h:SlIs R c A s l) (hle:A.le H) (m:∀ x,(c x).length=z) (b:0 < z) (hx:x=i) (hi:i < l.length) {f:β→Sl} (d:∀ y,(c y)[j]? = some (slv (f y))) (k:∀ y,R l[i] y→K (f y)):ixa s x fun p=>ldL H ((p.1,p.2+x.toNat*z).1,(p.1,p.2+x.toNat*z).2+j) K:=
 h.at_ hle m b hx hi fun p y hy g=>⟨f y,g j _ (d y),k y hy⟩
theorem SlIs.fT {γ:Type} {d:γ→List Value} {K:γ→Prop} (h:SlIs R c A s l) (hle:A.le H) (o:∀ x,(c x).length=z) (b:0 < z) (hx:x=i) (hi:i < l.length) {f:β→γ} (g:∀ y n v,(d (f y))[n]? = some v→(c y)[j+n]? = some v) (k:∀ y,R l[i] y→K (f y)):ixa s x fun p=>ldT H d ((p.1,p.2+x.toNat*z).1,(p.1,p.2+x.toNat*z).2+j) K:=
 h.at_ hle o b hx hi fun p y hy m=>⟨f y,Qff fun n v hn=>by
  have:=m (j+n) v (g y n v hn)
  rw [← Nat.add_assoc] at this; exact this,k y hy⟩
end
section
variable {C:Ctx} {H:Heap}
variable {α:Type} {A:Heap} {s t:Sl} {l m:List α} {e:Value} {K:Bool→HP}
theorem Qik (x:Qq):(Qq.c x).length=3:=rfl
theorem Qdi (x:Qd):(Qd.c x).length=6:=rfl
theorem Qb0 (x:Qj):(Qj.c x).length=2:=rfl
theorem Qa4 (x:Ql):(Ql.c x).length=3:=rfl
theorem QdE (x:Qh):(Qh.c x).length=6:=rfl
theorem QfT (x:Qi):(Qi.c x).length=6:=rfl
theorem QbA (x:Qe):(Qe.c x).length=9:=rfl
theorem Qbs (x:Qm):(Qm.c x).length=5:=rfl
theorem QcE (x:Qo):(Qo.c x).length=4:=rfl
theorem Qi2 (x:Qf):(Qf.c x).length=2:=rfl
end
end
section
open Go
def resW:List Str:=[[109,111,100,117,108,101],[105,109,112,111,114,116],[112,117,98],[116,121,112,101],[105,110,112,117,116],[114,101,108],[110,101,118,101,114],[110,111,116],[97,110,100],[111,114],[105,102],[116,104,101,110],[101,108,115,101],[116,114,117,101],[102,97,108,115,101],[99,111,117,110,116],[115,117,109],[109,105,110],[109,97,120],[110,101,103],[108,101,110],[98,105,103],[105,110,116],[98,111,111,108],[116,101,120,116],[116,117,112,108,101]]
def namS (s:Str):Bool:=nameS s && !resW.contains s
def longS (s:Str):Bool:=match cutD s with
 | some (a,b)=>namS a && namS b
 | none=>namS s
def upC (c:UInt8):Bool:=decide (65≤c.toNat) && decide (c.toNat≤90)
def varS (s:Str):Bool:=!s.isEmpty && decide (s.length≤32) && upC (s.headD 0) && s.all nameC
def parS (s:Str):Bool:=match s with
 | c::t=>decide (c=39) && namS t
 | []=>false
def tupS:Str:=[116,117,112,108,101]
def boolS:Str:=[98,111,111,108]
def intS:Str:=[105,110,116]
def bigS:Str:=[98,105,103]
def textS:Str:=[116,101,120,116]
def negS:Str:=[110,101,103]
def lenS:Str:=[108,101,110]
def notS:Str:=[110,111,116]
def funB (s:Str):Bool:=decide (s=negS∨s=lenS∨s=bigS∨s=intS)
def opsW:List Str:=[[43],[45],[42],[47],[37],[43,43],[61,61],[33,61],[60],[60,61],[62],[62,61],[97,110,100],[111,114]]
def arS (s:Str):Nat:=if opsW.contains s then 2 else if s=notS∨funB s=true then 1 else 0
mutual
def tyD:TyV→Nat
 | .mk _ a=>tysD a+1
def tysD:List TyV→Nat
 | []=>0
 | v::l=>max (tyD v) (tysD l)
end
mutual
def exD:ExV→Nat
 | .mk _ _ _ a=>exsD a+1
def exsD:List ExV→Nat
 | []=>0
 | v::l=>max (exD v) (exsD l)
end
def mxL {α:Type} (f:α→Nat):List α→Nat
 | []=>0
 | v::l=>max (f v) (mxL f l)
def fdsD (l:List FdV):Nat:=mxL (fun f=>tyD f.t) l
def liD (x:LiV):Nat:=exsD x.a
def lisD (l:List LiV):Nat:=mxL liD l
def tdD (t:TdV):Nat:=mxL (fun c:CnV=>fdsD c.f) t.cs
def ruD (r:RuV):Nat:=max (exsD r.a) (lisD r.b)
def moD (m:MoV):Nat:=max (max (mxL tdD m.ty) (mxL (fun r:RdV=>fdsD r.f) m.re)) (max (mxL ruD m.ru) (mxL (fun n:NeV=>lisD n.b) m.ne))
def tyN (n:Str) (m:Nat):Bool:=
 if n=boolS∨n=intS∨n=bigS∨n=textS then decide (m=0)
 else if n=tupS then decide (m≠1) && decide (m≤16)
 else (parS n && decide (m=0)) || (longS n && decide (m≤8))
mutual
def tyOk:TyV→Bool
 | .mk n a=>tyN n a.length && tysOk a
def tysOk:List TyV→Bool
 | []=>true
 | v::l=>tyOk v && tysOk l
end
def exN (p:Bool) (k:Int) (n:Str) (m:Nat):Bool:=
 if k=2 then varS n && decide (m=0)
 else if k=3 then p && n.isEmpty && decide (m=0)
 else if k=4 then n.isEmpty && decide (m≠1) && decide (m≤16)
 else if k=5 then longS n && decide (m≤8)
 else if k=6 then !p && decide (0 < arS n) && decide (m=arS n)
 else if k=7 then !p && namS n && decide (m=1)
 else if k=8 then !p && n.isEmpty && decide (m=3)
 else false
def noV (v:V):Bool:=decide (v.k=0) && decide (v.n=0) && v.s.isEmpty && decide (v.l.length=0)
def litV (v:V):Bool:=decide (1≤v.k) && decide (v.k≤4) && mayV v
mutual
def exOk:Bool→ExV→Bool
 | p,.mk k n v a=>if k=1 then litV v && decide (a.length=0) && n.isEmpty else exN p k n a.length && noV v && exsOk p a
def exsOk:Bool→List ExV→Bool
 | _,[]=>true
 | p,v::l=>exOk p v && exsOk p l
end
def liOk (x:LiV):Bool:=
 if x.k=1∨x.k=2 then longS x.r && decide (x.a.length≤8) && exsOk true x.a
 else if x.k=3 then x.r.isEmpty && decide (x.a.length=1) && exsOk false x.a
 else if x.k=4 then varS x.r && decide (x.a.length=1) && exsOk false x.a
 else false
def fdOk (nm:Bool) (f:FdV):Bool:=(namS f.n || (!nm && f.n.isEmpty)) && tyOk f.t
def fdsOk (nm:Bool) (l:List FdV):Bool:=decide (l.length≤8) && l.all (fdOk nm)
def cnOk (c:CnV):Bool:=namS c.n && fdsOk false c.f
def tdOk (t:TdV):Bool:=namS t.n && decide (t.ps.length≤8) && t.ps.all parS && decide (1≤t.cs.length) && decide (t.cs.length≤16) && t.cs.all cnOk
def rdOk (r:RdV):Bool:=namS r.n && fdsOk true r.f
def countS:Str:=[99,111,117,110,116]
def sumS:Str:=[115,117,109]
def minS:Str:=[109,105,110]
def maxS:Str:=[109,97,120]
def agOk (s:Str):Bool:=decide (s=[]∨s=countS∨s=sumS∨s=minS∨s=maxS)
def ruOk (r:RuV):Bool:=longS r.r && decide (r.a.length≤8) && decide (r.g.length=r.a.length) && exsOk false r.a && r.b.all liOk && r.g.all agOk
def neOk (n:NeV):Bool:=namS n.n && decide (0 < n.b.length) && n.b.all liOk
def moOk (m:MoV):Bool:=namS m.n && m.im.all namS && m.ty.all tdOk && m.re.all rdOk && m.ru.all ruOk && m.ne.all neOk
def moFew (m:MoV):Bool:=decide (m.im.length≤8) && decide (m.ty.length≤64) && decide (m.re.length≤64) && decide (m.ru.length≤256) && decide (m.ne.length≤256) && m.ru.all (fun r=>decide (r.b.length≤12)) && m.ne.all (fun n=>decide (n.b.length≤12))
def moC (m:MoV):Int:=if moD m > 64 then 65 else if moOk m=false then 4 else if moFew m=false then 3 else 0
def cm:Nat→Str
 | 0=>[]
 | _+1=>[44,32]
def noSep:Nat→Str:=fun _=>[]
def opSep (n:Str):Nat→Str
 | 0=>[]
 | _+1=>32::(n++[32])
def ifSep:Nat→Str
 | 0=>[40,105,102,32]
 | 1=>[32,116,104,101,110,32]
 | _=>[32,101,108,115,101,32]
mutual
def tyT:TyV→Str
 | .mk n a=>if n=tupS then 40::(tysT 0 a++[41]) else n++(if a.length=0 then [] else 40::(tysT 0 a++[41]))
def tysT:Nat→List TyV→Str
 | _,[]=>[]
 | i,v::l=>cm i++(tyT v++tysT (i+1) l)
end
def brkE:List ExV→Bool
 | []=>false
 | x::_=>decide (x.k=1∨x.k=5∨(x.k=6∧funB x.n=true))
mutual
def exT:ExV→Str
 | .mk k n v a=>
  if k=1 then showV v else if k=2 then n else if k=3 then [95] else if k=4 then 40::(exsT cm 0 a++[41])
  else if k=5 then n++(if a.length=0 then [] else 40::(exsT cm 0 a++[41]))
  else if k=6 then (if funB n=true then n++40::(exsT cm 0 a++[41]) else if a.length=1 then 40::(n++32::(exsT noSep 0 a++[41])) else 40::(exsT (opSep n) 0 a++[41]))
  else if k=7 then (if brkE a=true then 40::(exsT cm 0 a++[41]) else exsT cm 0 a)++46::n
  else exsT ifSep 0 a++[41]
def exsT:(Nat→Str)→Nat→List ExV→Str
 | _,_,[]=>[]
 | sep,i,v::l=>sep i++(exT v++exsT sep (i+1) l)
end
def jo {α:Type} (sep:Str) (f:α→Str):Nat→List α→Str
 | _,[]=>[]
 | i,v::l=>(if i=0 then [] else sep)++(f v++jo sep f (i+1) l)
def isMk:List ExV→Bool
 | []=>false
 | x::_=>decide (x.k=5)
def liT (x:LiV):Str:=
 if x.k=1 then x.r++40::(exsT cm 0 x.a++[41])
 else if x.k=2 then [110,111,116,32]++(x.r++40::(exsT cm 0 x.a++[41]))
 else if x.k=4 then x.r++([32,61,32]++exsT cm 0 x.a)
 else if isMk x.a=true then 40::(exsT cm 0 x.a++[41]) else exsT cm 0 x.a
def boT (l:List LiV):Str:=jo [44,32] liT 0 l
def fdT (f:FdV):Str:=(if f.n=[] then [] else f.n++[58,32])++tyT f.t
def fdsT (l:List FdV):Str:=jo [44,32] fdT 0 l
def pubT (b:Bool):Str:=if b then [112,117,98,32] else []
def cnT (c:CnV):Str:=c.n++(if c.f.length=0 then [] else 40::(fdsT c.f++[41]))
def imT (n:Str):Str:=[105,109,112,111,114,116,32]++(n++[10])
def tdT (t:TdV):Str:=pubT t.p++([116,121,112,101,32]++(t.n++((if t.ps.length=0 then [] else 40::(jo [44,32] id 0 t.ps++[41]))++([32,61,32]++(jo [32,124,32] cnT 0 t.cs++[10])))))
def rdT (r:RdV):Str:=pubT r.p++((if r.i then [105,110,112,117,116,32] else [114,101,108,32])++(r.n++40::(fdsT r.f++[41,10])))
def agT (g:Str) (x:ExV):Str:=if g=[] then exT x else g++40::(exT x++[41])
def agsT:Nat→List Str→List ExV→Str
 | i,g::gs,x::xs=>cm i++(agT g x++agsT (i+1) gs xs)
 | _,_,_=>[]
def ruT (r:RuV):Str:=r.r++40::(agsT 0 r.g r.a++41::((if r.b.length=0 then [] else [32,58,45,32]++boT r.b)++[46,10]))
def neT (n:NeV):Str:=[110,101,118,101,114,32]++(n.n++([32,58,45,32]++(boT n.b++[46,10])))
def hdT (n:Str):Str:=[109,111,100,117,108,101,32]++(n++[10])
def moL (m:MoV):List Str:=hdT m.n::(m.im.map imT++(m.ty.map tdT++(m.re.map rdT++(m.ru.map ruT++m.ne.map neT))))
def moT (m:MoV):Str:=(moL m).flatten
end
section
open Go
def blk (W:List Str):Str:=32::W.flatMap (·++[32])
theorem QqI (w:Str) (W:List Str):blk (w::W)=32::(w++blk W):=by simp [blk]
theorem first32:∀ {a b x y:Str},(32:UInt8) ∉ a→(32:UInt8) ∉ b→a++32::x=b++32::y→a=b
 | [],[],_,_,_,_,_=>rfl
 | [],c::b,x,y,_,h2,h=>by
  simp only [List.nil_append,List.cons_append] at h; injection h with h _; subst h; simp at h2
 | c::a,[],x,y,h1,_,h=>by
  simp only [List.nil_append,List.cons_append] at h; injection h with h _; subst h; simp at h1
 | c::a,d::b,x,y,h1,h2,h=>by
  simp only [List.cons_append] at h; injection h with h h'
  subst h
  rw [first32 (fun hm=>h1 (List.mem_cons_of_mem _ hm)) (fun hm=>h2 (List.mem_cons_of_mem _ hm)) h']
theorem Qt6 {s:Str} (i:(32:UInt8) ∉ s):∀ {W:List Str},(∀ w ∈ W,(32:UInt8) ∉ w)→∀ {a b:Str},blk W=a++32::(s++32::b)→s ∈ W
 | [],_,a,b,h=>by
  have:=congrArg List.length h
  simp [blk] at this; omega
 | w::W,hW,a,b,h=>by
  rw [QqI] at h
  have j:=hW w (List.mem_cons_self ..)
  have m:=fun {a b}=>Qt6 i (W:=W) (fun w h=>hW w (List.mem_cons_of_mem _ h)) (a:=a) (b:=b)
  cases a with
  | nil=>
   simp only [List.nil_append] at h; injection h with _ h
   have:w++32::(W.flatMap (·++[32]))=s++32::b:=h
   rw [first32 j i this]; exact List.mem_cons_self ..
  | cons c a=>
   simp only [List.cons_append] at h; injection h with _ h
   refine List.mem_cons_of_mem _ ?_
   rcases List.append_eq_append_iff.1 h with ⟨o,g,d⟩ | ⟨f,g,d⟩
   ·exact m d
   ·cases f with
    | nil=>exact m (a:=[]) d.symm
    | cons c f=>
     simp only [List.cons_append] at d; injection d with d _
     exact absurd (by rw [g,← d]; simp) j
theorem Qt5 {s:Str}:∀ {W:List Str},s ∈ W→∃ a b,blk W=a++32::(s++32::b)
 | w::W,h=>by
  rcases List.mem_cons.1 h with rfl | h
  ·exact ⟨[],W.flatMap (·++[32]),by rw [QqI]; rfl⟩
  ·obtain ⟨a,b,e⟩:=Qt5 h
   exact ⟨32::(w++a),b,by rw [QqI,e]; simp⟩
theorem Qrv {s t:Str}:Lib.contains s t=true ↔ ∃ a b,s=a++(t++b):=by
 unfold Lib.contains
 rw [Vj]
 constructor
 ·intro h
  rcases Lib.index_spec s t with ⟨d,_⟩ | ⟨i,d,f,g,_⟩
  ·omega
  ·unfold Lib.occAt at g
   obtain ⟨b,j⟩:=List.isPrefixOf_iff_prefix.1 g
   exact ⟨s.take i,b,by rw [j,List.take_append_drop]⟩
 ·rintro ⟨a,b,e⟩
  rcases Lib.index_spec s t with ⟨_,f⟩ | ⟨i,d,_⟩
  ·have := f a.length (by rw [e]; simp)
   unfold Lib.occAt at this
   rw [e,List.drop_left] at this
   have hp:t.isPrefixOf (t++b)=true:=List.isPrefixOf_iff_prefix.2 ⟨b,rfl⟩
   rw [hp] at this; cases this
  ·omega
theorem Qxl:∀ w ∈ resW,(32:UInt8) ∉ w:=by decide
theorem QxY {s:Str} (f:s.all nameC=true):Lib.contains (blk resW) (([32]++s)++[32])=resW.contains s:=by
 have d:(32:UInt8) ∉ s:=fun h=>by
  have:=List.all_eq_true.1 f _ h
  exact absurd this (by decide)
 rw [Vn,Qrv,List.contains_iff_mem]
 constructor
 ·rintro ⟨a,b,e⟩
  exact Qt6 d Qxl (a:=a) (b:=b) (by rw [e]; simp)
 ·intro h
  obtain ⟨a,b,e⟩:=Qt5 h
  exact ⟨a,b,by rw [e]; simp⟩
theorem QwJ:blk resW=[32,109,111,100,117,108,101,32,105,109,112,111,114,116,32,112,117,98,32,116,121,112,101,32,105,110,112,117,116,32,114,101,108,32,110,101,118,101,114,32,110,111,116,32,97,110,100,32,111,114,32,105,102,32,116,104,101,110,32,101,108,115,101,32,116,114,117,101,32,102,97,108,115,101,32,99,111,117,110,116,32,115,117,109,32,109,105,110,32,109,97,120,32,110,101,103,32,108,101,110,32,98,105,103,32,105,110,116,32,98,111,111,108,32,116,101,120,116,32,116,117,112,108,101,32]:=rfl
theorem QqM:∀ {s a b:Str},cutD s=some (a,b)→a.length≤s.length∧b.length≤s.length
 | [],a,b,h=>by simp [cutD] at h
 | c::t,a,b,h=>by
  simp only [cutD] at h
  by_cases hc:c=46
  ·rw [if_pos hc] at h; injection h with h; injection h with h1 h2; subst h1; subst h2; simp
  ·rw [if_neg hc] at h
   cases ht:cutD t with
   | none=>rw [ht] at h; simp at h
   | some p=>
    rw [ht] at h; simp at h
    obtain ⟨rfl,rfl⟩:=h
    have:=QqM (s:=t) (a:=p.1) (b:=p.2) ht
    simp only [Vd]; omega
end
section
open Go Go.Proofs
theorem Qp0 {α:Type} (f:α→Nat):∀ (a b:List α),mxL f (a++b)=max (mxL f a) (mxL f b)
 | [],b=>by simp [mxL]
 | v::a,b=>by simp only [List.cons_append,mxL,Qp0 f a b]; omega
theorem QdF {α:Type} {f:α→Nat} {l:List α} {i:Nat} (h:i < l.length):mxL f (l.take (i+1))=max (mxL f (l.take i)) (f l[i]):=by
 rw [Vp,Vf h,Vo,Qp0]; simp [mxL]
theorem QdI {α:Type} {f:α→Nat} {l:List α} {v:α} (h:v ∈ l):f v≤mxL f l:=by
 induction l with
 | nil=>cases h
 | cons a l b=>
  simp only [mxL]
  rcases List.mem_cons.1 h with rfl | h
  ·omega
  ·have:=b h; omega
theorem allTake {α:Type} {f:α→Bool} {l:List α} {i:Nat} (h:i < l.length):(l.take (i+1)).all f=((l.take i).all f && f l[i]):=by
 rw [Vp,Vf h,Vo,List.all_append]; simp
theorem allNo {α:Type} {f:α→Bool} {l:List α} {i:Nat} (h:i < l.length) (b:f l[i]=false):l.all f=false:=by
 cases hh:l.all f with
 | false=>rfl
 | true=>rw [List.all_eq_true.1 hh _ (Vg h)] at b; cases b
theorem QuB {α:Type} (sep:Str) (f:α→Str):∀ (l:List α) (i:Nat) (v:α),jo sep f i (l++[v])=jo sep f i l++((if i+l.length=0 then [] else sep)++f v)
 | [],i,v=>by simp [jo]
 | w::l,i,v=>by
  rw [List.cons_append]
  simp only [jo,QuB sep f l (i+1) v,List.append_assoc,Vd]
  rw [show i+1+l.length=i+(l.length+1) by omega]
theorem QqY {α:Type} {sep:Str} {f:α→Str} {l:List α} {i:Nat} (h:i < l.length):jo sep f 0 (l.take (i+1))=jo sep f 0 (l.take i)++((if i=0 then [] else sep)++f l[i]):=by
 rw [Vp,Vf h,Vo,QuB,List.length_take,Nat.min_eq_left (by omega)]; simp
theorem Qwn {α:Type} {sep:Str} {f:α→Str} (l:List α) (i:Nat):(jo sep f 0 (l.take i)).length≤(jo sep f 0 l).length:=by
 have:∀ (a b:List α) (k:Nat),(jo sep f k a).length≤(jo sep f k (a++b)).length:=by
  intro a
  induction a with
  | nil=>intro b k; simp [jo]
  | cons x a d=>intro b k; have:=d b (k+1); simp only [List.cons_append,jo,Va]; omega
 have:=this (l.take i) (l.drop i) 0
 rwa [List.take_append_drop] at this
abbrev tyW:TypeId:=147
structure Ww (A B:Heap) (b:Nat) (bs:Str):Prop where
 le:A.le B
 nb:A b=none
 bl:IsB tyW tyE B b bs
theorem Ww.up {A B D:Heap} {b:Nat} {bs:Str} (h:Ww A B b bs) (hle:B.le D):Ww A D b bs:=⟨h.le.trans hle,h.nb,h.bl.le hle⟩
theorem Ww.down {A d B:Heap} {b:Nat} {bs:Str} (h:Ww d B b bs) (hle:A.le d):Ww A B b bs:=⟨hle.trans h.le,hle.none h.nb,h.bl⟩
theorem Ww.full {A B:Heap} {b:Nat} {bs:Str} (h:Ww A B b bs):Ww (B.del b) B b bs∧A.le (B.del b):=
 ⟨⟨Xf _ _,Xg _ _,h.bl⟩,fun c e hc=>by
  have:c≠b:=fun e'=>by rw [e',h.nb] at hc; cases hc
  rw [Xd _ this]; exact h.le c e hc⟩
theorem Ww.byte {C:Ctx} {A B:Heap} {b:Nat} {bs:Str} {c:UInt8} {i:Int} {K:Value→HP} (h:Ww A B b bs) (hi:i=(c.toNat:Int)) (d:bs.length+1≤140737488355328) (k:∀ D,Ww A D b (bs++[c])→K .nilIface D):Qp C (some (b,0)) i K B:=by
 subst hi
 exact QjK h.bl liB147 d (k _ ⟨h.le.put _ _ h.nb,h.nb,IsB.put⟩)
theorem Ww.str {C:Ctx} {A B:Heap} {b:Nat} {bs s:Str} {K:Int→Value→HP} (h:Ww A B b bs) (d:bs.length+s.length≤140737488355328) (k:∀ D,Ww A D b (bs++s)→K (s.length:Int) .nilIface D):Qn C (some (b,0)) s K B:=
 Qk3 h.bl liB147 d (k _ ⟨h.le.put _ _ h.nb,h.nb,IsB.put⟩)
section
variable {C:Ctx} {H:Heap} {α:Type}
variable {β:Type} {R:α→β→Prop} {c:β→List Value} {zc:List Value} {z:Nat} {A B:Heap} {s:Sl} {l:List α} {e:Value} {d:α→Nat} {ok:α→Bool} {f:α→Str} {sep t:Str} {b:Nat}
abbrev HeD (C:Ctx) (A:Heap) {α β:Type} (R:α→β→Prop) (c:β→List Value) (l:List α) (e:Value) (d:α→Nat):Prop:=∀ v ∈ l,∀ (x:β) (D:Heap) (Φ:Int→HP),A.le D→R v x→Φ (d v) D→callU P0 C e [.agg (c x).toArray] D (fun v H31=>∃ r30:Int,v=.int .i64 r30∧Φ r30 H31)
abbrev HeB (C:Ctx) (A:Heap) {α β:Type} (R:α→β→Prop) (c:β→List Value) (l:List α) (e:Value) (ok:α→Bool):Prop:=∀ v ∈ l,∀ (x:β) (D:Heap) (Φ:Bool→HP),A.le D→R v x→Φ (ok v) D→callU P0 C e [.agg (c x).toArray] D (fun v H31=>∃ r30:Bool,v=.bool r30∧Φ r30 H31)
abbrev HeW (C:Ctx) (A:Heap) (b:Nat) {α β:Type} (R:α→β→Prop) (c:β→List Value) (l:List α) (e:Value) (f:α→Str):Prop:=∀ v ∈ l,∀ (x:β) (D:Heap) (u:Str) (Φ:HP),Ww A D b u→R v x→u.length+(f v).length≤140737488355328→(∀ D2,Ww A D2 b (u++f v)→Φ D2)→callU P0 C e [.agg (c x).toArray] D (fun v H31=>v=.tuple #[]∧Φ H31)
theorem dpG {K:Int→HP} (I:∀ x,(c x).length=z) (B:0 < z) (E:zc.length=z) (u:SlIs R c A s l) (G:A.le H) (L:HeD C A R c l e d) (k:∀ D,H.le D→K (mxL d l) D) :
 lp (α:=Int×Int) (0,0) H (fun x1 J2 H3=>ift (decide ((x1.2:Int) < (Sl.len s:Int))) (ixa s x1.2 fun p5=>ldT H3 c (p5.1,p5.2+(x1.2:Int).toNat*z) fun x10=>nw zc (fun b12 H13=>stT (b12,0) (c x10) (fun H14=>ldT H14 c (b12,0) fun x15=>callU P0 C e [.agg (c x15).toArray] H14 (fun v H18=>∃ (j:Int),v=.int .i64 j∧J2 ((if j > x1.1 then j else x1.1:Int),(w .i64 (x1.2+1))) H18)) H13) H3) (K x1.1 H3)):=by
 have o:=SlIs.len u
 have J:=SlIs.bd u
 refine ⟨fun y D=>H.le D∧∃ i:Nat,y=(((mxL d (l.take i):Nat):Int),(i:Int))∧i≤l.length,fun y _=>l.length - y.2.toNat,⟨Heap.le.refl _,0,rfl,Nat.zero_le _⟩,?_⟩
 rintro _ D ⟨r,i,rfl,hi⟩
 rw [o]
 refine ift.of (fun h=>?_) (fun h=>?_)
 ·have f : i < l.length := by have := Vb h; dsimp only at this; omega
  refine SlIs.ld u (G.trans r) I B rfl f fun x hx=>?_
  intro b F
  refine nwT (by rw [I,E]) ?_
  have q:=Xc F (g:=.row (c x)) (m:=true)
  refine bxT (c:=c) (Xa ..) (L _ (Vg f) x _ _ ((G.trans r).trans q) hx ?_)
  dsimp only
  rw [Qu (by omega) (by omega)]
  refine ⟨⟨r.trans q,i+1,?_,by omega⟩,by first | omega | (dsimp only; omega)⟩
  rw [QdF f]
  refine Prod.ext ?_ (by dsimp only; omega)
  dsimp only
  split <;> omega
 ·have t : i = l.length := by have := Vc h; dsimp only at this; omega
  subst t
  rw [Vl]
  exact k D r
theorem alG {K : Int → Heap → Prop} {F : Value} {j : Nat} (S : ∀ x, (c x).length = z) (J : 0 < z) (n1 : H j = none) (O : ∀ (x : β) (D : Heap) (Φ : Bool → Heap → Prop), nw (c x) (fun b2 H2 => ldV H2 (j, 0) fun x3 => ldT H2 c (b2, 0) fun x5 => callU P0 C x3 [.agg (c x5).toArray] H2 (fun v H8 => ∃ (M : Bool), v = .bool M ∧ Φ (!M) H8)) D → callU P0 C F [.agg (c x).toArray] D (fun v H13 => ∃ (d : Bool), v = .bool d ∧ Φ d H13))
 (I:SlIs R c A s l) (L:A.le H) (Q:HeB C A R c l e ok) (k:∀ D r,H.le D→(decide (r ≥ 0)=!l.all ok)→K r D) :
 lp (α:=Int) 0 (H.put j (.row [e])) (fun t J2 H3=>ift (decide ((t:Int) < (Sl.len s:Int))) (ixa s t fun p5=>ldT H3 c (p5.1,p5.2+(t:Int).toNat*z) fun x10=>callU P0 C F [.agg (c x10).toArray] H3 (fun v H13=>∃ (d:Bool),v=.bool d∧ift d (K t H13) (J2 (w .i64 (t+1)) H13))) (K (-1) H3)):=by
 have u:=Xc n1 (g:=.row [e]) (m:=true)
 have N:(H.put j (.row [e])) j=some (true,.row [e]):=Xa ..
 generalize H.put j (.row [e])=H1 at *
 have q:=SlIs.len I
 have P:=SlIs.bd I
 refine ⟨fun y D=>H1.le D∧∃ i:Nat,y=(i:Int)∧i≤l.length∧(l.take i).all ok=true,fun y _=>l.length - y.toNat,⟨Heap.le.refl _,0,rfl,Nat.zero_le _,rfl⟩,?_⟩
 rintro _ D ⟨o,i,rfl,hi,b⟩
 rw [q]
 refine ift.of (fun h=>?_) (fun h=>?_)
 ·have f : i < l.length := by have := Vb h; omega
  refine SlIs.ld I (L.trans (u.trans o)) S J rfl f fun x hx=>O _ _ _ ?_
  intro b2 n2
  have l2:=Xc n2 (g:=.row (c x)) (m:=true)
  refine ⟨e,by rw [Qaq (l2 _ _ (o _ _ N))]; rfl,bxT (c:=c) (Xa ..) (Q _ (Vg f) x _ _ ((L.trans (u.trans o)).trans l2) hx ?_)⟩
  refine ift.of (fun B=>?_) (fun B=>?_)
  ·have E : ok l[i] = false := by simpa using B
   exact k _ _ (u.trans (o.trans l2)) (by rw [allNo f E]; exact decide_eq_true (by omega))
  ·have E : ok l[i] = true := by simpa using B
   rw [Qu (by omega) (by omega)]
   exact ⟨⟨o.trans l2,i+1,by omega,by omega,by rw [allTake f,b,E]; rfl⟩,by first | omega | (dsimp only; omega)⟩
 ·have G : i = l.length := by have := Vc h; omega
  subst G
  rw [Vl] at b
  exact k _ _ (u.trans o) (by rw [b]; rfl)
theorem lsG {K:HP} (U:∀ x,(c x).length=z) (P:0 < z) (Q:zc.length=z) (O:SlIs R c A s l) (Y:Ww A B b t) (he:HeW C A b R c l e f) (hl:t.length+(jo sep f 0 l).length≤140737488355328) (k:∀ D,Ww A D b (t++jo sep f 0 l)→K D) :
 lp (α:=Int) 0 B (fun G J2 H3=>ift (decide ((G:Int) < (Sl.len s:Int))) (ixa s G fun p5=>ldT H3 c (p5.1,p5.2+(G:Int).toNat*z) fun x10=>nw zc (fun b12 H13=>stT (b12,0) (c x10) (fun H14=>jn (α:=Unit) (fun x16 H17=>ldT H17 c (b12,0) fun x25=>callU P0 C e [.agg (c x25).toArray] H17 (fun v H27=>v=.tuple #[]∧J2 (w .i64 (G+1)) H27)) (fun J15=>ift (decide ((G:Int) > 0)) (nck (some (b,0)) fun p20=>Qn C (some (p20.1,p20.2+0)) sep (fun r22 r23 H24=>J15 () H24) H14) (J15 () H14))) H13) H3) (K H3)):=by
 have u:=SlIs.len O
 have Z:=SlIs.bd O
 refine ⟨fun y D=>∃ i:Nat,y=(i:Int)∧i≤l.length∧Ww A D b (t++jo sep f 0 (l.take i)),fun y _=>l.length - y.toNat,⟨0,rfl,Nat.zero_le _,by simpa [jo] using Y⟩,?_⟩
 rintro _ D ⟨i,rfl,hi,r⟩
 rw [u]
 refine ift.of (fun h=>?_) (fun h=>?_)
 ·have j : i < l.length := by have := Vb h; omega
  have hp:=Qwn (sep:=sep) (f:=f) l (i+1)
  rw [QqY j] at hp
  simp only [Va] at hp
  refine SlIs.ld O r.le U P rfl j fun x hx=>?_
  intro d F
  refine nwT (by rw [U,Q]) ?_
  have S:=Xc F (g:=.row (c x)) (m:=true)
  have I:(D.put d (.row (c x))) d=some (true,.row (c x)):=Xa ..
  have L:=r.up S
  generalize D.put d (.row (c x))=D2 at *
  obtain ⟨T,J⟩:=L.full
  have M:d≠b:=fun W=>by
   obtain ⟨g,hg⟩:=r.bl.some
   rw [← W,F] at hg; cases hg
  refine ⟨fun _ E=>Ww (D2.del b) E b (t++jo sep f 0 (l.take i)++(if i=0 then [] else sep)),?_,?_⟩
  ·refine ift.of (fun q => ?_) (fun q => ?_)
   ·have o : i ≠ 0 := by have := Vb q; omega
    rw [if_neg o] at hp ⊢
    refine ⟨_,rfl,T.str (by simp only [Va]; omega) fun E H=>H⟩
   ·have o : i = 0 := by have := Vc q; omega
    rw [if_pos o,List.append_nil]; exact T
  ·rintro _ E H
   have hc:E d=some (true,.row (c x)):=H.le _ _ (by rw [Xd _ M]; exact I)
   refine bxT (c:=c) hc (he _ (Vg j) x E _ _ (H.down J) hx (by simp only [Va]; omega) fun D3 X=>?_)
   rw [Qu (by omega) (by omega)]
   refine ⟨⟨i+1,by omega,by omega,?_⟩,by first | omega | (dsimp only; omega)⟩
   rw [QqY j]
   simpa using X
 ·have N : i = l.length := by have := Vc h; omega
  subst N
  rw [Vl] at r
  exact k D r
theorem QtZ {R:α→Qq→Prop} {K:Bool→HP} (m:SlIs R Qq.c A s l) (f:A.le H) (i:HeB C A R Qq.c l e ok) (k:K (l.all ok) H) (b:Value.cells e = #[e]:=by exact rfl):Qak C s e K H:=by
 apply Qak.gh
 apply Qjy
 unfold QfH
 refine ⟨b,fun d n1=>?_⟩
 apply Q1
 unfold QG
 apply Qab
 unfold QK
 exact alG (K:=fun r H2=>∃ H0,Gh C H2 H0∧K (!decide (r ≥ 0)) H0) Qik (by omega) n1 (fun x D Φ h=>⟨122,[],[pv (some (d,0))],rfl,Qey,Qh6 C x (d,0) Φ D h⟩) m f i fun D r g j=>⟨H,Gh.le g,by rw [j,Bool.not_not]; exact k⟩
theorem QuH {R:α→Qq→Prop} {K:HP} (i:SlIs R Qq.c A s l) (d:Ww A B b t) (g:HeW C A b R Qq.c l e f) (h:t.length+(jo sep f 0 l).length≤140737488355328) (k:∀ D,Ww A D b (t++jo sep f 0 l)→K D):QcW C (some (b,0)) s sep e K B:=by
 apply QiL
 unfold Qfp
 refine lsG (K:=K) Qik (by omega) ?_ i d g h k
 rfl
theorem Qty {R:α→Qd→Prop} {K:Int→HP} (h:SlIs R Qd.c A s l) (b:A.le H) (g:HeD C A R Qd.c l e d) (k:K (mxL d l) H):QO C s e K H:=by
 apply QO.gh
 apply QgS
 unfold Qdt
 refine dpG (K:=fun r H2=>∃ H0,Gh C H2 H0∧K r H0) Qdi (by omega) ?_ h b g fun D f=>⟨H,Gh.le f,k⟩
 rfl
theorem Qtv {R:α→Qd→Prop} {K:Bool→HP} (m:SlIs R Qd.c A s l) (f:A.le H) (i:HeB C A R Qd.c l e ok) (k:K (l.all ok) H) (b:Value.cells e = #[e]:=by exact rfl):Qae C s e K H:=by
 apply Qae.gh
 apply QiJ
 unfold Qfn
 refine ⟨b,fun d n1=>?_⟩
 apply Qb6
 unfold Qaz
 apply Qcp
 unfold QaV
 exact alG (K:=fun r H2=>∃ H0,Gh C H2 H0∧K (!decide (r ≥ 0)) H0) Qdi (by omega) n1 (fun x D Φ h=>⟨124,[],[pv (some (d,0))],rfl,Qd4,QhG C x (d,0) Φ D h⟩) m f i fun D r g j=>⟨H,Gh.le g,by rw [j,Bool.not_not]; exact k⟩
theorem QtG {R:α→Qd→Prop} {K:HP} (i:SlIs R Qd.c A s l) (d:Ww A B b t) (g:HeW C A b R Qd.c l e f) (h:t.length+(jo sep f 0 l).length≤140737488355328) (k:∀ D,Ww A D b (t++jo sep f 0 l)→K D):QcB C (some (b,0)) s sep e K B:=by
 apply Qid
 unfold QeP
 refine lsG (K:=K) Qdi (by omega) ?_ i d g h k
 rfl
theorem Quf {R:α→Qh→Prop} {K:Int→HP} (h:SlIs R Qh.c A s l) (b:A.le H) (g:HeD C A R Qh.c l e d) (k:K (mxL d l) H):QV C s e K H:=by
 apply QV.gh
 apply Qg7
 unfold QdL
 refine dpG (K:=fun r H2=>∃ H0,Gh C H2 H0∧K r H0) QdE (by omega) ?_ h b g fun D f=>⟨H,Gh.le f,k⟩
 rfl
theorem Qt0 {R:α→Qh→Prop} {K:Bool→HP} (m:SlIs R Qh.c A s l) (f:A.le H) (i:HeB C A R Qh.c l e ok) (k:K (l.all ok) H) (b:Value.cells e = #[e]:=by exact rfl):Qal C s e K H:=by
 apply Qal.gh
 apply Qjz
 unfold QfI
 refine ⟨b,fun d n1=>?_⟩
 apply Qch
 unfold QaM
 apply QcT
 unfold Qbb
 exact alG (K:=fun r H2=>∃ H0,Gh C H2 H0∧K (!decide (r ≥ 0)) H0) QdE (by omega) n1 (fun x D Φ h=>⟨130,[],[pv (some (d,0))],rfl,Qez,Qh7 C x (d,0) Φ D h⟩) m f i fun D r g j=>⟨H,Gh.le g,by rw [j,Bool.not_not]; exact k⟩
theorem QuI {R:α→Qh→Prop} {K:HP} (i:SlIs R Qh.c A s l) (d:Ww A B b t) (g:HeW C A b R Qh.c l e f) (h:t.length+(jo sep f 0 l).length≤140737488355328) (k:∀ D,Ww A D b (t++jo sep f 0 l)→K D):QcX C (some (b,0)) s sep e K B:=by
 apply QiM
 unfold Qfq
 refine lsG (K:=K) QdE (by omega) ?_ i d g h k
 rfl
theorem QwQ {R:α→Qi→Prop} {K:Int→HP} (h:SlIs R Qi.c A s l) (b:A.le H) (g:HeD C A R Qi.c l e d) (k:K (mxL d l) H):Q5 C s e K H:=by
 apply Q5.gh
 apply Qh9
 unfold QeL
 refine dpG (K:=fun r H2=>∃ H0,Gh C H2 H0∧K r H0) QfT (by omega) ?_ h b g fun D f=>⟨H,Gh.le f,k⟩
 rfl
theorem Qt1 {R:α→Qi→Prop} {K:Bool→HP} (m:SlIs R Qi.c A s l) (f:A.le H) (i:HeB C A R Qi.c l e ok) (k:K (l.all ok) H) (b:Value.cells e = #[e]:=by exact rfl):Qam C s e K H:=by
 apply Qam.gh
 apply QkW
 unfold Qgv
 refine ⟨b,fun d n1=>?_⟩
 apply Qc5
 unfold Qbj
 apply QdN
 unfold Qbv
 exact alG (K:=fun r H2=>∃ H0,Gh C H2 H0∧K (!decide (r ≥ 0)) H0) QfT (by omega) n1 (fun x D Φ h=>⟨135,[],[pv (some (d,0))],rfl,Qfx,QjA C x (d,0) Φ D h⟩) m f i fun D r g j=>⟨H,Gh.le g,by rw [j,Bool.not_not]; exact k⟩
theorem Qw4 {R:α→Qi→Prop} {K:HP} (i:SlIs R Qi.c A s l) (d:Ww A B b t) (g:HeW C A b R Qi.c l e f) (h:t.length+(jo sep f 0 l).length≤140737488355328) (k:∀ D,Ww A D b (t++jo sep f 0 l)→K D):QdQ C (some (b,0)) s sep e K B:=by
 apply QjP
 unfold Qf8
 refine lsG (K:=K) QfT (by omega) ?_ i d g h k
 rfl
theorem QvA {R:α→Qo→Prop} {K:Int→HP} (h:SlIs R Qo.c A s l) (b:A.le H) (g:HeD C A R Qo.c l e d) (k:K (mxL d l) H):QZ C s e K H:=by
 apply QZ.gh
 apply QhI
 unfold Qec
 refine dpG (K:=fun r H2=>∃ H0,Gh C H2 H0∧K r H0) QcE (by omega) ?_ h b g fun D f=>⟨H,Gh.le f,k⟩
 rfl
theorem QsL {R:α→Qo→Prop} {K:Bool→HP} (m:SlIs R Qo.c A s l) (f:A.le H) (i:HeB C A R Qo.c l e ok) (k:K (l.all ok) H) (b:Value.cells e = #[e]:=by exact rfl):Qaa C s e K H:=by
 apply Qaa.gh
 apply QjO
 unfold Qf7
 refine ⟨b,fun d n1=>?_⟩
 apply QcC
 unfold Qa5
 apply Qc7
 unfold Qbn
 exact alG (K:=fun r H2=>∃ H0,Gh C H2 H0∧K (!decide (r ≥ 0)) H0) QcE (by omega) n1 (fun x D Φ h=>⟨141,[],[pv (some (d,0))],rfl,Qfb,QiI C x (d,0) Φ D h⟩) m f i fun D r g j=>⟨H,Gh.le g,by rw [j,Bool.not_not]; exact k⟩
theorem QvJ {R:α→Qo→Prop} {K:HP} (i:SlIs R Qo.c A s l) (d:Ww A B b t) (g:HeW C A b R Qo.c l e f) (h:t.length+(jo sep f 0 l).length≤140737488355328) (k:∀ D,Ww A D b (t++jo sep f 0 l)→K D):Qdf C (some (b,0)) s sep e K B:=by
 apply QjC
 unfold QfJ
 refine lsG (K:=K) QcE (by omega) ?_ i d g h k
 rfl
theorem Qtx {R:α→Qm→Prop} {K:Int→HP} (h:SlIs R Qm.c A s l) (b:A.le H) (g:HeD C A R Qm.c l e d) (k:K (mxL d l) H):Qz C s e K H:=by
 apply Qz.gh
 apply QgR
 unfold Qds
 refine dpG (K:=fun r H2=>∃ H0,Gh C H2 H0∧K r H0) Qbs (by omega) ?_ h b g fun D f=>⟨H,Gh.le f,k⟩
 rfl
theorem Qtu {R:α→Qm→Prop} {K:Bool→HP} (m:SlIs R Qm.c A s l) (f:A.le H) (i:HeB C A R Qm.c l e ok) (k:K (l.all ok) H) (b:Value.cells e = #[e]:=by exact rfl):QJ C s e K H:=by
 apply QJ.gh
 apply QiH
 unfold Qfm
 refine ⟨b,fun d n1=>?_⟩
 apply Qb5
 unfold Qay
 apply Qco
 unfold QaU
 exact alG (K:=fun r H2=>∃ H0,Gh C H2 H0∧K (!decide (r ≥ 0)) H0) Qbs (by omega) n1 (fun x D Φ h=>⟨143,[],[pv (some (d,0))],rfl,Qd3,QhF C x (d,0) Φ D h⟩) m f i fun D r g j=>⟨H,Gh.le g,by rw [j,Bool.not_not]; exact k⟩
theorem QtF {R:α→Qm→Prop} {K:HP} (i:SlIs R Qm.c A s l) (d:Ww A B b t) (g:HeW C A b R Qm.c l e f) (h:t.length+(jo sep f 0 l).length≤140737488355328) (k:∀ D,Ww A D b (t++jo sep f 0 l)→K D):QaS C (some (b,0)) s sep e K B:=by
 apply Qic
 unfold QeO
 refine lsG (K:=K) Qbs (by omega) ?_ i d g h k
 rfl
theorem Qsr {R:α→Ql→Prop} {K:Int→HP} (h:SlIs R Ql.c A s l) (b:A.le H) (g:HeD C A R Ql.c l e d) (k:K (mxL d l) H):Qw C s e K H:=by
 apply Qw.gh
 apply QgE
 unfold Qc3
 refine dpG (K:=fun r H2=>∃ H0,Gh C H2 H0∧K r H0) Qa4 (by omega) ?_ h b g fun D f=>⟨H,Gh.le f,k⟩
 rfl
theorem Qsh {R:α→Ql→Prop} {K:Bool→HP} (m:SlIs R Ql.c A s l) (f:A.le H) (i:HeB C A R Ql.c l e ok) (k:K (l.all ok) H) (b:Value.cells e = #[e]:=by exact rfl):Q3 C s e K H:=by
 apply Q3.gh
 apply Qh5
 unfold QeJ
 refine ⟨b,fun d n1=>?_⟩
 apply Qas
 unfold QR
 apply QaC
 unfold Q0
 exact alG (K:=fun r H2=>∃ H0,Gh C H2 H0∧K (!decide (r ≥ 0)) H0) Qa4 (by omega) n1 (fun x D Φ h=>⟨193,[],[pv (some (d,0))],rfl,QdK,Qg6 C x (d,0) Φ D h⟩) m f i fun D r g j=>⟨H,Gh.le g,by rw [j,Bool.not_not]; exact k⟩
theorem Qsv {R:α→Ql→Prop} {K:HP} (i:SlIs R Ql.c A s l) (d:Ww A B b t) (g:HeW C A b R Ql.c l e f) (h:t.length+(jo sep f 0 l).length≤140737488355328) (k:∀ D,Ww A D b (t++jo sep f 0 l)→K D):Qcf C (some (b,0)) s sep e K B:=by
 apply QhJ
 unfold Qed
 refine lsG (K:=K) Qa4 (by omega) ?_ i d g h k
 rfl
theorem Qsj {R:α→Ql→Prop} {K:HP} (o:SlIs R Ql.c A s l) (j:Ww A B b t) (m:HeW C A b R Ql.c l e f) (r:t.length+(jo [44,32] f 0 l).length+2≤140737488355328) (k:∀ D,Ww A D b (t++40::(jo [44,32] f 0 l++[41]))→K D):Qaf C (some (b,0)) s e K B:=by
 apply Qgg
 unfold QcI
 refine ⟨_,rfl,j.byte (c:=40) rfl (by omega) fun q g=>?_⟩
 refine Qsv o g m (by simp only [Va,List.length_singleton]; omega) fun D2 h=>?_
 refine ⟨_,rfl,h.byte (c:=41) rfl (by simp only [Va,List.length_singleton]; omega) fun d i=>k d (by simpa using i)⟩
theorem Qtw {R:α→Qj→Prop} {K:Int→HP} (h:SlIs R Qj.c A s l) (b:A.le H) (g:HeD C A R Qj.c l e d) (k:K (mxL d l) H):QM C s e K H:=by
 apply QM.gh
 apply QgQ
 unfold Qdr
 refine dpG (K:=fun r H2=>∃ H0,Gh C H2 H0∧K r H0) Qb0 (by omega) ?_ h b g fun D f=>⟨H,Gh.le f,k⟩
 rfl
theorem Qtt {R:α→Qj→Prop} {K:Bool→HP} (m:SlIs R Qj.c A s l) (f:A.le H) (i:HeB C A R Qj.c l e ok) (k:K (l.all ok) H) (b:Value.cells e = #[e]:=by exact rfl):Qad C s e K H:=by
 apply Qad.gh
 apply QiG
 unfold Qfl
 refine ⟨b,fun d n1=>?_⟩
 apply Qax
 unfold QY
 apply QaN
 unfold Q7
 exact alG (K:=fun r H2=>∃ H0,Gh C H2 H0∧K (!decide (r ≥ 0)) H0) Qb0 (by omega) n1 (fun x D Φ h=>⟨191,[],[pv (some (d,0))],rfl,Qd2,QhE C x (d,0) Φ D h⟩) m f i fun D r g j=>⟨H,Gh.le g,by rw [j,Bool.not_not]; exact k⟩
theorem QtE {R:α→Qj→Prop} {K:HP} (i:SlIs R Qj.c A s l) (d:Ww A B b t) (g:HeW C A b R Qj.c l e f) (h:t.length+(jo sep f 0 l).length≤140737488355328) (k:∀ D,Ww A D b (t++jo sep f 0 l)→K D):QcA C (some (b,0)) s sep e K B:=by
 apply Qib
 unfold QeN
 refine lsG (K:=K) Qb0 (by omega) ?_ i d g h k
 rfl
theorem QwR {R:α→Qf→Prop} {K:Int→HP} (h:SlIs R Qf.c A s l) (b:A.le H) (g:HeD C A R Qf.c l e d) (k:K (mxL d l) H):Q6 C s e K H:=by
 apply Q6.gh
 apply Qia
 unfold QeM
 refine dpG (K:=fun r H2=>∃ H0,Gh C H2 H0∧K r H0) Qi2 (by omega) ?_ h b g fun D f=>⟨H,Gh.le f,k⟩
 rfl
theorem QwI {R:α→Qf→Prop} {K:Bool→HP} (m:SlIs R Qf.c A s l) (f:A.le H) (i:HeB C A R Qf.c l e ok) (k:K (l.all ok) H) (b:Value.cells e = #[e]:=by exact rfl):Q4 C s e K H:=by
 apply Q4.gh
 apply QkX
 unfold Qgw
 refine ⟨b,fun d n1=>?_⟩
 apply Qbe
 unfold Qah
 apply Qbt
 unfold Qar
 exact alG (K:=fun r H2=>∃ H0,Gh C H2 H0∧K (!decide (r ≥ 0)) H0) Qi2 (by omega) n1 (fun x D Φ h=>⟨223,[],[pv (some (d,0))],rfl,Qfy,QjB C x (d,0) Φ D h⟩) m f i fun D r g j=>⟨H,Gh.le g,by rw [j,Bool.not_not]; exact k⟩
theorem Qw5 {R:α→Qf→Prop} {K:HP} (i:SlIs R Qf.c A s l) (d:Ww A B b t) (g:HeW C A b R Qf.c l e f) (h:t.length+(jo sep f 0 l).length≤140737488355328) (k:∀ D,Ww A D b (t++jo sep f 0 l)→K D):QdR C (some (b,0)) s sep e K B:=by
 apply QjQ
 unfold Qf9
 refine lsG (K:=K) Qi2 (by omega) ?_ i d g h k
 rfl
theorem QwL {R:α→Qf→Prop} {K:HP} (o:SlIs R Qf.c A s l) (j:Ww A B b t) (m:HeW C A b R Qf.c l e f) (r:t.length+(jo [44,32] f 0 l).length+2≤140737488355328) (k:∀ D,Ww A D b (t++40::(jo [44,32] f 0 l++[41]))→K D):Qcc C (some (b,0)) s e K B:=by
 apply QhH
 unfold Qeb
 refine ⟨_,rfl,j.byte (c:=40) rfl (by omega) fun q g=>?_⟩
 refine Qw5 o g m (by simp only [Va,List.length_singleton]; omega) fun D2 h=>?_
 refine ⟨_,rfl,h.byte (c:=41) rfl (by simp only [Va,List.length_singleton]; omega) fun d i=>k d (by simpa using i)⟩
theorem Que {R:α→Qe→Prop} {K:Int→HP} (h:SlIs R Qe.c A s l) (b:A.le H) (g:HeD C A R Qe.c l e d) (k:K (mxL d l) H):QE C s e K H:=by
 apply QE.gh
 apply Qh8
 unfold QeK
 refine dpG (K:=fun r H2=>∃ H0,Gh C H2 H0∧K r H0) QbA (by omega) ?_ h b g fun D f=>⟨H,Gh.le f,k⟩
 rfl
theorem Qsg {R:α→Qe→Prop} {K:Bool→HP} (m:SlIs R Qe.c A s l) (f:A.le H) (i:HeB C A R Qe.c l e ok) (k:K (l.all ok) H) (b:Value.cells e = #[e]:=by exact rfl):QI C s e K H:=by
 apply QI.gh
 apply QkV
 unfold Qgu
 refine ⟨b,fun d n1=>?_⟩
 apply Qc4
 unfold Qbi
 apply QdM
 unfold Qbu
 exact alG (K:=fun r H2=>∃ H0,Gh C H2 H0∧K (!decide (r ≥ 0)) H0) QbA (by omega) n1 (fun x D Φ h=>⟨197,[],[pv (some (d,0))],rfl,Qfw,Qjx C x (d,0) Φ D h⟩) m f i fun D r g j=>⟨H,Gh.le g,by rw [j,Bool.not_not]; exact k⟩
theorem QuG {R:α→Qe→Prop} {K:HP} (i:SlIs R Qe.c A s l) (d:Ww A B b t) (g:HeW C A b R Qe.c l e f) (h:t.length+(jo sep f 0 l).length≤140737488355328) (k:∀ D,Ww A D b (t++jo sep f 0 l)→K D):QaW C (some (b,0)) s sep e K B:=by
 apply QfW
 unfold Qdu
 refine lsG (K:=K) QbA (by omega) ?_ i d g h k
 rfl
theorem QwK {R:α→Qe→Prop} {K:HP} (o:SlIs R Qe.c A s l) (j:Ww A B b t) (m:HeW C A b R Qe.c l e f) (r:t.length+(jo [44,32] f 0 l).length+2≤140737488355328) (k:∀ D,Ww A D b (t++40::(jo [44,32] f 0 l++[41]))→K D):Qx C (some (b,0)) s e K B:=by
 apply QdW
 unfold Qb2
 refine ⟨_,rfl,j.byte (c:=40) rfl (by omega) fun q g=>?_⟩
 refine QuG o g m (by simp only [Va,List.length_singleton]; omega) fun D2 h=>?_
 refine ⟨_,rfl,h.byte (c:=41) rfl (by simp only [Va,List.length_singleton]; omega) fun d i=>k d (by simpa using i)⟩
end
section
variable {C:Ctx} {H:Heap}
theorem Qrq {A:Heap} {s:Sl} {l:List Str} {e:Value} {ok:Str→Bool} {K:Bool→HP} (E:StL A s l) (G:A.le H)
 (L:∀ v ∈ l,∀ (D:Heap) (Φ:Bool→HP),A.le D→v.length≤140737488355328→Φ (ok v) D→callU P0 C e [sv v] D (fun v H31=>∃ r30:Bool,v=.bool r30∧Φ r30 H31))
 (k:K (l.all ok) H) (t:Value.cells e = #[e]:=by exact rfl):QaJ C s e K H:=by
 apply QaJ.gh
 apply Ql5
 unfold Qhs
 refine ⟨t,?_⟩
 intro f n1
 have r:=Xc n1 (g:=.row [e]) (m:=true)
 have I:(H.put f (.row [e])) f=some (true,.row [e]):=Xa ..
 generalize H.put f (.row [e])=H1 at *
 apply QdV
 unfold QbH
 apply QeX
 unfold QbX
 have q:=SlIs.len E
 have J:=SlIs.bd E
 refine ⟨fun y D=>H1.le D∧∃ i:Nat,y=(i:Int)∧i≤l.length∧(l.take i).all ok=true,fun y _=>l.length - y.toNat,⟨Heap.le.refl _,0,rfl,Nat.zero_le _,rfl⟩,?_⟩
 rintro _ D ⟨j,i,rfl,hi,b⟩
 rw [q]
 refine ift.of (fun h=>?_) (fun h=>?_)
 ·have d : i < l.length := by have := Vb h; omega
  refine SlIs.at_ E (G.trans (r.trans j)) (z:=1) (fun _=>rfl) (by omega) rfl d fun p y hy M=>⟨y,M 0 _ rfl,?_⟩
  rw [hy.1]
  have F:∀ Φ:Bool→HP,(∀ D2,D.le D2→Φ (!ok l[i]) D2)→callU P0 C (.func (.func 190) (List.toArray []) (List.toArray [pv (some (f,0))])) [sv l[i]] D (fun v H31=>∃ r30:Bool,v=.bool r30∧Φ r30 H31):=fun Φ N=>by
   refine ⟨190,[],[pv (some (f,0))],rfl,Qgq,?_⟩
   show QgW C l[i] (f,0) Φ D
   apply QkY
   unfold Qgx
   refine ⟨e,by rw [Qaq (j _ _ I)]; rfl,L _ (Vg d) _ _ (G.trans (r.trans j)) hy.2 ?_⟩
   exact N _ (Heap.le.refl _)
  refine F _ fun D2 o=>?_
  refine ift.of (fun u=>?_) (fun u=>?_)
  ·have x : ok l[i] = false := by simpa using u
   rw [allNo d x] at k
   have e0:decide ((i:Int) ≥ 0)=true:=decide_eq_true (by omega)
   dsimp only
   rw [e0]
   exact ⟨H,Gh.le (r.trans (j.trans o)),k⟩
  ·have x : ok l[i] = true := by simpa using u
   rw [Qu (by omega) (by omega)]
   exact ⟨⟨j.trans o,i+1,by omega,by omega,by rw [allTake d,b,x]; rfl⟩,by first | omega | (dsimp only; omega)⟩
 ·have B : i = l.length := by have := Vc h; omega
  subst B
  rw [Vl] at b
  rw [b] at k
  exact ⟨H,Gh.le (r.trans j),k⟩
theorem Qua {A B:Heap} {s:Sl} {l:List Str} {e:Value} {t:Str} {b:Nat} {K:HP} (F:StL A s l) (I:Ww A B b t)
 (L:∀ v ∈ l,∀ (D:Heap) (u:Str) (Φ:HP),Ww A D b u→u.length+v.length≤140737488355328→(∀ D2,Ww A D2 b (u++v)→Φ D2)→callU P0 C e [sv v] D (fun v H31=>v=.tuple #[]∧Φ H31))
 (O:t.length+(jo [44,32] id 0 l).length+2≤140737488355328) (k:∀ D,Ww A D b (t++40::(jo [44,32] id 0 l++[41]))→K D):QcV C (some (b,0)) s e K B:=by
 apply QiK
 unfold Qfo
 refine ⟨_,rfl,I.byte (c:=40) rfl (by omega) fun N H=>?_⟩
 apply QlN
 unfold Qg1
 have o:=SlIs.len F
 have J:=SlIs.bd F
 refine ⟨fun y D=>∃ i:Nat,y=(i:Int)∧i≤l.length∧Ww A D b (t++[40]++jo [44,32] id 0 (l.take i)),fun y _=>l.length - y.toNat,⟨0,rfl,Nat.zero_le _,by simpa [jo] using H⟩,?_⟩
 rintro _ D ⟨i,rfl,hi,m⟩
 rw [o]
 refine ift.of (fun h=>?_) (fun h=>?_)
 ·have d : i < l.length := by have := Vb h; omega
  have hp:=Qwn (sep:=[44,32]) (f:=(id:Str→Str)) l (i+1)
  rw [QqY d] at hp
  simp only [Va,id_eq] at hp
  refine SlIs.at_ F m.le (z:=1) (fun _=>rfl) (by omega) rfl d fun p y hy M=>⟨y,M 0 _ rfl,?_⟩
  rw [hy.1]
  refine ⟨fun _ E=>Ww A E b (t++[40]++jo [44,32] id 0 (l.take i)++(if i=0 then [] else [44,32])),?_,?_⟩
  ·refine ift.of (fun j => ?_) (fun j => ?_)
   ·have g : i ≠ 0 := by have := Vb j; omega
    rw [if_neg g] at hp ⊢
    exact ⟨_,rfl,m.str (by simp only [Va,Vd,Vk] at hp ⊢; omega) fun E r=>r⟩
   ·have g : i = 0 := by have := Vc j; omega
    rw [if_pos g,List.append_nil]; exact m
  ·rintro _ E r
   refine L _ (Vg d) E _ _ r (by simp only [Va,Vd,Vk] at hp ⊢; omega) fun G q=>?_
   rw [Qu (by omega) (by omega)]
   refine ⟨⟨i+1,by omega,by omega,?_⟩,by first | omega | (dsimp only; omega)⟩
   rw [QqY d]
   simpa using q
 ·have x : i = l.length := by have := Vc h; omega
  subst x
  rw [Vl] at m
  refine ⟨_,rfl,m.byte (c:=41) rfl (by simp only [Va,List.length_singleton]; omega) fun G q=>k G (by simpa using q)⟩
theorem Qv6 {B:Heap} {b b2 n:Nat} {ss:List Str} {t:Str} {cs:List Value} {A:Heap} {K:HP} (hW:Ww A B b t) (hc:B b2=some (true,.row cs)) (hs:cs=ss.map sv) (hn:n=ss.length) (hb:n≤100) (hl:t.length+ss.flatten.length≤140737488355328) (k:∀ D,Ww (B.del b) D b (t++ss.flatten)→K D):QB C (some (b,0)) (Sl.of (some (b2,0)) n n) K B:=by
 subst hs; subst hn
 apply Qk1
 unfold QgA
 obtain ⟨hF,hAF⟩:=hW.full
 obtain ⟨g,hg⟩:=hW.bl.some
 have hbb:b2≠b:=fun e'=>by
  rw [e'] at hc
  rcases hW.bl with h | ⟨_,h⟩
  ·rw [h] at hc; injection hc with hc; injection hc with _ hc; cases hc
  ·rw [h] at hc; injection hc with hc; injection hc with _ hc; cases hc
 have hc2:(B.del b) b2=some (true,.row (ss.map sv)):=by rw [Xd _ hbb]; exact hc
 have hpre:∀ i,(ss.take i).flatten.length≤ss.flatten.length:=fun i=>by
  have:=congrArg List.length (congrArg List.flatten (List.take_append_drop i ss))
  rw [List.flatten_append,Va] at this; omega
 refine ⟨fun y D=>∃ i:Nat,y=(i:Int)∧i≤ss.length∧Ww (B.del b) D b (t++(ss.take i).flatten),fun y _=>ss.length - y.toNat,⟨0,rfl,Nat.zero_le _,by simpa using hF⟩,?_⟩
 rintro _ D ⟨i,rfl,hi,hD⟩
 refine ift.of (fun h=>?_) (fun h=>?_)
 ·have hlt : i < ss.length := by have := Vb h; simp only [Sl.of] at this; omega
  have hstep:(ss.take (i+1)).flatten=(ss.take i).flatten++ss[i]:=by rw [Vp,Vf hlt,Vo,List.flatten_append]; simp
  have hp:=hpre (i+1)
  rw [hstep,Va] at hp
  refine ⟨(b2,0),rfl,rfl,by omega,by simp only [Sl.of]; omega,ss[i],?_,?_⟩
  ·show rd D (b2,0+(i:Int).toNat*1)=_
   rw [Qaq (hD.le _ _ hc2),show 0+(i:Int).toNat*1=i by omega,List.getElem?_map,Vf hlt]; rfl
  ·refine ⟨_, rfl, hD.str (by simp only [Va]; omega) fun E hE => ?_⟩
   rw [Qu (by omega) (by omega)]
   refine ⟨⟨i+1,by omega,by omega,?_⟩,by first | omega | (dsimp only; omega)⟩
   rw [hstep,← List.append_assoc]; exact hE
 ·have hie : i = ss.length := by have := Vc h; simp only [Sl.of] at this; omega
  subst hie
  rw [Vl] at hD
  exact k D hD
end
end
section
open Go Go.Proofs
theorem jp {P:Prop} {R:Bool→HP} {body:(Bool→HP)→Prop} (H0:Heap) (d:body (fun b E=>E=H0∧(b=true↔P))) (f:∀ b,(b=true↔P)→R b H0):jn (α:=Bool) R body:=⟨fun b E=>E=H0∧(b=true↔P),d,by rintro b _ ⟨rfl,h⟩; exact f b h⟩
theorem jv {R:Bool→HP} {body:(Bool→HP)→Prop} (v:Bool) (H0:Heap) (d:body (fun b E=>E=H0∧b=v)) (f:R v H0):jn (α:=Bool) R body:=⟨fun b E=>E=H0∧b=v,d,by rintro _ _ ⟨rfl,rfl⟩; exact f⟩
theorem jw {R:Bool→HP} {body:(Bool→HP)→Prop} (v:Bool) (H0:Heap) (d:body (fun b E=>H0.le E∧b=v)) (f:∀ E,H0.le E→R v E):jn (α:=Bool) R body:=⟨fun b E=>H0.le E∧b=v,d,by rintro _ _ ⟨h,rfl⟩; exact f _ h⟩
theorem ja {R:Bool→HP} {x:Bool} (y:Bool) (H0:Heap) {A:(Bool→HP)→Prop} (h:x=true→A (fun b E=>E=H0∧b=y)) (k:R (x && y) H0):jn (α:=Bool) R (fun J=>ift x (A J) (J false H0)):=
 ⟨fun b E=>E=H0∧b=(x && y),ift.of (fun hx=>by cases hx; exact h rfl) (fun hx=>⟨rfl,by rw [hx]; rfl⟩),by rintro _ _ ⟨rfl,rfl⟩; exact k⟩
theorem jo' {R:Bool→HP} {x:Bool} (y:Bool) (H0:Heap) {A:(Bool→HP)→Prop} (h:x=false→A (fun b E=>E=H0∧b=y)) (k:R (x || y) H0):jn (α:=Bool) R (fun J=>ift x (J true H0) (A J)):=
 ⟨fun b E=>E=H0∧b=(x || y),ift.of (fun hx=>⟨rfl,by rw [hx]; rfl⟩) (fun hx=>by cases hx; exact h rfl),by rintro _ _ ⟨rfl,rfl⟩; exact k⟩
theorem ix0 {s:Str} {K:UInt8→Prop} (h:s≠[]) (k:K (s.headD 0)):ixs s 0 K:=by
 cases s with
 | nil=>exact absurd rfl h
 | cons c t=>exact ⟨c,by omega,rfl,k⟩
theorem QgX (s:Str):(s == ([]:Str))=s.isEmpty:=by cases s <;> rfl
theorem Qr4 {x:Ql} (i:Nat) (u:Value) (hi:(Qf.c x.Type_)[i]? = some u):(Ql.c x)[1+i]? = some u:=by
 match i,hi with
 | 0,hi=>exact hi
 | 1,hi=>exact hi
 | i+2,hi=>simp [Qf.c] at hi
theorem Qvf {x:Qe} (i:Nat) (u:Value) (hi:(Qg.c x.Value_)[i]? = some u):(Qe.c x)[4+i]? = some u:=by
 match i,hi with
 | 0,hi=>exact hi
 | 1,hi=>exact hi
 | 2,hi=>exact hi
 | 3,hi=>exact hi
 | i+4,hi=>simp [Qg.c] at hi
theorem Qvc (v:TyV):tyD v=mxL tyD v.a+1:=by
 obtain ⟨n,a⟩:=v
 have:∀ l,tysD l=mxL tyD l:=fun l=>by
  induction l with
  | nil=>rfl
  | cons v l b=>simp only [tysD,mxL,b]
 simp only [tyD,TyV.a,this]
theorem QlS (l:List ExV):exsD l=mxL exD l:=by
 induction l with
 | nil=>rfl
 | cons v l b=>simp only [exsD,mxL,b]
theorem Qul (v:ExV):exD v=mxL exD v.a+1:=by
 obtain ⟨k,n,u,a⟩:=v
 simp only [exD,ExV.a,QlS]
section
variable {C:Ctx} {H A:Heap}
theorem box1 {d:List Value} {K:Nat→HP} (k:∀ b1 H2,H.le H2→H2 b1=some (true,.row d)→K b1 H2):nw d K H:=fun b n=>k b _ (Xc n) (Xa ..)
theorem fB0 {b:Nat} {m:Bool} {t:Bool} {K:Bool→Prop} (h:H b=some (m,.row [.bool t])) (k:K t):ldB H (b,0) K:=⟨t,by rw [Qaq h]; rfl,k⟩
theorem Qr5:∀ (v:TyV) {x:Qf} {H:Heap} {K:Int→HP},TyIs A v x→A.le H→tyD v≤4611686018427387904→K (tyD v:Nat) H→Qbr C x K H:=by
 refine TyV.rec_ fun v q x H K hx h m k=>?_
 have hx':=Qb7.1 hx
 apply Qbr.gh
 apply Qne
 unfold QiA
 rw [Qvc] at m k
 refine box1 fun r H2 hle g=>fL g rfl ?_
 refine QwR hx'.2 (h.trans hle) (d:=tyD) (fun w b x D Φ i j o=>cu Qim (q w b j i (by have:=QdI (f:=tyD) b; omega) o)) ?_
 rw [Qu (by omega) (by omega)]
 have e:(1+(mxL tyD v.a:Nat):Int)=((mxL tyD v.a+1:Nat):Int):=by omega
 rw [e]; exact ⟨H,Gh.le hle,k⟩
theorem Qvw:∀ (v:ExV) {x:Qe} {H:Heap} {K:Int→HP},ExIs A v x→A.le H→exD v≤4611686018427387904→K (exD v:Nat) H→Qeq C x K H:=by
 refine ExV.rec_ fun v q x H K hx h m k=>?_
 have hx':=Qdv.1 hx
 apply Qeq.gh
 apply QqD
 unfold QmS
 rw [Qul] at m k
 refine box1 fun r H2 hle g=>fL g rfl ?_
 refine Que hx'.2.2.2.2 (h.trans hle) (d:=exD) (fun w b x D Φ i j o=>cu Qi6 (q w b j i (by have:=QdI (f:=exD) b; omega) o)) ?_
 rw [Qu (by omega) (by omega)]
 have e:(1+(mxL exD v.a:Nat):Int)=((mxL exD v.a+1:Nat):Int):=by omega
 rw [e]; exact ⟨H,Gh.le hle,k⟩
theorem QoE {l:List ExV} {s:Sl} {K:Int→HP} (j:ExL A s l) (b:A.le H) (i:exsD l≤4611686018427387904) (k:K (exsD l:Nat) H):QE C s (.func (.func 115) (List.toArray []) (List.toArray []):Value) K H:=by
 rw [QlS] at k i
 exact Que j b (d:=exD) (fun w m x D Φ g h o=>cu Qi6 (Qvw w h g (by have:=QdI (f:=exD) m; omega) o)) k
theorem QqU {v:FdV} {x:Ql} {K:Int→HP} (hx:FdIs A v x) (d:A.le H) (f:tyD v.t≤4611686018427387904) (k:K (tyD v.t:Nat) H):QbI C x K H:=by
 apply QbI.gh
 apply Ql6
 unfold Qht
 exact box1 fun g H2 hle b=>fT b Qr4 (Qr5 v.t hx.2 (d.trans hle) f ⟨H,Gh.le hle,k⟩)
theorem Qk8 {l:List FdV} {s:Sl} {K:Int→HP} (j:FdL A s l) (b:A.le H) (i:fdsD l≤4611686018427387904) (k:K (fdsD l:Nat) H):Qw C s (.func (.func 109) (List.toArray []) (List.toArray []):Value) K H:=
 Qsr j b (d:=fun f:FdV=>tyD f.t) (fun w m x D Φ g h o=>cu Qhk (QqU h g (by have:=QdI (f:=fun f:FdV=>tyD f.t) m; unfold fdsD at i; omega) o)) k
theorem QoR {v:LiV} {x:Qm} {K:Int→HP} (hx:LiIs A v x) (d:A.le H) (f:liD v≤4611686018427387904) (k:K (liD v:Nat) H):Qbc C x K H:=by
 apply Qbc.gh
 apply QkZ
 unfold Qgy
 exact box1 fun g H2 hle b=>fL b rfl (QoE hx.2.2 (d.trans hle) f ⟨H,Gh.le hle,k⟩)
theorem QoQ {l:List LiV} {s:Sl} {K:Int→HP} (j:LiL A s l) (b:A.le H) (i:lisD l≤4611686018427387904) (k:K (lisD l:Nat) H):Qz C s (.func (.func 117) (List.toArray []) (List.toArray []):Value) K H:=
 Qtx j b (d:=liD) (fun w m x D Φ g h o=>cu Qgr (QoR h g (by have:=QdI (f:=liD) m; unfold lisD at i; omega) o)) k
theorem Qud {v:CnV} {x:Qj} {K:Int→HP} (hx:CnIs A v x) (d:A.le H) (g:fdsD v.f≤4611686018427387904) (k:K (fdsD v.f:Nat) H):Qcd C x K H:=by
 apply Qcd.gh
 apply QnU
 unfold Qjo
 exact box1 fun h H2 hle b=>fL b rfl (Qk8 hx.2 (d.trans hle) g ⟨H,Gh.le hle,k⟩)
theorem Qvs {v:TdV} {x:Qd} {K:Int→HP} (hx:TdIs A v x) (g:A.le H) (j:tdD v≤4611686018427387904) (k:K (tdD v:Nat) H):Qdy C x K H:=by
 apply Qdy.gh
 apply Qpw
 unfold QlA
 exact box1 fun q H2 hle b=>fL b rfl (Qtw hx.2.2.2 (g.trans hle) (d:=fun c:CnV=>fdsD c.f) (fun w m x D Φ h i o=>cu Qjf (Qud i h (by have:=QdI (f:=fun c:CnV=>fdsD c.f) m; unfold tdD at j; omega) o)) ⟨H,Gh.le hle,k⟩)
theorem Qvt {v:RdV} {x:Qh} {K:Int→HP} (hx:RdIs A v x) (d:A.le H) (g:fdsD v.f≤4611686018427387904) (k:K (fdsD v.f:Nat) H):Qdz C x K H:=by
 apply Qdz.gh
 apply Qpx
 unfold QlB
 exact box1 fun h H2 hle b=>fL b rfl (Qk8 hx.2.2.2 (d.trans hle) g ⟨H,Gh.le hle,k⟩)
theorem ifmax (a b:Nat):(if ((b:Nat):Int) > ((a:Nat):Int) then ((b:Nat):Int) else ((a:Nat):Int))=((max a b:Nat):Int):=by split <;> omega
theorem Qvu {v:RuV} {x:Qi} {K:Int→HP} (hx:RuIs A v x) (d:A.le H) (f:ruD v≤4611686018427387904) (k:K (ruD v:Nat) H):QdA C x K H:=by
 apply QdA.gh
 apply Qpy
 unfold QlC
 unfold ruD at f
 refine box1 fun g H2 hle b=>⟨H2,Heap.le.refl _,fL b rfl (fL b rfl ?_)⟩
 refine QoE hx.2.1 (d.trans hle) (by omega) ⟨Heap.le.refl _,QoQ hx.2.2.2 (d.trans hle) (by omega) ⟨Heap.le.refl _,?_⟩⟩
 dsimp only
 rw [ifmax]; exact ⟨H,Gh.le hle,k⟩
theorem Qvv {v:NeV} {x:Qo} {K:Int→HP} (hx:NeIs A v x) (f:A.le H) (g:lisD v.b≤4611686018427387904) (k:K (lisD v.b:Nat) H):QdB C x K H:=by
 apply QdB.gh
 apply Qpz
 unfold QlD
 exact box1 fun h H2 hle d=>fL d rfl (QoQ hx.2 (f.trans hle) g ⟨H,Gh.le hle,k⟩)
theorem QwP {v:MoV} {x:Qa} {K:Int→HP} (hx:MoIs A v x) (q:A.le H) (t:moD v≤4611686018427387904) (k:K (moD v:Nat) H):Qej C x K H:=by
 apply Qej.gh
 apply Qrh
 unfold QnF
 unfold moD at t k
 refine box1 fun u H2 hle o=>⟨H2,Heap.le.refl _,fL o rfl (fL o rfl (fL o rfl (fL o rfl ?_)))⟩
 have g:=q.trans hle
 refine Qty hx.2.2.1 g (d:=tdD) (fun w j x D Φ h i m=>cu Qlb (Qvs i h (by have:=QdI (f:=tdD) j; omega) m)) ⟨Heap.le.refl _,?_⟩
 refine Quf hx.2.2.2.1 g (d:=fun r:RdV=>fdsD r.f) (fun w j x D Φ h i m=>cu Qlc (Qvt i h (by have:=QdI (f:=fun r:RdV=>fdsD r.f) j; omega) m)) ⟨Heap.le.refl _,?_⟩
 refine QwQ hx.2.2.2.2.1 g (d:=ruD) (fun w j x D Φ h i m=>cu Qld (Qvu i h (by have:=QdI (f:=ruD) j; omega) m)) ⟨Heap.le.refl _,?_⟩
 refine QvA hx.2.2.2.2.2 g (d:=fun n:NeV=>lisD n.b) (fun w j x D Φ h i m=>cu Qle (Qvv i h (by have:=QdI (f:=fun n:NeV=>lisD n.b) j; omega) m)) ⟨Heap.le.refl _,?_⟩
 have e:max4 ((mxL tdD v.ty:Nat):Int) ((mxL (fun r:RdV=>fdsD r.f) v.re:Nat):Int) ((mxL ruD v.ru:Nat):Int) ((mxL (fun n:NeV=>lisD n.b) v.ne:Nat):Int)=((max (max (mxL tdD v.ty) (mxL (fun r:RdV=>fdsD r.f) v.re)) (max (mxL ruD v.ru) (mxL (fun n:NeV=>lisD n.b) v.ne)):Nat):Int):=by unfold max4; omega
 rw [e]; exact ⟨H,Gh.le hle,k⟩
theorem QuZ {s:Str} {K:Bool→HP} (y:s.length≤140737488355328) (k:K (s.all nameC && decide (s.length≤32)) H):QiY C s K H:=by
 apply Qrm
 unfold QnK
 refine ⟨fun x D=>D=H∧∃ i:Nat,x=(i:Int)∧i≤s.length∧(s.take i).all nameC=true,fun x _=>s.length - x.toNat,⟨rfl,0,rfl,Nat.zero_le _,rfl⟩,?_⟩
 rintro _ D ⟨rfl,i,rfl,hi,d⟩
 refine ift.of (fun h=>?_) (fun h=>?_)
 ·have b : i < s.length := by have := Vb h; omega
  refine ⟨s[i],by omega,getE b,?_⟩
  dsimp only
  have hm:=Vg b
  have f:=QnZ (p:=nameC) b
  generalize s[i]=c at *
  have e:((((decide ((c.toNat:Int) ≥ 97)) && (decide ((c.toNat:Int)≤122))) || ((decide ((c.toNat:Int) ≥ 65)) && (decide ((c.toNat:Int)≤90)))) || ((decide ((c.toNat:Int) ≥ 48)) && (decide ((c.toNat:Int)≤57)))  || ((c.toNat:Int) == 95))=nameC c:=by
   unfold nameC lowC
   have j:decide ((c.toNat:Int) ≥ 65)=decide (65≤c.toNat):=by rw [Vm]; omega
   have m:decide ((c.toNat:Int)≤90)=decide (c.toNat≤90):=by rw [Vm]; omega
   have o:decide ((c.toNat:Int) ≥ 48)=decide (48≤c.toNat):=by rw [Vm]; omega
   have q:decide ((c.toNat:Int)≤57)=decide (c.toNat≤57):=by rw [Vm]; omega
   have r:((c.toNat:Int) == 95)=decide (c.toNat=95):=by
    rw [Vn]; simp only [beq_iff_eq,Vj]; omega
   have t:decide ((c.toNat:Int) ≥ 97)=decide (97≤c.toNat):=by rw [Vm]; omega
   have u:decide ((c.toNat:Int)≤122)=decide (c.toNat≤122):=by rw [Vm]; omega
   rw [j,m,o,q,r,t,u]
  rw [e]
  refine ift.of (fun h=>?_) (fun h=>?_)
  ·rw [QsM hm (by simpa using h)] at k; exact k
  ·rw [Qu (by omega) (by omega)]
   refine ⟨⟨rfl,i+1,by omega,by omega,?_⟩,by first | omega | (dsimp only; omega)⟩
   rw [f,d]; simpa using h
 ·have g : i = s.length := by have := Vc h; omega
  rw [g,Vl] at d
  rw [d] at k
  have e:decide ((s.length:Int)≤32)=decide (s.length≤32):=by rw [Vm]; omega
  rw [e]; exact k
theorem QxG {s:Str} {p:Bool} (h:((!(s == ([]:Str))) && p)=true):s≠[]:=fun e=>by rw [e] at h; simp at h
theorem Qgk {s t:Str} {K:Bool→HP} (j:MaxC C) (o:Nm t s) (k:K (namS s) H):Qbd C t K H:=by
 obtain ⟨rfl,m⟩:=o
 apply Qrl
 unfold QnJ
 refine ja (decide (97≤(t.headD 0).toNat)) H (fun h=>ix0 (fun e=>by rw [e] at h; simp at h) ⟨rfl,by rw [Vm]; omega⟩) ?_
 refine ja (decide ((t.headD 0).toNat≤122)) H (fun h=>ix0 (QxG h) ⟨rfl,by rw [Vm]; omega⟩) ?_
 refine ja (t.all nameC && decide (t.length≤32)) H (fun h=>QuZ m ⟨rfl,rfl⟩) ?_
 refine ja (!resW.contains t) H (fun h=>?_) ?_
 ·simp only [Ve,Vj] at h
  have i:=h.2.2
  refine ⟨by simp [catOk]; omega,by simp [catOk]; omega,?_⟩
  rw [← QwJ]
  have g:(blk resW).length < 4294967281:=by decide
  refine QpK j g ?_
  rw [QxY h.2.1]; exact ⟨rfl,rfl⟩
 have e:(((((!(t == ([]:Str))) && decide (97≤(t.headD 0).toNat)) && decide ((t.headD 0).toNat≤122)) && (t.all nameC && decide (t.length≤32))) && !resW.contains t)=namS t:=by
  unfold namS nameS lowC
  rw [QgX,Vn]
  simp only [Ve]
  constructor
  ·rintro ⟨⟨⟨⟨a,b⟩,c⟩,d,e⟩,f⟩; exact ⟨⟨⟨⟨a,e⟩,b,c⟩,d⟩,f⟩
  ·rintro ⟨⟨⟨⟨a,e⟩,b,c⟩,d⟩,f⟩; exact ⟨⟨⟨⟨a,b⟩,c⟩,d,e⟩,f⟩
 rw [e]; exact k
theorem Qq1 {s t:Str} {K:Bool→HP} (d:MaxC C) (g:Nm t s) (k:K (longS s) H):QfM C t K H:=by
 obtain ⟨rfl,f⟩:=g
 apply Qrk
 unfold QnI
 refine QoB f ?_
 unfold longS at k
 cases hc:cutD t with
 | none=>
  rw [hc] at k
  refine Qgk d ⟨rfl,f⟩ ?_
  refine ja true H (fun h=>jo' true H (fun h=>(nomatch h)) ⟨rfl,rfl⟩) ?_
  rw [Bool.and_true]; exact k
 | some p=>
  obtain ⟨a,b⟩:=p
  rw [hc] at k
  have i:=QqM hc
  refine Qgk d ⟨rfl,by omega⟩ ?_
  exact ja (namS b) H (fun h=>jo' (namS b) H (fun h=>Qgk d ⟨rfl,by omega⟩ ⟨rfl,rfl⟩) ⟨rfl,rfl⟩) k
theorem Qpb {s t:Str} {K:Bool→HP} (g:Nm t s) (k:K (varS s) H):Qe4 C t K H:=by
 obtain ⟨rfl,f⟩:=g
 apply QnX
 unfold Qjr
 refine ja (decide (65≤(t.headD 0).toNat)) H (fun h=>ix0 (fun e=>by rw [e] at h; simp at h) ⟨rfl,by rw [Vm]; omega⟩) ?_
 refine ja (decide ((t.headD 0).toNat≤90)) H (fun h=>ix0 (QxG h) ⟨rfl,by rw [Vm]; omega⟩) ?_
 refine ja (t.all nameC && decide (t.length≤32)) H (fun h=>QuZ f ⟨rfl,rfl⟩) ?_
 have e:((((!(t == ([]:Str))) && decide (65≤(t.headD 0).toNat)) && decide ((t.headD 0).toNat≤90)) && (t.all nameC && decide (t.length≤32)))=varS t:=by
  unfold varS upC
  rw [QgX,Vn]
  simp only [Ve]
  constructor
  ·rintro ⟨⟨⟨a,b⟩,c⟩,d,e⟩; exact ⟨⟨⟨a,e⟩,b,c⟩,d⟩
  ·rintro ⟨⟨⟨a,e⟩,b,c⟩,d⟩; exact ⟨⟨⟨a,b⟩,c⟩,d,e⟩
 rw [e]; exact k
theorem Qtf {s t:Str} {K:Bool→HP} (b:MaxC C) (d:Nm t s) (k:K (parS s) H):Qj1 C t K H:=by
 obtain ⟨rfl,g⟩:=d
 apply QqE
 unfold QmT
 apply Qgm
 unfold QdU
 refine Qj8 ?_
 refine ja (namS (t.drop 1)) H (fun h=>?_) ?_
 ·have f : 1 ≤ t.length := by have := (List.isPrefixOf_iff_prefix.1 h).length_le; simpa using this
  refine ⟨by omega,by omega,by omega,t.drop 1,by simp,Qgk b ⟨rfl,by simp; omega⟩ ⟨rfl,rfl⟩⟩
 have e:(([39]:Str).isPrefixOf t && namS (t.drop 1))=parS t:=by
  cases t with
  | nil=>rfl
  | cons c t=>
   simp only [List.isPrefixOf,parS,List.drop_succ_cons,List.drop_zero,Bool.and_true]
   rw [show ((39:UInt8) == c)=decide (c=39) by rw [Vn,beq_iff_eq,Vj]; exact eq_comm]
 rw [e]; exact k
theorem QoL {s:Str} {K:Bool→HP} (k:K (funB s) H):Qe3 C s K H:=by
 apply QnW
 unfold Qjq
 have e:((((s == ([110,101,103]:Str)) || (s == ([108,101,110]:Str))) || (s == ([98,105,103]:Str))) || (s == ([105,110,116]:Str)))=funB s:=by
  unfold funB negS lenS bigS intS
  rw [Vn]; simp only [Bool.or_eq_true,beq_iff_eq,Vj,or_assoc]
 rw [e]; exact k
end
end
section
open Go Go.Proofs
def arL (k:Str):Option Int:=if opsW.contains k then some 2 else if k=intS then some 1 else if k=bigS then some 1 else if k=lenS then some 1 else if k=negS then some 1 else if k=notS then some 1 else none
theorem QxE (k:Str):arL k=if arS k=0 then none else some (arS k:Nat):=by
 unfold arL arS
 by_cases h:opsW.contains k=true
 ·rw [if_pos h,if_pos h]; rfl
 rw [if_neg h,if_neg h]
 unfold funB
 by_cases h1:k=intS
 ·rw [if_pos h1]; subst h1; rfl
 rw [if_neg h1]
 by_cases h2:k=bigS
 ·rw [if_pos h2]; subst h2; rfl
 rw [if_neg h2]
 by_cases h3:k=lenS
 ·rw [if_pos h3]; subst h3; rfl
 rw [if_neg h3]
 by_cases h4:k=negS
 ·rw [if_pos h4]; subst h4; rfl
 rw [if_neg h4]
 by_cases h5:k=notS
 ·rw [if_pos h5]; subst h5; rfl
 rw [if_neg h5]
 have:¬ (k=notS∨decide (k=negS∨k=lenS∨k=bigS∨k=intS)=true):=by
  rintro (h | h)
  ·exact h5 h
  ·rcases Vb h with h | h | h | h
   ·exact h4 h
   ·exact h3 h
   ·exact h2 h
   ·exact h1 h
 rw [if_neg this]; rfl
theorem Qr6:∀ l,tysOk l=l.all tyOk
 | []=>rfl
 | v::l=>by simp only [tysOk,List.all_cons,Qr6 l]
theorem Qdh (p:Bool):∀ l,exsOk p l=l.all (exOk p)
 | []=>rfl
 | v::l=>by simp only [exsOk,List.all_cons,Qdh p l]
theorem QsF (v:TyV):tyOk v=(tyN v.n v.a.length && v.a.all tyOk):=by obtain ⟨n,a⟩:=v; simp only [tyOk,Qr6,TyV.n,TyV.a]
theorem QoD (p:Bool) (v:ExV):exOk p v=if v.k=1 then litV v.v && decide (v.a.length=0) && v.n.isEmpty else exN p v.k v.n v.a.length && noV v.v && v.a.all (exOk p):=by obtain ⟨k,n,u,a⟩:=v; simp only [exOk,Qdh,ExV.n,ExV.a,ExV.k,ExV.v]; rfl
theorem lenI {n m:Nat}:(((n:Nat):Int) == (m:Int))=decide (n=m):=by rw [Vn,beq_iff_eq,Vj]; omega
theorem lenN {n m:Nat}:(((n:Nat):Int) != (m:Int))=decide (n≠m):=by rw [Vn,bne_iff_ne,Vj]; omega
theorem lenL {n m:Nat}:decide (((n:Nat):Int)≤(m:Int))=decide (n≤m):=by rw [Vm]; omega
section
variable {C:Ctx} {H A:Heap}
theorem Qp9 {H D : Heap} {b : Nat} {l : List (Str × Int)} {f : Str → Option Int} {k : Str} {x : Int} {K : Heap → Prop} (nb : H b = none) (hle : H.le D) (hm : MapS sv (fun x : Int => (.int .i64 x : Value)) D b l) (i : ∀ k2, lkL k2 l = f k2)
 (m:∀ D2 l2,H.le D2→MapS sv (fun x:Int=>(.int .i64 x:Value)) D2 b l2→(∀ k2,lkL k2 l2=if k2=k then some x else f k2)→(∀ c,c≠b→D2 c=D c)→K D2):upS sv (fun x:Int=>(.int .i64 x:Value)) (some b) k x K D:=
 ⟨b,l,rfl,hm,fun g l2 d j _=>m _ _ (hle.put _ _ nb) d (fun k2=>by rw [j,i]) (fun c h=>Xb _ _ _ h)⟩
theorem Qvl {K:Option Nat→HP} (k:∀ (b:Nat) (D:Heap) (l:List (Str×Int)),H.le D→MapIs sv (fun x:Int=>(.int .i64 x:Value)) D b l→(∀ k2,lkL k2 l=arL k2)→K (some b) D):Qj0 C K H:=by
 apply QqC
 unfold QmR
 intro b nb
 refine Qp9 nb ((Heap.le.refl H).put _ _ nb) MapS.new (f:=fun _=>none) (fun _=>rfl) fun Z l1 M T G _=>?_
 refine Qp9 nb M T G fun D2 l2 o r j _=>?_
 refine Qp9 nb o r j fun D3 l3 N U I _=>?_
 refine Qp9 nb N U I fun D4 l4 O W J _=>?_
 refine Qp9 nb O W J fun D5 B P E L _=>?_
 intro d t
 have ne:d≠b:=fun e=>by
  obtain ⟨g,hg⟩:=E.is.mine
  rw [← e,t] at hg; cases hg
 have Q:=P.trans (Xc t (m:=true) (g:=.row (opsW.map sv)))
 have X:=E.le (Xc t (m:=true) (g:=.row (opsW.map sv)))
 have F:(D5.put d (.row (opsW.map sv))) d=some (true,.row (opsW.map sv)):=Xa ..
 have S:opsW.length=14:=rfl
 refine ⟨fun y D=>∃ (i:Nat) (l:List (Str×Int)),y=(i:Int)∧i≤14∧H.le D∧MapS sv (fun x:Int=>(.int .i64 x:Value)) D b l∧D d=some (true,.row (opsW.map sv))∧(∀ k2,lkL k2 l=if (opsW.take i).contains k2 then some 2 else lkL k2 B),fun y _=>14 - y.toNat,⟨0,B,rfl,by omega,Q,X,F,fun k2=>by simp⟩,?_⟩
 rintro _ D ⟨i,l,rfl,hi,u,hm,z,A⟩
 refine ift.of (fun h=>?_) (fun h=>?_)
 ·have R : i < 14 := by have := Vb h; simp only [Sl.of] at this; omega
  refine ⟨(d, 0), rfl, rfl, by omega, by simp only [Sl.of]; omega, opsW[i]'(by omega), ?_, ?_⟩
  ·show rd D (d,0+(i:Int).toNat*1)=_
   rw [Qaq z,show 0+(i:Int).toNat*1=i by omega,List.getElem?_map,Vf (by omega)]; rfl
  ·refine Qp9 nb u hm A fun D2 l2 o r j Y => ?_
   rw [Qu (by omega) (by omega)]
   refine ⟨⟨i+1,l2,by omega,by omega,o,r,by rw [Y _ ne]; exact z,fun k2=>?_⟩,by first | omega | (dsimp only; omega)⟩
   rw [j,Vp,Vf (by omega:i < opsW.length),Vo]
   by_cases hk : k2 = opsW[i]'(by omega)
   ·rw [if_pos hk,if_pos (by rw [List.contains_iff_mem,hk]; exact List.mem_append.2 (.inr (List.mem_singleton.2 rfl)))]
   ·rw [if_neg hk]
    have : (opsW.take i ++ [opsW[i]'(by omega)]).contains k2 = (opsW.take i).contains k2 := by
     rw [Vn,List.contains_iff_mem,List.contains_iff_mem,List.mem_append,List.mem_singleton]; exact ⟨fun h=>h.resolve_right hk,.inl⟩
    rw [this]
 ·have q : i = 14 := by have := Vc h; simp only [Sl.of] at this; omega
  subst q
  refine k b D l u hm.is fun k2=>?_
  rw [A,show opsW.take 14=opsW from rfl,L]; rfl
theorem QxA {v:V} {x:TV} {K:Bool→HP} (hx:VIs A v x) (k:K (noV v) H):Qel C x K H:=by
 have hx':=QgM.1 hx
 apply Qel.gh
 apply Qro
 unfold QnM
 refine box1 fun d H2 hle b=>fI b rfl ?_
 refine ja (decide (v.n=0)) H2 (fun _=>fI b rfl ⟨rfl,by rw [hx'.2.1]; rfl⟩) ?_
 refine ja v.s.isEmpty H2 (fun _=>fS b rfl ⟨rfl,by rw [hx'.2.2.1,QgX]⟩) ?_
 refine ja (decide (v.l.length=0)) H2 (fun _=>fL b rfl ⟨rfl,by rw [hx'.2.2.2.len]; exact lenI (m:=0)⟩) ?_
 rw [hx'.1]
 have e:((v.k == 0 && decide (v.n=0)) && v.s.isEmpty && decide (v.l.length=0))=noV v:=rfl
 rw [e]; exact ⟨H,Gh.le hle,k⟩
theorem Qwa (q:MaxC C):∀ (v:TyV) {x:Qf} {H:Heap} {K:Bool→HP},TyIs A v x→A.le H→K (tyOk v) H→Qdg C x K H:=by
 refine TyV.rec_ fun v F x H K hx t k=>?_
 have hx':=Qb7.1 hx
 have g:=hx'.2.len
 apply Qdg.gh
 apply QqF
 unfold QmU
 rw [QsF] at k
 refine box1 fun G H2 hle d=>fL d rfl (fS d rfl ?_)
 have f:∀ {K:Bool→HP},K (v.a.all tyOk) H2→Q4 C x.Args (.func (.func 133) (List.toArray []) (List.toArray []):Value) K H2:=fun k=>QwI hx'.2 (t.trans hle) (ok:=tyOk) (fun w B y D Φ u z E=>cu Qmp (F w B z u E)) k
 rw [g]
 have i:=hx'.1.1
 refine jp (P:=v.n=boolS∨v.n=intS∨v.n=bigS∨v.n=textS) H2 ?_ fun b r=>?_
 ·rw [i]
  refine ift.of (fun h=>⟨rfl,⟨fun _=>.inl (beq_iff_eq.1 h),fun _=>h⟩⟩) fun d=>?_
  refine ift.of (fun h=>⟨rfl,⟨fun _=>.inr (.inl (beq_iff_eq.1 h)),fun _=>h⟩⟩) fun j=>?_
  refine ift.of (fun h=>⟨rfl,⟨fun _=>.inr (.inr (.inl (beq_iff_eq.1 h))),fun _=>h⟩⟩) fun o=>⟨rfl,⟨fun h=>.inr (.inr (.inr (beq_iff_eq.1 h))),fun h=>?_⟩⟩
  rcases h with h | h | h | h
  ·rw [h] at d; cases d
  ·rw [h] at j; cases j
  ·rw [h] at o; cases o
  ·rw [h]; rfl
 refine ift.of (fun h=>?_) (fun h=>?_)
 ·have hp:=r.1 h
  have e:(tyN v.n v.a.length && v.a.all tyOk)=(((v.a.length:Nat):Int) == 0):=by
   unfold tyN
   rw [if_pos hp,show (((v.a.length:Nat):Int) == 0)=decide (v.a.length=0) from lenI (m:=0)]
   cases ha:v.a with
   | nil=>rfl
   | cons w l=>simp
  rw [← e]; exact ⟨H,Gh.le hle,k⟩
 have hp:¬ (v.n=boolS∨v.n=intS∨v.n=bigS∨v.n=textS):=fun p=>by rw [r.2 p] at h; cases h
 unfold tyN at k
 rw [if_neg hp] at k
 refine ift.of (fun h=>?_) (fun h=>?_)
 ·rw [i] at h
  rw [if_pos (show v.n=tupS from beq_iff_eq.1 h)] at k
  refine ja (v.a.all tyOk) H2 (fun _=>fL d rfl (f ⟨rfl,rfl⟩)) ?_
  rw [show (((v.a.length:Nat):Int) != 1)=decide (v.a.length≠1) from lenN (m:=1),show decide (((v.a.length:Nat):Int)≤16)=decide (v.a.length≤16) from lenL (m:=16)]
  exact ⟨H,Gh.le hle,k⟩
 ·rw [i] at h
  rw [if_neg (fun e:v.n=tupS=>by rw [e] at h; exact absurd h (by decide))] at k
  refine fS d rfl (Qtf q hx'.1 ?_)
  rw [show (((v.a.length:Nat):Int) == 0)=decide (v.a.length=0) from lenI (m:=0),show decide (((v.a.length:Nat):Int)≤8)=decide (v.a.length≤8) from lenL (m:=8)]
  refine jo' ((longS v.n && decide (v.a.length≤8)) && v.a.all tyOk) H2 (fun _=>fS d rfl (Qq1 q hx'.1 ?_)) ?_
  ·exact ja (v.a.all tyOk) H2 (fun _=>fL d rfl (f ⟨rfl,rfl⟩)) ⟨rfl,rfl⟩
  have e:((parS v.n && decide (v.a.length=0)) || ((longS v.n && decide (v.a.length≤8)) && v.a.all tyOk))=((parS v.n && decide (v.a.length=0) || longS v.n && decide (v.a.length≤8)) && v.a.all tyOk):=by
   cases hp:(parS v.n && decide (v.a.length=0)) with
   | false=>simp
   | true=>
    have h0:v.a.length=0:=by simp only [Ve,Vj] at hp; exact hp.2
    rw [List.length_eq_zero_iff.1 h0]; simp
  rw [e]; exact ⟨H,Gh.le hle,k⟩
theorem exN2 {p n m}:exN p 2 n m=(varS n && decide (m=0)):=rfl
theorem exN3 {p n m}:exN p 3 n m=(p && n.isEmpty && decide (m=0)):=rfl
theorem exN4 {p n m}:exN p 4 n m=(n.isEmpty && decide (m≠1) && decide (m≤16)):=rfl
theorem exN5 {p n m}:exN p 5 n m=(longS n && decide (m≤8)):=rfl
theorem exN6 {p n m}:exN p 6 n m=(!p && decide (0 < arS n) && decide (m=arS n)):=rfl
theorem exN7 {p n m}:exN p 7 n m=(!p && namS n && decide (m=1)):=rfl
theorem exN8 {p n m}:exN p 8 n m=(!p && n.isEmpty && decide (m=3)):=rfl
theorem Qux (L:MaxC C):∀ (v:ExV) {p:Bool} {x:Qe} {H:Heap} {K:Bool→HP},ExIs A v x→A.le H→K (exOk p v) H→Qcz C x p K H:=by
 refine ExV.rec_ fun v X p x H K hx P k=>?_
 have hx':=Qdv.1 hx
 obtain ⟨I,q,G,Q,M⟩:=hx'
 have B:=M.len
 apply Qcz.gh
 apply Qrj
 unfold QnH
 rw [QoD] at k
 refine box2 fun b1 b3 o hle d u=>fL d rfl ?_
 have z:=P.trans hle
 rw [B]
 have Y:(((v.a.length:Nat):Int) == 0)=decide (v.a.length=0):=lenI (m:=0)
 rw [Y]
 by_cases hk1:v.k=1
 ·rw [if_pos hk1] at k
  refine ⟨fun _ _=>False,fI d rfl (QaK (by rw [I,hk1]; rfl) (fI (j:=4) d rfl ?_)),fun _ _ h=>h.elim⟩
  refine ja (decide (checkV v.v=0)) o (fun h=>fT d Qvf (QlK (G.le z) Q ⟨rfl,?_⟩)) ?_
  ·rw [Vn,beq_iff_eq,Vj]
  refine ja v.n.isEmpty o (fun h=>fS d rfl ⟨rfl,by rw [q.1,QgX]⟩) ?_
  have e:((((decide (x.Value_.Kind ≥ 1)) && (decide (x.Value_.Kind≤4))) && decide (checkV v.v=0)) && decide (v.a.length=0) && v.n.isEmpty)=(litV v.v && decide (v.a.length=0) && v.n.isEmpty):=by
   unfold litV mayV
   rw [(QgM.1 G).1]
  rw [e]; exact ⟨H,Gh.le hle,k⟩
 rw [if_neg hk1] at k
 refine jw (exN p v.k v.n v.a.length) o (fI d rfl ?_) fun E F=>?_
 ·rw [I]
  have r:=Heap.le.refl o
  refine ift.of (fun h=>absurd (by simpa using h) hk1) fun _=>?_
  refine ift.of (fun h=>?_) fun n2=>?_
  ·rw [show v.k = 2 by simpa using h, exN2]
   exact fS d rfl (Qpb q ⟨r,rfl⟩)
  refine ift.of (fun h=>?_) fun n3=>?_
  ·rw [show v.k = 3 by simpa using h, exN3]
   exact fB0 u (ja v.n.isEmpty o (fun h=>fS d rfl ⟨rfl,by rw [q.1,QgX]⟩) ⟨r,rfl⟩)
  refine ift.of (fun h=>?_) fun Z=>?_
  ·rw [show v.k = 4 by simpa using h, exN4]
   refine fS d rfl ⟨r,?_⟩
   rw [q.1,QgX,show (((v.a.length:Nat):Int) != 1)=decide (v.a.length≠1) from lenN (m:=1),show decide (((v.a.length:Nat):Int)≤16)=decide (v.a.length≤16) from lenL (m:=16)]
  refine ift.of (fun h=>?_) fun n5=>?_
  ·rw [show v.k = 5 by simpa using h, exN5]
   refine fS d rfl (Qq1 L q ⟨r,?_⟩)
   rw [show decide (((v.a.length:Nat):Int)≤8)=decide (v.a.length≤8) from lenL (m:=8)]
  refine ift.of (fun h=>?_) fun n6=>?_
  ·rw [show v.k = 6 by simpa using h, exN6]
   refine ⟨o,r,fS d rfl (Qvl fun b D l g R T=>⟨g,?_⟩)⟩
   rw [q.1]
   have i:=(T v.n).trans (QxE v.n)
   refine R.lk (fun y hy=>⟨g,fB0 (g _ _ u) ⟨g,?_⟩⟩) (fun hy=>⟨g,fB0 (g _ _ u) ⟨g,?_⟩⟩)
   ·rw [hy] at i
    by_cases h0:arS v.n=0
    ·rw [if_pos h0] at i; cases i
    ·rw [if_neg h0] at i; injection i with i; subst i
     rw [lenI]
     congr 1
     ·congr 1; rw [Vm]; omega
     ·rw [Vm]; exact eq_comm
   ·rw [hy] at i
    by_cases h0:arS v.n=0
    ·rw [h0]; simp
    ·rw [if_neg h0] at i; cases i
  refine ift.of (fun h=>?_) fun n7=>?_
  ·rw [show v.k = 7 by simpa using h, exN7]
   refine fB0 u (ja (namS v.n) o (fun h=>fS d rfl (Qgk L q ⟨rfl,rfl⟩)) ⟨r,?_⟩)
   rw [show (((v.a.length:Nat):Int) == 1)=decide (v.a.length=1) from lenI (m:=1)]
  refine ift.of (fun h=>?_) fun n8=>?_
  ·rw [show v.k = 8 by simpa using h, exN8]
   refine fB0 u (ja v.n.isEmpty o (fun h=>fS d rfl ⟨rfl,by rw [q.1,QgX]⟩) ⟨r,?_⟩)
   rw [show (((v.a.length:Nat):Int) == 3)=decide (v.a.length=3) from lenI (m:=3)]
  refine ⟨r,?_⟩
  unfold exN
  rw [if_neg (by simpa using n2),if_neg (by simpa using n3),if_neg (by simpa using Z),if_neg (by simpa using n5),if_neg (by simpa using n6),if_neg (by simpa using n7),if_neg (by simpa using n8)]
 have J:=F _ _ d
 have N:=F _ _ u
 have t:=z.trans F
 refine ja (noV v.v) E (fun _=>fT J Qvf (QxA (G.le t) ⟨rfl,rfl⟩)) ?_
 refine ja (v.a.all (exOk p)) E (fun _=>fL J rfl ?_) ?_
 ·refine Qsg (M.le t fun _ _ _ h => h) (Heap.le.refl E) (ok := exOk p) (fun w U y D Φ g S W => ⟨_, [], [pv (some (b3, 0))], rfl, Qlf, ?_⟩) ⟨rfl, rfl⟩
  show QdC C y (b3,0) Φ D
  apply QdC.gh
  apply QpB
  unfold QlF
  exact box1 fun b4 H5 f O=>bxT O (fB0 (f _ _ (g _ _ N)) (X w U S (t.trans (g.trans f)) ⟨D,Gh.le f,W⟩))
 exact ⟨H,Gh.le (hle.trans F),k⟩
end
end
section
open Go Go.Proofs
section
variable {C:Ctx} {H A:Heap}
theorem QtK (f:MaxC C) {v:ExV} {x:Qe} {K:Bool→HP} (hx:ExIs A v x) (d:A.le H) (k:K (exOk true v) H):QcQ C x K H:=by
 apply QcQ.gh
 apply Qor
 unfold QkH
 exact box1 fun g H2 hle b=>bxT b (Qux f v hx (d.trans hle) ⟨H,Gh.le hle,k⟩)
theorem Quq (f:MaxC C) {v:ExV} {x:Qe} {K:Bool→HP} (hx:ExIs A v x) (d:A.le H) (k:K (exOk false v) H):Qcy C x K H:=by
 apply Qcy.gh
 apply Qri
 unfold QnG
 exact box1 fun g H2 hle b=>bxT b (Qux f v hx (d.trans hle) ⟨H,Gh.le hle,k⟩)
theorem QxV {l:List ExV} (h:l.length=1) (h0:0 < l.length) (p:Bool):exsOk p l=exOk p l[0]:=by
 match l,h with
 | [w],_=>simp [exsOk]
theorem Qsy (g:MaxC C) {l:List ExV} {s:Sl} {K:Bool→HP} (h:ExL A s l) (b:A.le H) (k:K (exsOk true l) H):QI C s (.func (.func 144) (List.toArray []) (List.toArray []):Value) K H:=by
 rw [Qdh] at k
 exact Qsg h b (fun w j y D Φ d f i=>cu Qkl (QtK g f d i)) k
theorem QvE (g:MaxC C) {l:List ExV} {s:Sl} {K:Bool→HP} (h:ExL A s l) (b:A.le H) (k:K (exsOk false l) H):QI C s (.func (.func 138) (List.toArray []) (List.toArray []):Value) K H:=by
 rw [Qdh] at k
 exact Qsg h b (fun w j y D Φ d f i=>cu Qny (Quq g f d i)) k
theorem QtC (u:MaxC C) {v:LiV} {x:Qm} {K:Bool→HP} (hx:LiIs A v x) (I:A.le H) (k:K (liOk v) H):QcP C x K H:=by
 obtain ⟨G,t,z⟩:=hx
 have d:=z.len
 apply QcP.gh
 apply Qoq
 unfold QkG
 refine box1 fun E H2 hle f=>fI f rfl ?_
 have j:=I.trans hle
 rw [G]
 unfold liOk at k
 refine jp (P:=v.k=1∨v.k=2) H2 (ift.of (fun h=>⟨rfl,fun _=>.inl (by simpa using h),fun _=>h⟩) (fun h=>⟨rfl,fun h=>.inr (by simpa using h),fun o=>?_⟩)) fun b q=>?_
 ·rcases o with o | o
  ·rw [o] at h; cases h
  ·rw [o]; rfl
 refine ift.of (fun h=>?_) (fun h=>?_)
 ·rw [if_pos (q.1 h)] at k
  refine fS f rfl (Qq1 u t ?_)
  refine ja (decide (v.a.length≤8)) H2 (fun _=>fL f rfl ⟨rfl,by rw [d]; exact lenL (m:=8)⟩) ?_
  exact ja (exsOk true v.a) H2 (fun _=>fL f rfl (Qsy u z j ⟨rfl,rfl⟩)) ⟨H,Gh.le hle,k⟩
 rw [if_neg (fun p=>by rw [q.2 p] at h; cases h)] at k
 have g:∀ {b:Bool} {K:Bool→HP},(b && decide (v.a.length=1))=true→K (exsOk false v.a) H2→ldL H2 ((E,0).1,(E,0).2+4) fun B=>ixa B 0 fun r=>ldT H2 Qe.c (r.1,r.2+(0:Int).toNat*9) fun D=>Qcy C D K H2:=fun {b} {K} q F=>by
  simp only [Ve,Vj] at q
  have h0:0 < v.a.length:=by omega
  rw [QxV q.2 h0] at F
  exact fL f rfl (SlIs.ld z j QbA (by omega) (i:=0) rfl h0 fun y hy=>Quq u hy j F)
 refine ift.of (fun h=>?_) (fun h=>?_)
 ·rw [if_pos (by simpa using h)] at k
  refine fS f rfl ?_
  refine ja (decide (v.a.length=1)) H2 (fun _=>fL f rfl ⟨rfl,by rw [d]; exact lenI (m:=1)⟩) ?_
  refine ja (exsOk false v.a) H2 (fun h=>g h ⟨rfl,rfl⟩) ?_
  rw [t.1,QgX]; exact ⟨H,Gh.le hle,k⟩
 rw [if_neg (by simpa using h)] at k
 refine ift.of (fun h=>?_) (fun h=>?_)
 ·rw [if_pos (by simpa using h)] at k
  refine fS f rfl (Qpb t ?_)
  refine ja (decide (v.a.length=1)) H2 (fun _=>fL f rfl ⟨rfl,by rw [d]; exact lenI (m:=1)⟩) ?_
  exact ja (exsOk false v.a) H2 (fun h=>g h ⟨rfl,rfl⟩) ⟨H,Gh.le hle,k⟩
 ·rw [if_neg (by simpa using h)] at k
  exact ⟨H,Gh.le hle,k⟩
theorem QoS (g:MaxC C) {l:List LiV} {s:Sl} {K:Bool→HP} (h:LiL A s l) (b:A.le H) (k:K (l.all liOk) H):QJ C s (.func (.func 53) (List.toArray []) (List.toArray []):Value) K H:=
 Qtu h b (fun w j y D Φ d f i=>cu Qkk (QtC g f d i)) k
theorem Qtz (g:MaxC C) {v:FdV} {x:Ql} {b:Nat} {f:Bool} {K:Bool→HP} (hx:FdIs A v x) (h:A.le H) (i:H b=some (true,.row [.bool f])) (k:K (fdOk f v) H):Qce C x (b,0) K H:=by
 apply Qce.gh
 apply QnV
 unfold Qjp
 refine box1 fun j H2 hle d=>fS d rfl (Qgk g hx.1 ?_)
 refine jo' (!f && v.n.isEmpty) H2 (fun _=>fB0 (hle _ _ i) (ja v.n.isEmpty H2 (fun _=>fS d rfl ⟨rfl,by rw [hx.1.1,QgX]⟩) ⟨rfl,rfl⟩)) ?_
 exact ja (tyOk v.t) H2 (fun _=>fT d Qr4 (Qwa g v.t hx.2 (h.trans hle) ⟨rfl,rfl⟩)) ⟨H,Gh.le hle,k⟩
theorem QrH (r:MaxC C) {l:List FdV} {s:Sl} {d:Bool} {K:Bool→HP} (g:FdL A s l) (o:A.le H) (k:K (fdsOk d l) H):QbT C s d K H:=by
 apply QbT.gh
 apply QpA
 unfold QlE
 refine box1 fun i H2 hle j=>?_
 have b:=o.trans hle
 refine ja (l.all (fdOk d)) H2 (fun _=>?_) ?_
 ·exact Qsh (g.le b fun _ _ _ h=>h) (Heap.le.refl H2) (ok:=fdOk d) (fun w u y D Φ f q t=>⟨_,[],[pv (some (i,0))],rfl,Qjg,Qtz r q (b.trans f) (f _ _ j) t⟩) ⟨rfl,rfl⟩
 rw [g.len,show decide (((l.length:Nat):Int)≤8)=decide (l.length≤8) from lenL (m:=8)]
 exact ⟨H,Gh.le hle,k⟩
theorem QwO (d:MaxC C) {v:CnV} {x:Qj} {K:Bool→HP} (hx:CnIs A v x) (g:A.le H) (k:K (cnOk v) H):QbO C x K H:=by
 apply QbO.gh
 apply Qnd
 unfold Qiz
 refine box1 fun h H2 hle b=>fS b rfl (Qgk d hx.1 ?_)
 exact ja (fdsOk false v.f) H2 (fun _=>fL b rfl (QrH d hx.2 (g.trans hle) ⟨rfl,rfl⟩)) ⟨H,Gh.le hle,k⟩
theorem geI {n m:Nat}:decide (((n:Nat):Int) ≥ (m:Int))=decide (m≤n):=by rw [Vm]; omega
theorem gtI {n m:Nat}:decide (((n:Nat):Int) > (m:Int))=decide (m < n):=by rw [Vm]; omega
theorem QtT (h:MaxC C) {v:TdV} {x:Qd} {K:Bool→HP} (hx:TdIs A v x) (q:A.le H) (k:K (tdOk v) H):QcR C x K H:=by
 apply QcR.gh
 apply Qos
 unfold QkI
 obtain ⟨_,o,g,f⟩:=hx
 have z:=SlIs.len g
 have l2:=f.len
 refine box1 fun B H2 hle b=>fS b rfl (Qgk h o ?_)
 have d:=q.trans hle
 refine ja (decide (v.ps.length≤8)) H2 (fun _=>fL b rfl ⟨rfl,by rw [z]; exact lenL (m:=8)⟩) ?_
 refine ja (v.ps.all parS) H2 (fun _=>fL b rfl (Qrq g d (fun w u D Φ j t i=>cu Qmo (Qtf h ⟨rfl,t⟩ i)) ⟨rfl,rfl⟩)) ?_
 refine ja (decide (1≤v.cs.length)) H2 (fun _=>fL b rfl ⟨rfl,by rw [l2]; exact geI (m:=1)⟩) ?_
 refine ja (decide (v.cs.length≤16)) H2 (fun _=>fL b rfl ⟨rfl,by rw [l2]; exact lenL (m:=16)⟩) ?_
 exact ja (v.cs.all cnOk) H2 (fun _=>fL b rfl (Qtt f d (fun w u y D Φ j r i=>cu Qil (QwO h r j i)) ⟨rfl,rfl⟩)) ⟨H,Gh.le hle,k⟩
theorem Qxn (h:MaxC C) {v:RuV} {x:Qi} {K:Bool→HP} (hx:RuIs A v x) (q:A.le H) (k:K (ruOk v) H):QfN C x K H:=by
 apply QfN.gh
 apply Qrn
 unfold QnL
 obtain ⟨o,i,hg,r⟩:=hx
 have j:=i.len
 have l2:=SlIs.len hg
 refine box1 fun u H2 hle d=>fS d rfl (Qq1 h o ?_)
 have f:=q.trans hle
 refine ja (decide (v.a.length≤8)) H2 (fun _=>fL d rfl ⟨rfl,by rw [j]; exact lenL (m:=8)⟩) ?_
 refine ja (decide (v.g.length=v.a.length)) H2 (fun _=>fL d rfl (fL d rfl ⟨rfl,by rw [j,l2]; exact lenI⟩)) ?_
 refine ja (exsOk false v.a) H2 (fun _=>fL d rfl (QvE h i f ⟨rfl,rfl⟩)) ?_
 refine ja (v.b.all liOk) H2 (fun _=>fL d rfl (QoS h r f ⟨rfl,rfl⟩)) ?_
 refine ja (v.g.all agOk) H2 (fun _=>fL d rfl (Qrq hg f (fun w B D Φ y z t=>cu Qlg ?_) ⟨rfl,rfl⟩)) ⟨H,Gh.le hle,k⟩
 show Qmc C w Φ D
 apply QpC
 unfold QlG
 have e:(((((w == ([]:Str)) || (w == ([99,111,117,110,116]:Str))) || (w == ([115,117,109]:Str))) || (w == ([109,105,110]:Str))) || (w == ([109,97,120]:Str)))=agOk w:=by
  unfold agOk countS sumS minS maxS
  rw [Vn]; simp only [Bool.or_eq_true,beq_iff_eq,Vj,or_assoc]
 rw [e]; exact t
theorem QvM (f:MaxC C) {v:NeV} {x:Qo} {K:Bool→HP} (hx:NeIs A v x) (g:A.le H) (k:K (neOk v) H):QcM C x K H:=by
 apply QcM.gh
 apply Qol
 unfold QkB
 have h:=hx.2.len
 refine box1 fun i H2 hle d=>fS d rfl (Qgk f hx.1 ?_)
 refine ja (decide (0 < v.b.length)) H2 (fun _=>fL d rfl ⟨rfl,by rw [h]; exact gtI (m:=0)⟩) ?_
 exact ja (v.b.all liOk) H2 (fun _=>fL d rfl (QoS f hx.2 (g.trans hle) ⟨rfl,rfl⟩)) ⟨H,Gh.le hle,k⟩
theorem QuY (d:MaxC C) {v:RdV} {x:Qh} {K:Bool→HP} (hx:RdIs A v x) (g:A.le H) (k:K (rdOk v) H):QcL C x K H:=by
 apply QcL.gh
 apply Qok
 unfold QkA
 refine box1 fun h H2 hle b=>fS b rfl (Qgk d hx.2.2.1 ?_)
 exact ja (fdsOk true v.f) H2 (fun _=>fL b rfl (QrH d hx.2.2.2 (g.trans hle) ⟨rfl,rfl⟩)) ⟨H,Gh.le hle,k⟩
theorem QuA (d:MaxC C) {v:Str} {x:Qq} {K:Bool→HP} (hx:ImIs v x) (k:K (namS v) H):QcK C x K H:=by
 apply QcK.gh
 apply Qoj
 unfold Qkz
 exact box1 fun f H2 hle b=>fS b rfl (Qgk d hx ⟨H,Gh.le hle,k⟩)
theorem QwT {v:RuV} {x:Qi} {K:Bool→HP} (hx:RuIs A v x) (k:K (decide (v.b.length≤12)) H):QcN C x K H:=by
 apply QcN.gh
 apply Qom
 unfold QkC
 refine box1 fun f H2 hle d=>fL d rfl ?_
 rw [hx.2.2.2.len,show decide (((v.b.length:Nat):Int)≤12)=decide (v.b.length≤12) from lenL (m:=12)]
 exact ⟨H,Gh.le hle,k⟩
theorem QwU {v:NeV} {x:Qo} {K:Bool→HP} (hx:NeIs A v x) (k:K (decide (v.b.length≤12)) H):QcO C x K H:=by
 apply QcO.gh
 apply Qon
 unfold QkD
 refine box1 fun f H2 hle d=>fL d rfl ?_
 rw [hx.2.len,show decide (((v.b.length:Nat):Int)≤12)=decide (v.b.length≤12) from lenL (m:=12)]
 exact ⟨H,Gh.le hle,k⟩
theorem QsI (t:MaxC C) {v:MoV} {x:Qa} {K:Int→HP} (hx:MoIs A v x) (J:A.le H) (L:moD v≤4611686018427387904) (k:K (moC v) H):Qcl C x K H:=by
 apply Qcl.gh
 apply QqA
 unfold QmP
 refine box1 fun M H2 hle f=>bxT f ?_
 have d:=J.trans hle
 refine QwP hx d L ?_
 obtain ⟨I,z,E,B,q,o⟩:=hx
 unfold moC at k
 refine ift.of (fun h=>?_) (fun h=>?_)
 ·rw [if_pos (by have:=Vb h; omega)] at k; exact ⟨H,Gh.le hle,k⟩
 rw [if_neg (by have:=Vc h; omega)] at k
 refine fS f rfl (Qgk t I ?_)
 refine jo' (!v.im.all namS) H2 (fun _=>fL f rfl (QtZ z d (fun w u y D Φ j g i=>cu Qkd (QuA t g i)) ⟨rfl,rfl⟩)) ?_
 refine jo' (!v.ty.all tdOk) H2 (fun _=>fL f rfl (Qtv E d (fun w u y D Φ j g i=>cu Qkm (QtT t g j i)) ⟨rfl,rfl⟩)) ?_
 refine jo' (!v.re.all rdOk) H2 (fun _=>fL f rfl (Qt0 B d (fun w u y D Φ j g i=>cu Qke (QuY t g j i)) ⟨rfl,rfl⟩)) ?_
 refine jo' (!v.ru.all ruOk) H2 (fun _=>fL f rfl (Qt1 q d (fun w u y D Φ j g i=>cu QnB (Qxn t g j i)) ⟨rfl,rfl⟩)) ?_
 refine jo' (!v.ne.all neOk) H2 (fun _=>fL f rfl (QsL o d (fun w u y D Φ j g i=>cu Qkf (QvM t g j i)) ⟨rfl,rfl⟩)) ?_
 have F:(((((!namS v.n || !v.im.all namS) || !v.ty.all tdOk) || !v.re.all rdOk) || !v.ru.all ruOk) || !v.ne.all neOk)=!moOk v:=by unfold moOk; simp only [Bool.not_and]
 rw [F]
 refine ift.of (fun h=>?_) (fun h=>?_)
 ·rw [if_pos (by simpa using h)] at k; exact ⟨H,Gh.le hle,k⟩
 rw [if_neg (by simpa using h)] at k
 refine fL f rfl ?_
 refine jo' (decide (64 < v.ty.length)) H2 (fun _=>fL f rfl ⟨rfl,by rw [E.len]; exact gtI (m:=64)⟩) ?_
 refine jo' (decide (64 < v.re.length)) H2 (fun _=>fL f rfl ⟨rfl,by rw [B.len]; exact gtI (m:=64)⟩) ?_
 refine jo' (decide (256 < v.ru.length)) H2 (fun _=>fL f rfl ⟨rfl,by rw [q.len]; exact gtI (m:=256)⟩) ?_
 refine jo' (decide (256 < v.ne.length)) H2 (fun _=>fL f rfl ⟨rfl,by rw [o.len]; exact gtI (m:=256)⟩) ?_
 refine jo' (!v.ru.all (fun r=>decide (r.b.length≤12))) H2 (fun _=>fL f rfl (Qt1 q d (fun w u y D Φ j g i=>cu Qkg (QwT g i)) ⟨rfl,rfl⟩)) ?_
 refine jo' (!v.ne.all (fun n=>decide (n.b.length≤12))) H2 (fun _=>fL f rfl (QsL o d (fun w u y D Φ j g i=>cu Qkh (QwU g i)) ⟨rfl,rfl⟩)) ?_
 rw [z.len,show decide (((v.im.length:Nat):Int) > 8)=decide (8 < v.im.length) from gtI (m:=8)]
 have nd:∀ a b:Nat,decide (a < b)=!decide (b≤a):=fun a b=>by rw [Vn]; simp
 have G:(((((((decide (8 < v.im.length)) || decide (64 < v.ty.length)) || decide (64 < v.re.length)) || decide (256 < v.ru.length)) || decide (256 < v.ne.length)) || !v.ru.all (fun r=>decide (r.b.length≤12))) || !v.ne.all (fun n=>decide (n.b.length≤12)))=!moFew v:=by
  unfold moFew; simp only [Bool.not_and,nd]
 rw [G]
 refine ift.of (fun h=>?_) (fun h=>?_)
 ·rw [if_pos (by simpa using h)] at k; exact ⟨H,Gh.le hle,k⟩
 ·rw [if_neg (by simpa using h)] at k; exact ⟨H,Gh.le hle,k⟩
end
end
section
open Go Go.Proofs
theorem Qve:∀ (i:Nat) (l:List TyV),tysT i l=jo [44,32] tyT i l
 | i,[]=>rfl
 | i,v::l=>by
  simp only [tysT,jo,Qve (i+1) l]
  cases i <;> rfl
theorem Qss (sp:Str) {sep:Nat→Str} (h:∀ i,sep i=if i=0 then [] else sp):∀ (i:Nat) (l:List ExV),exsT sep i l=jo sp exT i l
 | i,[]=>rfl
 | i,v::l=>by simp only [exsT,jo,Qss sp h (i+1) l,h i]
theorem Qyb (i:Nat) (l:List ExV):exsT cm i l=jo [44,32] exT i l:=Qss _ (fun i=>by cases i <;> rfl) i l
theorem Qyc (n:Str) (i:Nat) (l:List ExV):exsT (opSep n) i l=jo (32::(n++[32])) exT i l:=Qss _ (fun i=>by cases i <;> rfl) i l
theorem QrF (sep:Nat→Str):∀ (l:List ExV) (j:Nat) (w:ExV),exsT sep j (l++[w])=exsT sep j l++(sep (j+l.length)++exT w)
 | [],j,w=>by simp [exsT]
 | v::l,j,w=>by
  rw [List.cons_append]
  simp only [exsT,QrF sep l (j+1) w,List.append_assoc,Vd]
  rw [show j+1+l.length=j+(l.length+1) by omega]
theorem Qus {sep:Nat→Str} {l:List ExV} {i:Nat} (h:i < l.length):exsT sep 0 (l.take (i+1))=exsT sep 0 (l.take i)++(sep i++exT l[i]):=by
 rw [Vp,Vf h,Vo,QrF,List.length_take,Nat.min_eq_left (by omega),Nat.zero_add]
theorem QvF {sep:Nat→Str} (l:List ExV) (i:Nat):(exsT sep 0 (l.take i)).length≤(exsT sep 0 l).length:=by
 have:∀ (a b:List ExV) (k:Nat),(exsT sep k a).length≤(exsT sep k (a++b)).length:=by
  intro a
  induction a with
  | nil=>intro b k; simp [exsT]
  | cons x a d=>intro b k; have:=d b (k+1); simp only [List.cons_append,exsT,Va]; omega
 have:=this (l.take i) (l.drop i) 0
 rwa [List.take_append_drop] at this
theorem QwC (v:TyV):tyT v=(if v.n=tupS then [] else v.n)++(if v.n=tupS∨0 < v.a.length then 40::(jo [44,32] tyT 0 v.a++[41]) else []):=by
 obtain ⟨n,a⟩:=v
 show tyT (.mk n a)=(if n=tupS then [] else n)++(if n=tupS∨0 < a.length then 40::(jo [44,32] tyT 0 a++[41]) else [])
 simp only [tyT,Qve]
 by_cases h:n=tupS
 ·rw [if_pos h,if_pos h,if_pos (.inl h)]; rfl
 ·rw [if_neg h,if_neg h]
  by_cases h2:a.length=0
  ·rw [if_pos h2,if_neg (by rintro (e | e); exact h e; omega)]
  ·rw [if_neg h2,if_pos (.inr (by omega))]
theorem exE1 {v:ExV} (h:v.k=1):exT v=showV v.v:=by obtain ⟨k,n,u,a⟩:=v; have h:k=1:=h; subst h; simp [exT,ExV.v]
theorem exE2 {v:ExV} (h:v.k=2):exT v=v.n:=by obtain ⟨k,n,u,a⟩:=v; have h:k=2:=h; subst h; simp [exT,ExV.n]
theorem exE3 {v:ExV} (h:v.k=3):exT v=[95]:=by obtain ⟨k,n,u,a⟩:=v; have h:k=3:=h; subst h; simp [exT]
theorem exE4 {v:ExV} (h:v.k=4):exT v=40::(exsT cm 0 v.a++[41]):=by obtain ⟨k,n,u,a⟩:=v; have h:k=4:=h; subst h; simp [exT,ExV.a]
theorem exE5 {v:ExV} (h:v.k=5):exT v=v.n++(if v.a.length=0 then [] else 40::(exsT cm 0 v.a++[41])):=by obtain ⟨k,n,u,a⟩:=v; have h:k=5:=h; subst h; simp [exT,ExV.a,ExV.n]
theorem exE6 {v:ExV} (h:v.k=6):exT v=if funB v.n=true then v.n++40::(exsT cm 0 v.a++[41]) else if v.a.length=1 then 40::(v.n++32::(exsT noSep 0 v.a++[41])) else 40::(exsT (opSep v.n) 0 v.a++[41]):=by obtain ⟨k,n,u,a⟩:=v; have h:k=6:=h; subst h; simp [exT,ExV.a,ExV.n]; rfl
theorem exE7 {v:ExV} (h:v.k=7):exT v=(if brkE v.a=true then 40::(exsT cm 0 v.a++[41]) else exsT cm 0 v.a)++46::v.n:=by obtain ⟨k,n,u,a⟩:=v; have h:k=7:=h; subst h; simp [exT,ExV.a,ExV.n]; rfl
theorem exE8 {v:ExV} (h:v.k=8):exT v=exsT ifSep 0 v.a++[41]:=by obtain ⟨k,n,u,a⟩:=v; have h:k=8:=h; subst h; simp [exT,ExV.a]
theorem QqT {l:List ExV} {sep:Nat→Str} (b:sep 0=[]) (h:l.length=1) (h0:0 < l.length):exsT sep 0 l=exT l[0]:=by
 match l,h with
 | [w],_=>simp [exsT,b]
section
variable {C:Ctx} {A:Heap} {b:Nat}
theorem Ww.box {B:Heap} {t:Str} {cx:List Value} {K:Nat→HP} (h:Ww A B b t) (k:∀ b1 F D,A.le F→F b1=some (true,.row cx)→Ww F D b t→K b1 D):nw cx K B:=fun b1 n1=>by
 have l1:=Xc n1 (g:=.row cx) (m:=true)
 obtain ⟨hF,hAF⟩:=(h.up l1).full
 have hbb:b1≠b:=fun e=>by
  obtain ⟨g,hg⟩:=h.bl.some
  rw [e,hg] at n1; cases n1
 exact k b1 _ _ hAF (by rw [Xd _ hbb]; exact Xa ..) hF
theorem Xu {B:Heap} {t:Str} {cs:List Value} {n:Nat} {K:HP} (d:List Str) (h:Ww A B b t) (q:t.length+d.flatten.length≤140737488355328) (k:∀ D,Ww A D b (t++d.flatten)→K D)
 (r:cs=d.map sv:=by rfl) (hn:n=d.length:=by rfl) (o:n≤100:=by omega):nw cs (fun b2 H=>QB C (some (b,0)) (Sl.of (some (b2,0)) n n) K H) B:=fun b2 n2=>by
 have u:=Xc n2 (g:=.row cs) (m:=true)
 have i:=h.up u
 have f:=i.full.2
 exact Qv6 i (Xa ..) r hn o q fun D j=>k D (j.down f)
theorem Qx7:∀ (v:TyV) {o B:Heap} {x:Qf} {t:Str} {K:HP},TyIs A v x→A.le o→Ww o B b t→t.length+(tyT v).length≤140737488355328→(∀ D,Ww o D b (t++tyT v)→K D)→QfO C (some (b,0)) x K B:=by
 refine TyV.rec_ fun v Q o B x t K hx H G g k=>?_
 obtain ⟨z,I⟩:=Qb7.1 hx
 have m:=I.len
 apply Ql8
 unfold Qhw
 refine G.box fun S F D r i q=>?_
 rw [QwC] at g k
 simp only [Va] at g
 refine ⟨fun _ E=>Ww F E b (t++if v.n=tupS then [] else v.n),?_,?_⟩
 ·refine fS (q.le _ _ i) rfl ?_
  rw [z.1]
  refine ift.of (fun h=>⟨F,q.le,(b,0),rfl,fS i rfl ?_⟩) (fun h=>?_)
  ·have hn : v.n ≠ tupS := fun e => by rw [e] at h; exact absurd h (by decide)
   rw [if_neg hn] at g ⊢
   rw [z.1]
   exact q.str (by omega) fun E d=>⟨d.le,d⟩
  ·have hn : v.n = tupS := beq_iff_eq.1 (by rw [Bool.not_eq_false'] at h; exact h)
   rw [if_pos hn,List.append_nil]; exact q
 rintro _ E d
 refine fS (d.le _ _ i) rfl ?_
 rw [z.1]
 refine jp (P:=v.n=tupS∨0 < v.a.length) E (ift.of (fun h=>⟨rfl,fun _=>.inl (beq_iff_eq.1 h),fun _=>rfl⟩) (fun h=>fL (d.le _ _ i) rfl ⟨rfl,?_⟩)) fun R j=>?_
 ·rw [m]
  constructor
  ·intro J; exact .inr (by have:=Vb J; omega)
  ·rintro (e | e)
   ·rw [e] at h; exact absurd h (by decide)
   ·exact decide_eq_true (by omega)
 refine ift.of (fun h=>fL (d.le _ _ i) rfl ?_) (fun h=>?_)
 ·have hp:=j.1 h
  rw [if_pos hp] at g k
  simp only [Va,Vd,Vk] at g
  refine QwL (I.le (H.trans r) fun _ _ _ h=>h) d (f:=tyT) (fun w O y D u Φ G M g N=>⟨_,[pv (some (b,0))],[],rfl,Qhl,Q w O M (H.trans r) G g N⟩) (by simp only [Va]; omega) fun D2 L=>?_
  exact k D2 (by rw [← List.append_assoc]; exact L.down r)
 ·have hp : ¬ (v.n = tupS ∨ 0 < v.a.length) := fun p => by rw [j.2 p] at h; cases h
  rw [if_neg hp,List.append_nil] at k
  exact k E (d.down r)
def EW (C:Ctx) (A:Heap) (b:Nat) (w:ExV):Prop:=∀ {A' B:Heap} {x:Qe} {t:Str} {K:HP},ExIs A w x→A.le A'→Ww A' B b t→t.length+(exT w).length≤140737488355328→(∀ D,Ww A' D b (t++exT w)→K D)→Qag C (some (b,0)) x K B
theorem lsE {d D:Heap} {l:List ExV} {s:Sl} {j u:Str} {K:HP} (t:ExL A s l) (q:∀ w ∈ l,EW C A b w) (m:A.le d) (g:Ww d D b u) (i:u.length+(jo j exT 0 l).length≤140737488355328) (k:∀ D2,Ww d D2 b (u++jo j exT 0 l)→K D2) :
 QaW C (some (b,0)) s j (.func (.func 169) (List.toArray [pv (some (b,0))]) (List.toArray []):Value) K D:=
 QuG (t.le m fun _ _ _ h=>h) g (f:=exT) (fun w x y D u Φ g o i r=>⟨_,[pv (some (b,0))],[],rfl,Qem,q w x o m g i r⟩) i k
theorem brE {g D:Heap} {l:List ExV} {s:Sl} {u:Str} {K:HP} (r:ExL A s l) (o:∀ w ∈ l,EW C A b w) (j:A.le g) (i:Ww g D b u) (d:u.length+(exsT cm 0 l).length+2≤140737488355328) (k:∀ D2,Ww g D2 b (u++40::(exsT cm 0 l++[41]))→K D2) :
 Qx C (some (b,0)) s (.func (.func 169) (List.toArray [pv (some (b,0))]) (List.toArray []):Value) K D:=by
 rw [Qyb] at d k
 exact QwK (r.le j fun _ _ _ h=>h) i (f:=exT) (fun w t y D u Φ i m d q=>⟨_,[pv (some (b,0))],[],rfl,Qem,o w t m j i d q⟩) d k
theorem QwN {v:ExV} (N:v.k=6) (M:∀ w ∈ v.a,EW C A b w) {I B:Heap} {x:Qe} {t:Str} {K:HP} (hx:ExIs A v x) (P:A.le I) (Q:Ww I B b t) (o:t.length+(exT v).length≤140737488355328) (k:∀ D,Ww I D b (t++exT v)→K D):Qe5 C (some (b,0)) x K B:=by
 obtain ⟨S,r,U,T,H⟩:=Qdv.1 hx
 have z:=H.len
 apply QlO
 unfold Qg2
 rw [exE6 N] at o k
 refine Q.box fun R F D G m q=>fS (q.le _ _ m) rfl ?_
 have g:=P.trans G
 refine QoL ?_
 rw [r.1]
 refine ift.of (fun h=>?_) (fun h=>?_)
 ·rw [if_pos h] at o k
  simp only [Va,Vd,Vk] at o
  refine ⟨F,q.le,(b,0),rfl,fS m rfl ?_⟩
  rw [r.1]
  refine q.str (by omega) fun E d=>⟨d.le,fL (d.le _ _ m) rfl ?_⟩
  refine brE H M g d (by simp only [Va]; omega) fun D2 u=>k D2 ?_
  rw [← List.append_assoc]; exact u.down G
 rw [if_neg (by rw [h]; decide)] at o k
 refine fL (q.le _ _ m) rfl ?_
 rw [z]
 refine ift.of (fun f=>?_) (fun f=>?_)
 ·have j:v.a.length=1:=Int.ofNat.inj (show ((v.a.length:Nat):Int)=((1:Nat):Int) from beq_iff_eq.1 f)
  have h0:0 < v.a.length:=by omega
  rw [if_pos j,QqT rfl j h0] at o k
  simp only [Va,Vd,Vk] at o
  refine fS (q.le _ _ m) rfl ?_
  rw [r.1]
  refine Xu [[40],v.n,[32]] q (by simp; omega) fun E d=>fL (d.le _ _ m) rfl ?_
  refine SlIs.ld H (g.trans d.le) QbA (by omega) (i:=0) rfl h0 fun y hy=>?_
  refine M _ (Vg h0) hy g d (by simp; omega) fun O u=>⟨(b,0),rfl,?_⟩
  refine u.byte (c:=41) rfl (by simp; omega) fun J L=>k J ?_
  have:=L.down G
  simpa using this
 ·have j : ¬ v.a.length = 1 := fun e => by rw [e] at f; cases f
  rw [if_neg j,Qyc] at o k
  simp only [Va,Vd,Vk] at o
  refine ⟨(b,0),rfl,q.byte (c:=40) rfl (by omega) fun E d=>fL (d.le _ _ m) rfl (fS (d.le _ _ m) rfl ?_)⟩
  have hn:=r.2
  rw [r.1]
  refine ⟨by simp [catOk]; omega,by simp [catOk]; omega,?_⟩
  refine lsE H M g d (by simp; omega) fun O u=>⟨(b,0),rfl,u.byte (c:=41) rfl (by simp; omega) fun J L=>k J ?_⟩
  have:=L.down G
  simpa using this
theorem QvG {v:ExV} (Q:v.k=7) (R:v.a.length=1) (W:∀ w ∈ v.a,EW C A b w) {M B:Heap} {x:Qe} {t:Str} {K:HP} (hx:ExIs A v x) (hA:A.le M) (hW:Ww M B b t) (o:t.length+(exT v).length≤140737488355328) (k:∀ D,Ww M D b (t++exT v)→K D):Qek C (some (b,0)) x K B:=by
 obtain ⟨ek,en,hv,hB,X⟩:=Qdv.1 hx
 have h0:0 < v.a.length:=by omega
 apply Qk0
 unfold Qgz
 rw [exE7 Q] at o k
 refine hW.box fun b1 F D U N L=>fL (L.le _ _ N) rfl ?_
 have q:=hA.trans U
 refine SlIs.ld X (q.trans L.le) QbA (by omega) (i:=0) rfl h0 fun y hy=>?_
 obtain ⟨T,yn,_⟩:=Qdv.1 hy
 have H:brkE v.a=decide (v.a[0].k=1∨v.a[0].k=5∨(v.a[0].k=6∧funB v.a[0].n=true)):=by
  generalize v.a=l at *
  cases l with
  | nil=>simp at h0
  | cons w l=>rfl
 intro b12 J
 refine nwT rfl ?_
 have S:=Xc J (g:=.row (Qe.c y)) (m:=true)
 have d:(D.put b12 (.row (Qe.c y))) b12=some (true,.row (Qe.c y)):=Xa ..
 have r:=L.up S
 obtain ⟨u,f⟩:=r.full
 have O:b12≠b:=fun e'=>by
  obtain ⟨g,hg⟩:=L.bl.some
  rw [← e',J] at hg; cases hg
 have c12':((D.put b12 (.row (Qe.c y))).del b) b12=some (true,.row (Qe.c y)):=by rw [Xd _ O]; exact d
 generalize D.put b12 (.row (Qe.c y))=D2 at *
 generalize D2.del b=F2 at *
 have h1':=f _ _ N
 have hAF':=q.trans f
 simp only [Va,Vd] at o
 refine ⟨fun _ E=>Ww F2 E b (t++if brkE v.a=true then 40::(exsT cm 0 v.a++[41]) else exsT cm 0 v.a),?_,?_⟩
 ·refine fI d rfl ?_
  rw [T]
  refine jp (P:=v.a[0].k=1∨v.a[0].k=5) D2 (ift.of (fun h=>⟨rfl,fun _=>.inl (by simpa using h),fun _=>rfl⟩) (fun h=>fI d rfl ⟨rfl,?_⟩)) fun b1 z=>?_
  ·rw [T]
   constructor
   ·intro h'; exact .inr (by simpa using h')
   ·rintro (e | e)
    ·rw [e] at h; cases h
    ·rw [e]; rfl
  refine jp (P:=v.a[0].k=1∨v.a[0].k=5∨(v.a[0].k=6∧funB v.a[0].n=true)) D2 (ift.of (fun h=>⟨rfl,fun _=>(z.1 h).elim .inl fun e=>.inr (.inl e),fun _=>rfl⟩) (fun h=>fI d rfl ?_)) fun b2 G=>?_
  ·rw [T]
   have I:¬ (v.a[0].k=1∨v.a[0].k=5):=fun p=>by rw [z.2 p] at h; cases h
   refine ja (funB v.a[0].n) D2 (fun _=>fS d rfl ?_) ⟨rfl,?_⟩
   ·rw [yn.1]; exact QoL ⟨rfl,rfl⟩
   ·rw [Ve]
    constructor
    ·rintro ⟨Z,a2⟩; exact .inr (.inr ⟨by simpa using Z,a2⟩)
    ·rintro (e | e | ⟨e1,e2⟩)
     ·exact absurd (.inl e) I
     ·exact absurd (.inr e) I
     ·exact ⟨by rw [e1]; rfl,e2⟩
  refine ift.of (fun h=>fL (r.le _ _ N) rfl ?_) (fun h=>bxT d ?_)
  ·have hp : brkE v.a = true := by rw [H]; exact decide_eq_true (G.1 h)
   rw [if_pos hp] at o ⊢
   simp only [Va,Vd,Vk] at o
   exact brE X W hAF' u (by omega) fun E j=>j
  ·have hp : ¬ brkE v.a = true := fun p => by rw [H] at p; rw [G.2 (Vb p)] at h; cases h
   rw [if_neg hp] at o ⊢
   rw [QqT rfl R h0] at o ⊢
   exact W _ (Vg h0) hy hAF' u (by omega) fun E j=>j
 rintro _ E j
 refine fS (j.le _ _ h1') rfl ?_
 rw [en.1]
 refine Xu [[46],v.n] j (by simp only [Va]; simp; omega) fun Y h2=>k Y ?_
 have:=(h2.down f).down U
 simpa using this
theorem Qum {p:Bool} {k:Int} {n:Str} {m:Nat} (b:k≠1) (h:exN p k n m=true):k=2∨k=3∨k=4∨k=5∨k=6∨k=7∨k=8:=by
 refine Classical.byContradiction fun hn=>?_
 unfold exN at h
 rw [if_neg fun e=>hn (by simp [e]),if_neg fun e=>hn (by simp [e]),if_neg fun e=>hn (by simp [e]),if_neg fun e=>hn (by simp [e]),if_neg fun e=>hn (by simp [e]),if_neg fun e=>hn (by simp [e]),if_neg fun e=>hn (by simp [e])] at h
 cases h
theorem QsX {p:Bool} {v:ExV} (h:exOk p v=true):∀ w ∈ v.a,exOk p w=true:=by
 rw [QoD] at h
 by_cases h1:v.k=1
 ·rw [if_pos h1] at h
  simp only [Ve,Vj] at h
  intro w b
  rw [List.length_eq_zero_iff.1 h.1.2] at b; cases b
 ·rw [if_neg h1,Ve] at h
  exact List.all_eq_true.1 h.2
theorem Qvi (U:FmtC C):∀ (v:ExV),(∃ p,exOk p v=true)→EW C A b v:=by
 refine ExV.rec_ fun v ih ⟨p,m⟩ A' B x t K hx hA hW o k=>?_
 have M:∀ w ∈ v.a,EW C A b w:=fun w hw=>ih w hw ⟨p,QsX m w hw⟩
 have P:=hx
 obtain ⟨ek,Z,hv,hB,Q⟩:=Qdv.1 hx
 have N:=Q.len
 apply QlP
 unfold Qg3
 refine hW.box fun b1 F D z u g=>fI (g.le _ _ u) rfl ?_
 have q:=hA.trans z
 rw [ek]
 rw [QoD] at m
 refine ift.of (fun h=>?_) (fun n1=>?_)
 ·have f : v.k = 1 := by simpa using h
  rw [if_pos f] at m
  simp only [Ve] at m
  have hm:mayV v.v=true:=by have:=m.1.1; unfold litV at this; simp only [Ve] at this; exact this.2
  rw [exE1 f] at o k
  refine ⟨F,g.le,(b,0),rfl,fT u Qvf (QwF U (hv.le (q.trans g.le)) hB (fun _=>by omega) fun E H=>⟨g.le.trans H,?_⟩)⟩
  rw [if_pos hm]
  exact (g.up H).str (by omega) fun j d=>⟨d.le,k j (d.down z)⟩
 have n1:v.k≠1:=by simpa using n1
 rw [if_neg n1,Ve,Ve] at m
 have J:=m.1.1
 refine ift.of (fun h=>?_) (fun n2=>?_)
 ·have f : v.k = 2 := by simpa using h
  rw [exE2 f] at o k
  refine ⟨F,g.le,(b,0),rfl,fS u rfl ?_⟩
  rw [Z.1]
  exact g.str (by omega) fun j d=>⟨d.le,k j (d.down z)⟩
 refine ift.of (fun h=>?_) (fun n3=>?_)
 ·have f : v.k = 3 := by simpa using h
  rw [exE3 f] at o k
  exact ⟨(b,0),rfl,g.byte (c:=95) rfl (by simpa using o) fun j d=>k j (d.down z)⟩
 refine ift.of (fun h=>?_) (fun n4=>?_)
 ·have f : v.k = 4 := by simpa using h
  rw [exE4 f] at o k
  simp only [Va,Vd,Vk] at o
  exact fL (g.le _ _ u) rfl (brE Q M q g (by omega) fun j d=>k j (d.down z))
 refine ift.of (fun h=>?_) (fun n5=>?_)
 ·have f : v.k = 5 := by simpa using h
  rw [exE5 f] at o k
  simp only [Va] at o
  refine ⟨F,g.le,(b,0),rfl,fS u rfl ?_⟩
  rw [Z.1]
  refine g.str (by omega) fun j d=>⟨d.le,fL (d.le _ _ u) rfl ?_⟩
  rw [N]
  refine ift.of (fun h=>?_) (fun h=>?_)
  ·have h0 : ¬ v.a.length = 0 := by have := Vb h; omega
   rw [if_neg h0] at o k
   simp only [Va,Vd,Vk] at o
   refine fL (d.le _ _ u) rfl (brE Q M q d (by simp only [Va]; omega) fun Y R=>k Y ?_)
   rw [← List.append_assoc]; exact R.down z
  ·have h0 : v.a.length = 0 := by have := Vc h; omega
   rw [if_pos h0,List.append_nil] at k
   exact k j (d.down z)
 refine ift.of (fun h=>?_) (fun n6=>?_)
 ·have f : v.k = 6 := by simpa using h
  exact bxT (g.le _ _ u) (QwN f M P q g o fun j d=>k j (d.down z))
 refine ift.of (fun h=>?_) (fun n7=>?_)
 ·have f : v.k = 7 := by simpa using h
  rw [f,exN7] at J
  simp only [Ve,Vj] at J
  exact bxT (g.le _ _ u) (QvG f J.2 M P q g o fun j d=>k j (d.down z))
 refine ift.of (fun h=>?_) (fun n8=>?_)
 ·have f : v.k = 8 := by simpa using h
  rw [f,exN8] at J
  simp only [Ve,Vj] at J
  have b2:v.a.length=3:=J.2
  rw [exE8 f] at o k
  simp only [Va,Vd,Vk] at o
  refine g.box fun L F2 D2 I S T=>?_
  have h1':=I _ _ u
  have G:=q.trans I
  refine ⟨fun y E=>∃ i:Nat,y=(i:Int)∧i≤3∧Ww F2 E b (t++exsT ifSep 0 (v.a.take i)),fun y _=>3 - y.toNat,⟨0,rfl,by omega,by simpa [exsT] using T⟩,?_⟩
  rintro _ E ⟨i,rfl,hi,H⟩
  refine ift.of (fun h=>?_) (fun h=>?_)
  ·have X : i < 3 := by have := Vb h; simp only [Sl.of] at this; omega
   have r:i < v.a.length:=by omega
   have hp:=QvF (sep:=ifSep) v.a (i+1)
   have O:=Qus (sep:=ifSep) r
   rw [O] at hp
   simp only [Va] at hp
   refine ⟨(L,0),rfl,rfl,by omega,by simp only [Sl.of]; omega,ifSep i,?_,?_⟩
   ·show rd E (L,0+(i:Int).toNat*1)=_
    rw [Qaq (H.le _ _ S),show 0+(i:Int).toNat*1=i by omega]
    match i,X with
    | 0,_=>rfl
    | 1,_=>rfl
    | 2,_=>rfl
   refine ⟨(b,0),rfl,H.str (by simp only [Va]; omega) fun j d=>fL (d.le _ _ h1') rfl ?_⟩
   refine SlIs.ld Q (G.trans d.le) QbA (by omega) rfl r fun y hy=>?_
   refine M _ (Vg r) hy G d (by simp only [Va]; omega) fun Y R=>?_
   rw [Qu (by omega) (by omega)]
   refine ⟨⟨i+1,by omega,by omega,?_⟩,by first | omega | (dsimp only; omega)⟩
   rw [O]; simpa using R
  ·have W : i = 3 := by have := Vc h; simp only [Sl.of] at this; omega
   subst W
   rw [List.take_of_length_le (by omega)] at H
   refine ⟨(b,0),rfl,H.byte (c:=41) rfl (by simp only [Va]; omega) fun j d=>k j ?_⟩
   rw [← List.append_assoc]; exact (d.down I).down z
 ·exfalso
  rcases Qum n1 J with e | e | e | e | e | e | e
  ·rw [e] at n2; cases n2
  ·rw [e] at n3; cases n3
  ·rw [e] at n4; cases n4
  ·rw [e] at n5; cases n5
  ·rw [e] at n6; cases n6
  ·rw [e] at n7; cases n7
  ·rw [e] at n8; cases n8
end
end
section
open Go Go.Proofs
section
variable {C:Ctx} {A H:Heap} {b:Nat}
theorem fP0 {c:Nat} {m:Bool} {q:Option (Nat×Nat)} {K:Option (Nat×Nat)→Prop} (h:H c=some (m,.row [pv q])) (k:K q):ldP H (c,0) K:=⟨q,by rw [Qaq h]; rfl,k⟩
theorem jS {R:Str→HP} {body:(Str→HP)→Prop} (v:Str) (H0:Heap) (d:body (fun b E=>E=H0∧b=v)) (f:R v H0):jn (α:=Str) R body:=⟨fun b E=>E=H0∧b=v,d,by rintro _ _ ⟨rfl,rfl⟩; exact f⟩
theorem Ww.byteX {B:Heap} {bs:Str} {c:UInt8} {i:Int} {K:Value→HP} (h:Ww A B b bs) (hi:i=(c.toNat:Int)) (f:bs.length+1≤140737488355328) (k:∀ D,Ww A D b (bs++[c])→(∀ c,c≠b→D c=B c)→K .nilIface D):Qp C (some (b,0)) i K B:=by
 subst hi
 exact QjK h.bl liB147 f (k _ ⟨h.le.put _ _ h.nb,h.nb,IsB.put⟩ fun c d=>Xb _ _ _ d)
theorem ews (d:FmtC C) {p:Bool} {l:List ExV} (h:exsOk p l=true):∀ w ∈ l,EW C A b w:=fun w f=>by
 rw [Qdh] at h
 exact Qvi d w ⟨p,List.all_eq_true.1 h w f⟩
theorem Qw1 (z:FmtC C) {v:LiV} (d:liOk v=true) {O B:Heap} {x:Qm} {t:Str} {K:HP} (hx:LiIs A v x) (Z:A.le O) (hW:Ww O B b t) (m:t.length+(liT v).length≤140737488355328) (k:∀ D,Ww O D b (t++liT v)→K D):QfY C (some (b,0)) x K B:=by
 obtain ⟨X,Q,L⟩:=hx
 have R:=L.len
 apply QjD
 unfold QfK
 refine hW.box fun b1 F D M G q=>fI (q.le _ _ G) rfl ?_
 have o:=Z.trans M
 rw [X]
 unfold liOk at d
 unfold liT at m k
 refine ⟨fun _ E=>Ww F E b (t++if v.k=2 then [110,111,116,32] else [])∧(v.k=1∨v.k=2),?_,?_⟩
 ·refine ift.of (fun h => ?_) (fun n2 => ?_)
  ·have g : v.k = 2 := by simpa using h
   rw [if_neg (by rw [g]; decide),if_pos g] at m
   simp only [Va,Vd,Vk] at m
   rw [if_pos g]
   exact ⟨(b,0),rfl,q.str (by simp only [Vd,Vk]; omega) fun E H=>⟨H,.inr g⟩⟩
  refine ift.of (fun h=>?_) (fun n1=>?_)
  ·have g : v.k = 1 := by simpa using h
   rw [if_neg (by rw [g]; decide),List.append_nil]
   exact ⟨q,.inl g⟩
  have S:v.k≠1:=by simpa using n1
  have T:v.k≠2:=by simpa using n2
  rw [if_neg S,if_neg T] at m k
  rw [if_neg (fun h=>h.elim S T)] at d
  refine ift.of (fun h=>?_) (fun n4=>?_)
  ·have g : v.k = 4 := by simpa using h
   rw [if_neg (by rw [g]; decide),if_pos g] at d
   simp only [Ve,Vj] at d
   have I:=d.1.2
   have h0:0 < v.a.length:=by omega
   rw [if_pos g,QqT rfl I h0] at m k
   simp only [Va,Vd,Vk] at m
   refine fS (q.le _ _ G) rfl ?_
   rw [Q.1]
   refine Xu [v.r,[32,61,32]] q (by simp; omega) fun E H=>fL (H.le _ _ G) rfl ?_
   refine SlIs.ld L (o.trans H.le) QbA (by omega) (i:=0) rfl h0 fun y hy=>?_
   refine ews z d.2 _ (Vg h0) hy o H (by simp; omega) fun J u=>k J ?_
   have:=u.down M
   simpa using this
  ·have U : v.k ≠ 4 := by simpa using n4
   by_cases m3:v.k=3
   ·rw [if_pos m3] at d
    simp only [Ve,Vj] at d
    have I:=d.1.2
    have h0:0 < v.a.length:=by omega
    rw [if_neg U] at m k
    have N:isMk v.a=decide (v.a[0].k=5):=by
     generalize v.a=l at *
     cases l with
     | nil=>simp at h0
     | cons w l=>rfl
    refine ⟨fun _ E=>K E,?_,fun _ E h=>h⟩
    refine fL (q.le _ _ G) rfl ?_
    refine SlIs.fI L (o.trans q.le) QbA (by omega) (i:=0) (j:=0) rfl h0 (f:=fun y=>y.Kind) (fun _=>rfl) fun y hy=>?_
    rw [(Qdv.1 hy).1]
    refine ift.of (fun h=>fL (q.le _ _ G) rfl ?_) (fun h=>fL (q.le _ _ G) rfl ?_)
    ·have hp : isMk v.a = true := by rw [N]; exact decide_eq_true (by simpa using h)
     rw [if_pos hp] at m k
     simp only [Va,Vd,Vk] at m
     exact brE L (ews z d.2) o q (by omega) fun J u=>k J (u.down M)
    ·have hp : ¬ isMk v.a = true := fun p => by rw [N] at p; rw [Vb p] at h; cases h
     rw [if_neg hp,QqT rfl I h0] at m k
     refine SlIs.ld L (o.trans q.le) QbA (by omega) (i:=0) rfl h0 fun y hy=>?_
     exact ews z d.2 _ (Vg h0) hy o q (by omega) fun J u=>k J (u.down M)
   ·rw [if_neg m3,if_neg U] at d; cases d
 rintro _ E ⟨H,g⟩
 rw [if_pos g] at d
 simp only [Ve] at d
 have P:t.length+((if v.k=2 then [110,111,116,32] else [])++(v.r++40::(exsT cm 0 v.a++[41]))).length≤140737488355328∧∀ D,Ww O D b (t++((if v.k=2 then [110,111,116,32] else [])++(v.r++40::(exsT cm 0 v.a++[41]))))→K D:=by
  rcases g with g | g
  ·rw [if_pos g] at m k
   rw [if_neg (by rw [g]; decide)]
   exact ⟨m,k⟩
  ·rw [if_neg (by rw [g]; decide), if_pos g] at m k
   rw [if_pos g]
   exact ⟨m,k⟩
 obtain ⟨m,k⟩:=P
 simp only [Va,Vd,Vk] at m
 refine ⟨F,H.le,(b,0),rfl,fS G rfl ?_⟩
 rw [Q.1]
 refine H.str (by simp only [Va]; omega) fun J u=>⟨u.le,fL (u.le _ _ G) rfl ?_⟩
 refine brE L (ews z d.2) o u (by simp only [Va]; omega) fun W Y=>k W ?_
 have:=Y.down M
 simpa using this
theorem QsP (g:FmtC C) {l:List LiV} {s:Sl} {d B:Heap} {t:Str} {K:HP} (m:l.all liOk=true) (x:LiL A s l) (o:A.le d) (i:Ww d B b t) (j:t.length+(boT l).length≤140737488355328) (k:∀ D,Ww d D b (t++boT l)→K D) :
 QaS C (some (b,0)) s [44,32] (.func (.func 84) (List.toArray [pv (some (b,0))]) (List.toArray []):Value) K B:=
 QtF (x.le o fun _ _ _ h=>h) i (f:=liT) (fun w z y D u Φ i q j r=>⟨_,[pv (some (b,0))],[],rfl,QfA,Qw1 g (List.all_eq_true.1 m w z) q o i j r⟩) j k
theorem QrG {v:FdV} {i B:Heap} {x:Ql} {t:Str} {K:HP} (hx:FdIs A v x) (y:A.le i) (z:Ww i B b t) (g:t.length+(fdT v).length≤140737488355328) (k:∀ D,Ww i D b (t++fdT v)→K D):Qfu C (some (b,0)) x K B:=by
 obtain ⟨o,G⟩:=hx
 apply QiN
 unfold Qfr
 refine z.box fun H F D q j d=>?_
 have m:=y.trans q
 unfold fdT at g k
 simp only [Va] at g
 refine ⟨fun _ E=>Ww F E b (t++if v.n=[] then [] else v.n++[58,32]),?_,?_⟩
 ·refine fS (d.le _ _ j) rfl ?_
  rw [o.1]
  refine ift.of (fun h=>fS (d.le _ _ j) rfl ?_) (fun h=>?_)
  ·have hn : ¬ v.n = [] := fun e => by rw [e] at h; cases h
   rw [if_neg hn] at g ⊢
   simp only [Va,Vd,Vk] at g
   rw [o.1]
   refine Xu [v.n,[58,32]] d (by simp; omega) fun E f=>?_
   simpa using f
  ·have hn : v.n = [] := by simpa using h
   rw [if_pos hn,List.append_nil]; exact d
 rintro _ E f
 refine fT (f.le _ _ j) Qr4 (Qx7 v.t G m f (by simp only [Va]; omega) fun r u=>k r ?_)
 rw [← List.append_assoc]; exact u.down q
theorem QpU {l:List FdV} {s:Sl} {d B:Heap} {t:Str} {K:HP} (q:FdL A s l) (j:A.le d) (g:Ww d B b t) (i:t.length+(fdsT l).length+2≤140737488355328) (k:∀ D,Ww d D b (t++40::(fdsT l++[41]))→K D) :
 Qaf C (some (b,0)) s (.func (.func 165) (List.toArray [pv (some (b,0))]) (List.toArray []):Value) K B:=
 Qsj (q.le j fun _ _ _ h=>h) g (f:=fdT) (fun w r y D u Φ g m i o=>⟨_,[pv (some (b,0))],[],rfl,Qfe,QrG m j g i o⟩) i k
theorem QuV {p:Bool} {B:Heap} {t:Str} {K:HP} (d:Ww A B b t) (g:t.length+(pubT p).length≤140737488355328) (k:∀ D,Ww A D b (t++pubT p)→K D):QdD C (some (b,0)) p K B:=by
 apply Ql7
 unfold Qhu
 cases p with
 | true=>exact QaK rfl ⟨(b,0),rfl,d.str g fun D f=>k D f⟩
 | false=>exact Qaw rfl (k B (by simpa [pubT] using d))
theorem Qvn {v:CnV} {q:Nat} {g B:Heap} {x:Qj} {t:Str} {K:HP} (hx:CnIs A v x) (H:A.le g) (I:Ww g B b t) (hp:g q=some (true,.row [pv (some (b,0))])) (j:t.length+(cnT v).length≤140737488355328) (k:∀ D,Ww g D b (t++cnT v)→K D):Qe7 C x (q,0) K B:=by
 obtain ⟨z,u⟩:=hx
 apply Qif
 unfold QeR
 refine I.box fun J F D i m r=>?_
 have o:=H.trans i
 have hp':=i _ _ hp
 unfold cnT at j k
 simp only [Va] at j
 refine ⟨F,r.le,fP0 hp' ⟨(b,0),rfl,fS m rfl ?_⟩⟩
 rw [z.1]
 refine r.str (by omega) fun E d=>⟨d.le,fL (d.le _ _ m) rfl ?_⟩
 rw [u.len]
 refine ift.of (fun h=>?_) (fun h=>?_)
 ·have h0 : ¬ v.f.length = 0 := by have := Vb h; omega
  rw [if_neg h0] at j k
  simp only [Va,Vd,Vk] at j
  refine fP0 (d.le _ _ hp') (fL (d.le _ _ m) rfl (fP0 (d.le _ _ hp') ?_))
  refine QpU u o d (by simp only [Va]; omega) fun y G=>k y ?_
  rw [← List.append_assoc]; exact G.down i
 ·have h0 : v.f.length = 0 := by have := Vc h; omega
  rw [if_pos h0,List.append_nil] at k
  exact k E (d.down i)
theorem QsG {v:TdV} {G B:Heap} {x:Qd} {t:Str} {K:HP} (hx:TdIs A v x) (Z:A.le G) (m:Ww G B b t) (i:t.length+(tdT v).length≤140737488355328) (k:∀ D,Ww G D b (t++tdT v)→K D):QfZ C (some (b,0)) x K B:=by
 obtain ⟨W,U,r,O⟩:=hx
 apply QjE
 unfold QfL
 refine m.box fun H F1 D1 q X M=>M.box fun b3 F D N g L=>?_
 have d:=N _ _ X
 have j:=(Z.trans q).trans N
 unfold tdT at i k
 simp only [Va,Vd,Vk] at i
 refine fP0 (L.le _ _ d) (fB (L.le _ _ g) rfl ?_)
 rw [W]
 refine QuV L (by omega) fun E1 I=>fP0 (I.le _ _ d) (fS (I.le _ _ g) rfl ?_)
 rw [U.1]
 refine Xu [[116,121,112,101,32],v.n] I (by simp only [Va]; simp; omega) fun E2 o=>?_
 refine ⟨fun _ E=>Ww F E b (t++pubT v.p++[[116,121,112,101,32],v.n].flatten++(if v.ps.length=0 then [] else 40::(jo [44,32] id 0 v.ps++[41]))),?_,?_⟩
 ·refine fL (o.le _ _ g) rfl ?_
  rw [SlIs.len r]
  refine ift.of (fun h=>?_) (fun h=>?_)
  ·have h0 : ¬ v.ps.length = 0 := by have := Vb h; omega
   rw [if_neg h0] at i ⊢
   simp only [Va,Vd,Vk] at i
   refine fP0 (o.le _ _ d) (fL (o.le _ _ g) rfl ?_)
   refine Qua (StL.le j r) o (fun w hw D u Φ m i P=>⟨_,[],[pv (some (H,0))],rfl,QeB,?_⟩) (by simp; omega) fun R z=>z
   show Qe6 C w (H,0) Φ D
   apply Qie
   unfold QeQ
   exact fP0 (m.le _ _ d) ⟨(b,0),rfl,m.str i fun D2 Y=>P D2 Y⟩
  ·have h0 : v.ps.length = 0 := by have := Vc h; omega
   rw [if_pos h0,List.append_nil]; exact o
 rintro _ R z
 refine fP0 (z.le _ _ d) ⟨(b,0),rfl,z.str (by simp only [Va,Vd,List.flatten_cons,List.flatten_nil,Vk]; omega) fun E4 J=>fP0 (J.le _ _ d) (fL (J.le _ _ g) rfl ?_)⟩
 refine QtE (O.le j fun _ _ _ h=>h) J (f:=cnT) (fun w hw y D u Φ m hR i P=>⟨_,[],[pv (some (H,0))],rfl,QeC,Qvn hR j m d i P⟩) (by simp only [Va,Vd,List.flatten_cons,List.flatten_nil,Vk]; omega) fun E5 Q=>fP0 (Q.le _ _ d) ⟨(b,0),rfl,?_⟩
 refine Q.byte (c:=10) rfl (by simp only [Va,Vd,List.flatten_cons,List.flatten_nil,Vk]; omega) fun S T=>k S ?_
 have:=(T.down N).down q
 simpa using this
theorem QtO {v:RdV} {f B:Heap} {x:Qh} {t:Str} {K:HP} (hx:RdIs A v x) (J:A.le f) (L:Ww f B b t) (r:t.length+(rdT v).length≤140737488355328) (k:∀ D,Ww f D b (t++rdT v)→K D):Qgo C (some (b,0)) x K B:=by
 obtain ⟨I,G,H,M⟩:=hx
 apply QjR
 unfold Qga
 refine L.box fun P F D q d o=>fB (o.le _ _ d) rfl ?_
 have j:=J.trans q
 rw [I]
 unfold rdT at r k
 simp only [Va,Vd,Vk] at r
 refine QuV o (by omega) fun u g=>?_
 refine jS (if v.i then [105,110,112,117,116,32] else [114,101,108,32]) u (fB (g.le _ _ d) rfl ?_) ?_
 ·rw [G]
  refine ift.of (fun h=>⟨rfl,by rw [if_pos h]⟩) (fun h=>⟨rfl,by rw [h]; rfl⟩)
 refine fS (g.le _ _ d) rfl ?_
 rw [H.1]
 refine Xu [if v.i then [105,110,112,117,116,32] else [114,101,108,32],v.n] g (by simp only [Va,List.flatten_cons,List.flatten_nil,Vk]; omega) fun N m=>fL (m.le _ _ d) rfl ?_
 refine QpU M j m (by simp only [Va,List.flatten_cons,List.flatten_nil,Vk]; omega) fun O z=>⟨(b,0),rfl,z.byte (c:=10) rfl (by simp only [Va,Vd,List.flatten_cons,List.flatten_nil,Vk]; omega) fun y E=>k y ?_⟩
 have:=E.down q
 simpa using this
def joi (f:Nat→Str):Nat→Str
 | 0=>[]
 | n+1=>joi f n++(cm n++f n)
theorem Qs8 (f:Nat→Str):∀ {n m:Nat},n≤m→(joi f n).length≤(joi f m).length
 | n,0,h=>by rw [Nat.le_zero.1 h]; exact Nat.le_refl _
 | n,m+1,h=>by
  rcases Nat.lt_or_ge n (m+1) with h1 | h1
  ·have := Qs8 f (n := n) (m := m) (by omega)
   simp only [joi,Va]; omega
  ·rw [show n=m+1 by omega]; exact Nat.le_refl _
theorem Qrp:∀ (gs:List Str) (xs:List ExV) (j:Nat) (g:Str) (x:ExV),gs.length=xs.length→agsT j (gs++[g]) (xs++[x])=agsT j gs xs++(cm (j+xs.length)++agT g x)
 | [],[],j,g,x,_=>by simp [agsT]
 | [],_::_,j,g,x,h=>by simp at h
 | _::_,[],j,g,x,h=>by simp at h
 | g'::gs,x'::xs,j,g,x,h=>by
  simp only [List.cons_append,agsT,Qrp gs xs (j+1) g x (by simpa using h),List.append_assoc,Vd]
  rw [show j+1+xs.length=j+(xs.length+1) by omega]
theorem QsJ {gs:List Str} {xs:List ExV} {f:Nat→Str} (hl:gs.length=xs.length) (hf:∀ (i:Nat) (h1:i < gs.length) (h2:i < xs.length),f i=agT gs[i] xs[i]):∀ n,n≤xs.length→joi f n=agsT 0 (gs.take n) (xs.take n)
 | 0,_=>rfl
 | n+1,h=>by
  rw [Vp,Vp,Vf (by omega),Vf (by omega),Vo,Vo,Qrp _ _ _ _ _ (by simp; omega),joi,QsJ hl hf n (by omega),hf n (by omega) (by omega),List.length_take,Nat.min_eq_left (by omega),Nat.zero_add]
theorem lsq {A B:Heap} {q:Nat} {α:Type} {R:α→Qe→Prop} {s:Sl} {l:List α} {e:Value} {f:Nat→Str} {t:Str} {K:HP} (U:SlIs R Qe.c A s l) (X:Ww A B b t) (h0:B q=some (true,.row [.int .i64 0]))
 (he:∀ (i:Nat) (hi:i < l.length) (x:Qe) (D:Heap) (u:Str) (Φ:HP),Ww A D b u→D q=some (true,.row [.int .i64 (i:Int)])→R l[i] x→u.length+(f i).length≤140737488355328→(∀ D2,Ww A D2 b (u++f i)→D2 q=some (true,.row [.int .i64 ((i+1:Nat):Int)])→Φ D2)→callU P0 C e [.agg (Qe.c x).toArray] D (fun v H31=>v=.tuple #[]∧Φ H31))
 (hl:t.length+(joi f l.length).length≤140737488355328) (k:∀ D,Ww A D b (t++joi f l.length)→K D):QaW C (some (b,0)) s [44,32] e K B:=by
 have T:q≠b:=fun M=>by
  rw [M] at h0
  rcases X.bl with h | ⟨_,h⟩
  ·rw [h] at h0; injection h0 with h0; injection h0 with _ h0; cases h0
  ·rw [h] at h0; injection h0 with h0; injection h0 with _ h0; cases h0
 apply QfW
 unfold Qdu
 have F:=SlIs.len U
 have a0:=SlIs.bd U
 refine ⟨fun y D=>∃ i:Nat,y=(i:Int)∧i≤l.length∧Ww A D b (t++joi f i)∧D q=some (true,.row [.int .i64 (i:Int)]),fun y _=>l.length - y.toNat,⟨0,rfl,Nat.zero_le _,by simpa [joi] using X,h0⟩,?_⟩
 rintro _ D ⟨i,rfl,hi,J,P⟩
 rw [F]
 refine ift.of (fun h=>?_) (fun h=>?_)
 ·have G : i < l.length := by have := Vb h; omega
  have hp:=Qs8 f (n:=i+1) (m:=l.length) (by omega)
  simp only [joi,Va] at hp
  refine SlIs.ld U J.le QbA (by omega) rfl G fun x hx=>?_
  intro d I
  refine nwT rfl ?_
  have H:=Xc I (g:=.row (Qe.c x)) (m:=true)
  have L:(D.put d (.row (Qe.c x))) d=some (true,.row (Qe.c x)):=Xa ..
  have O:=J.up H
  have r:=H _ _ P
  generalize D.put d (.row (Qe.c x))=D2 at *
  obtain ⟨W,N⟩:=O.full
  have Q:d≠b:=fun M=>by
   obtain ⟨g,hg⟩:=J.bl.some
   rw [← M,I] at hg; cases hg
  refine ⟨fun _ E=>Ww (D2.del b) E b (t++joi f i++cm i),?_,?_⟩
  ·refine ift.of (fun o => ?_) (fun o => ?_)
   ·have j : i ≠ 0 := by have := Vb o; omega
    have Y : cm i = [44, 32] := by cases i with
     | zero=>exact absurd rfl j
     | succ i=>rfl
    rw [Y] at hp ⊢
    refine ⟨_,rfl,W.str (by simp only [Va]; omega) fun E z=>z⟩
   ·have j : i = 0 := by have := Vc o; omega
    subst j
    simpa [cm] using W
  ·rintro _ E z
   have hc:E d=some (true,.row (Qe.c x)):=z.le _ _ (by rw [Xd _ Q]; exact L)
   have hq:E q=some (true,.row [.int .i64 (i:Int)]):=z.le _ _ (by rw [Xd _ T]; exact r)
   refine bxT (c:=Qe.c) hc (he i G x E _ _ (z.down N) hq hx (by simp only [Va]; omega) fun D3 Z q3=>?_)
   rw [Qu (by omega) (by omega)]
   refine ⟨⟨i+1,by omega,by omega,?_,q3⟩,by first | omega | (dsimp only; omega)⟩
   simp only [joi]
   simpa using Z
 ·have S : i = l.length := by have := Vc h; omega
  subst S
  exact k D J
theorem QvW {o D:Heap} {w:ExV} {y:Qe} {T b3 q i:Nat} {gs:List Str} {r:Qi} {u:Str} {K:HP} (he:EW C A b w) (hy:ExIs A w y) (O:A.le o) (Q:Ww o D b u) (d:D q=some (true,.row [.int .i64 (i:Int)])) (P:o q=none)
 (h1:o T=some (true,.row [pv (some (b,0))])) (h3:o b3=some (true,.row (Qi.c r))) (hg:StL A r.Aggs gs) (hi:i < gs.length) (I:u.length+(agT gs[i] w).length≤140737488355328)
 (k:∀ D2,Ww o D2 b (u++agT gs[i] w)→D2 q=some (true,.row [.int .i64 ((i+1:Nat):Int)])→K D2):QdS C y (b3,0) (q,0) (T,0) K D:=by
 have E:q≠b:=fun L=>by
  rw [L] at d
  rcases Q.bl with h | ⟨_,h⟩
  ·rw [h] at d; injection d with h0; injection h0 with _ h0; cases h0
  ·rw [h] at d; injection d with h0; injection h0 with _ h0; cases h0
 have a7:=SlIs.bd hg
 apply QjS
 unfold Qgb
 intro t F
 have l4:=Xc F (g:=.row (Qe.c y)) (m:=true)
 have c4:(D.put t (.row (Qe.c y))) t=some (true,.row (Qe.c y)):=Xa ..
 have j:=Q.up l4
 have x:=l4 _ _ d
 have N:t≠q:=fun e=>by rw [e,d] at F; cases F
 have S:t≠b:=fun L=>by
  obtain ⟨g,hg⟩:=Q.bl.some
  rw [L,hg] at F; cases F
 generalize D.put t (.row (Qe.c y))=D2 at *
 refine fL (j.le _ _ h3) rfl ⟨(i:Int),by rw [Qaq x]; rfl,?_⟩
 refine SlIs.at_ hg (O.trans j.le) (z:=1) (fun _=>rfl) (by omega) rfl hi fun p z hz hr=>⟨z,hr 0 _ rfl,⟨(i:Int),by rw [Qaq x]; rfl,?_⟩⟩
 rw [hz.1]
 dsimp only
 rw [Qu (by omega) (by omega)]
 refine ⟨_,x,Nat.zero_lt_one,?_⟩
 dsimp only
 have R:Ww o (D2.put q (.row [.int .i64 ((i+1:Nat):Int)])) b u:=⟨j.le.put _ _ P,j.nb,by
  have:=j.bl
  unfold IsB at this ⊢
  rw [Xb _ _ _ (Ne.symm E)]; exact this⟩
 have q3:(D2.put q (.row [.int .i64 ((i+1:Nat):Int)])) q=some (true,.row [.int .i64 ((i+1:Nat):Int)]):=Xa ..
 have J:(D2.put q (.row [.int .i64 ((i+1:Nat):Int)])) t=some (true,.row (Qe.c y)):=by rw [Xb _ _ _ N]; exact c4
 rw [show (List.set [Value.int .i64 (i:Int)] 0 (.int .i64 ((i:Int)+1)))=[.int .i64 ((i+1:Nat):Int)] from by simp]
 generalize D2.put q (.row [.int .i64 ((i+1:Nat):Int)])=D3 at *
 obtain ⟨B,f⟩:=R.full
 have Y:(D3.del b) q=some (true,.row [.int .i64 ((i+1:Nat):Int)]):=by rw [Xd _ E]; exact q3
 have X:(D3.del b) t=some (true,.row (Qe.c y)):=by rw [Xd _ S]; exact J
 generalize D3.del b=G at *
 have H:=f _ _ h1
 unfold agT at I k
 refine ift.of (fun h=>?_) (fun h=>?_)
 ·have h0 : gs[i] = [] := by simpa using h
  rw [if_pos h0] at I k
  refine fP0 (B.le _ _ H) (bxT (B.le _ _ X) (he hy (O.trans f) B (by omega) fun D4 Z=>k D4 (Z.down f) (Z.le _ _ Y)))
 ·have h0 : ¬ gs[i] = [] := fun e => by rw [e] at h; cases h
  rw [if_neg h0] at I k
  simp only [Va,Vd,Vk] at I
  refine fP0 (B.le _ _ H) (Xu [gs[i],[40]] B (by simp; omega) fun E2 M=>fP0 (M.le _ _ H) (bxT (M.le _ _ X) ?_))
  refine he hy (O.trans f) M (by simp; omega) fun E3 U=>fP0 (U.le _ _ H) ⟨(b,0),rfl,U.byte (c:=41) rfl (by simp; omega) fun E4 W=>k E4 ?_ (W.le _ _ Y)⟩
  have:=W.down f
  simpa using this
theorem QvX (J:FmtC C) {v:RuV} (H:ruOk v=true) {P B:Heap} {x:Qi} {t:Str} {K:HP} (hx:RuIs A v x) (hA:A.le P) (X:Ww P B b t) (G:t.length+(ruT v).length≤140737488355328) (k:∀ D,Ww P D b (t++ruT v)→K D):Qhj C (some (b,0)) x K B:=by
 obtain ⟨en,ha,hg,hb⟩:=hx
 unfold ruOk at H
 simp only [Ve,Vj] at H
 obtain ⟨⟨⟨⟨⟨o1,o2⟩,o3⟩,o4⟩,o5⟩,o6⟩:=H
 apply QlQ
 unfold Qg4
 refine X.box fun b1 F1 D1 I S T=>T.box fun b3 F D U j hD=>?_
 have d:=U _ _ S
 have o:=(hA.trans I).trans U
 unfold ruT at G k
 simp only [Va,Vd,Vk] at G
 refine ⟨F,hD.le,fP0 d ⟨(b,0),rfl,fS j rfl ?_⟩⟩
 rw [en.1]
 refine hD.str (by omega) fun E1 M=>⟨M.le,?_⟩
 intro q O
 have Y:q≠b:=fun e'=>by
  obtain ⟨g,hg⟩:=M.bl.some
  rw [e',hg] at O; cases O
 have W:=M.le.none O
 refine ⟨_,Xa ..,Nat.zero_lt_one,?_⟩
 dsimp only
 rw [Xh]
 have Q:Ww F (E1.put q (.row [.int .i64 0])) b (t++v.r):=M.up (Xc O)
 have q2:(E1.put q (.row [.int .i64 0])) q=some (true,.row [.int .i64 0]):=Xa ..
 rw [show List.set [Value.int .i64 0] 0 (.int .i64 0)=[.int .i64 0] from rfl]
 generalize E1.put q (.row [.int .i64 0])=E2 at *
 refine fP0 (Q.le _ _ d) (fL (Q.le _ _ j) rfl ?_)
 apply QdW
 unfold Qb2
 have z:=QsJ (gs:=v.g) (xs:=v.a) (f:=fun i=>if h:i < v.g.length∧i < v.a.length then agT v.g[i] v.a[i] else []) o3 (fun i S h2=>dif_pos ⟨S,h2⟩) v.a.length (Nat.le_refl _)
 rw [Vl,List.take_of_length_le (by omega)] at z
 refine ⟨(b,0),rfl,Q.byteX (c:=40) rfl (by simp only [Va]; omega) fun E3 e3 Z=>?_⟩
 refine lsq (f:=fun i=>if h:i < v.g.length∧i < v.a.length then agT v.g[i] v.a[i] else []) (ha.le o fun _ _ _ h=>h) e3 (by rw [Z _ Y]; exact q2) (fun i hi y D u Φ X hq hR G hk=>?_) (by rw [z]; simp only [Va,Vd,Vk]; omega) fun E4 e4=>?_
 ·have L : i < v.g.length := by omega
  rw [dif_pos ⟨L,hi⟩] at G hk
  refine ⟨_,[],[pv (some (b3,0)),pv (some (q,0)),pv (some (b1,0))],rfl,Qf3,?_⟩
  show QdS C y (b3,0) (q,0) (b1,0) Φ D
  exact QvW (ews J o4 _ (Vg hi)) hR o X hq W d j hg L G hk
 rw [z] at e4
 refine ⟨(b,0),rfl,e4.byte (c:=41) rfl (by simp only [Va,Vd,Vk]; omega) fun E5 N=>?_⟩
 refine ⟨fun _ E=>Ww F E b (t++v.r++[40]++agsT 0 v.g v.a++[41]++(if v.b.length=0 then [] else [32,58,45,32]++boT v.b)),?_,?_⟩
 ·refine fL (N.le _ _ j) rfl ?_
  rw [hb.len]
  refine ift.of (fun h=>?_) (fun h=>?_)
  ·have h0 : ¬ v.b.length = 0 := by have := Vb h; omega
   rw [if_neg h0] at G ⊢
   simp only [Va,Vd,Vk] at G
   refine fP0 (N.le _ _ d) ⟨(b,0),rfl,N.str (by simp only [Va,Vd,Vk]; omega) fun E6 m=>fP0 (m.le _ _ d) (fL (m.le _ _ j) rfl (fP0 (m.le _ _ d) ?_))⟩
   refine QsP J o5 hb o m (by simp only [Va,Vd,Vk]; omega) fun E7 R=>?_
   simpa using R
  ·have h0 : v.b.length = 0 := by have := Vc h; omega
   rw [if_pos h0,List.append_nil]; exact N
 rintro _ E6 m
 refine fP0 (m.le _ _ d) ⟨(b,0),rfl,m.str (by simp only [Va,Vd,Vk]; omega) fun E7 R=>k E7 ?_⟩
 have:=(R.down U).down I
 simpa using this
end
end
section
open Go Go.Proofs
theorem Qwm {α:Type} (f:α→Str):∀ (i:Nat) (l:List α),jo [] f i l=(l.map f).flatten
 | i,[]=>rfl
 | i,v::l=>by simp only [jo,Qwm f (i+1) l,List.map_cons,List.flatten_cons,ite_self,List.nil_append]
theorem Qwq (m:MoV):moT m=hdT m.n++(jo [] imT 0 m.im++(jo [] tdT 0 m.ty++(jo [] rdT 0 m.re++(jo [] ruT 0 m.ru++jo [] neT 0 m.ne)))):=by
 unfold moT moL
 simp only [List.flatten_cons,List.flatten_append,Qwm]
section
variable {C:Ctx} {A H:Heap} {b:Nat}
theorem QuT {v:Str} {g:Nat} {d B:Heap} {x:Qq} {t:Str} {K:HP} (hx:ImIs v x) (o:Ww d B b t) (hp:d g=some (true,.row [pv (some (b,0))])) (i:t.length+(imT v).length≤140737488355328) (k:∀ D,Ww d D b (t++imT v)→K D):Qk6 C x (g,0) K B:=by
 apply Qoo
 unfold QkE
 refine o.box fun q F D h j f=>?_
 unfold imT at i k
 simp only [Va,Vd,Vk] at i
 refine fP0 (f.le _ _ (h _ _ hp)) (fS (f.le _ _ j) rfl ?_)
 rw [hx.1]
 refine Xu [[105,109,112,111,114,116,32],v,[10]] f (by simp; omega) fun E m=>k E ?_
 have:=m.down h
 simpa using this
theorem QuU (j:FmtC C) {v:NeV} (d:neOk v=true) {m:Nat} {f B:Heap} {x:Qo} {t:Str} {K:HP} (hx:NeIs A v x) (z:A.le f) (G:Ww f B b t) (hp:f m=some (true,.row [pv (some (b,0))])) (r:t.length+(neT v).length≤140737488355328) (k:∀ D,Ww f D b (t++neT v)→K D):Qk7 C x (m,0) K B:=by
 unfold neOk at d
 simp only [Ve] at d
 apply Qop
 unfold QkF
 refine G.box fun I F D i q h=>?_
 have hp':=i _ _ hp
 unfold neT at r k
 simp only [Va,Vd,Vk] at r
 refine fP0 (h.le _ _ hp') (fS (h.le _ _ q) rfl ?_)
 rw [hx.1.1]
 refine Xu [[110,101,118,101,114,32],v.n,[32,58,45,32]] h (by simp; omega) fun E g=>?_
 refine fP0 (g.le _ _ hp') (fL (g.le _ _ q) rfl (fP0 (g.le _ _ hp') ?_))
 refine QsP j d.2 hx.2 (z.trans i) g (by simp; omega) fun H o=>fP0 (o.le _ _ hp') ⟨(b,0),rfl,?_⟩
 refine o.str (by simp; omega) fun u y=>k u ?_
 have:=y.down i
 simpa using this
theorem Qvk (hT:MaxC C) (G:FmtC C) {v:MoV} {x:Qa} {K:Str→Int→HP} (hx:MoIs A v x) (Y:A.le H) (hb:moD v≤4611686018427387904) (i:moC v=0→(moT v).length≤140737488355328) (k:∀ D,H.le D→K (if moC v=0 then moT v else []) (moC v) D):QjW C x K H:=by
 apply QqB
 unfold QmQ
 refine box1 fun b1 H2 hle X=>bxT X (QsI hT hx (Y.trans hle) hb ?_)
 refine ift.of (fun h=>?_) (fun h=>?_)
 ·have o : ¬ moC v = 0 := by simpa using h
  have:=k H2 hle
  rw [if_neg o] at this; exact this
 have o:moC v=0:=by simpa using h
 have i:=i o
 have k:=fun D hD=>k D hD
 rw [if_pos o,o] at k
 have z:moOk v=true:=by
  unfold moC at o
  split at o
  ·cases o
  ·split at o
   ·cases o
   ·rename_i h2; simpa using h2
 obtain ⟨en,R,W,T,U,S⟩:=hx
 unfold moOk at z
 simp only [Ve] at z
 obtain ⟨⟨⟨⟨⟨o1,o2⟩,o3⟩,o4⟩,o5⟩,o6⟩:=z
 rw [Qwq] at i k
 simp only [Va] at i
 intro b n8
 have I:Ww H2 (H2.put b (.trow 147 0 [pv none,slv Sl.nil])) b []:=⟨Xc n8,n8,IsB.new⟩
 generalize H2.put b (.trow 147 0 [pv none,slv Sl.nil])=D0 at *
 intro j B
 refine ⟨_,Xa ..,Nat.zero_lt_one,?_⟩
 dsimp only
 rw [Xh,show List.set [pv none] 0 (pv (some (b,0)))=[pv (some (b,0))] from rfl]
 have Q:j≠b:=fun e'=>by
  obtain ⟨g,hg⟩:=I.bl.some
  rw [e',hg] at B; cases B
 obtain ⟨m,t⟩:=(I.up (Xc B (g:=.row [pv (some (b,0))]))).full
 have hp:((D0.put j (.row [pv (some (b,0))])).del b) j=some (true,.row [pv (some (b,0))]):=by rw [Xd _ Q]; exact Xa ..
 generalize D0.put j (.row [pv (some (b,0))])=D1 at *
 generalize D1.del b=F at *
 have h1':=t _ _ X
 have d:=(Y.trans hle).trans t
 refine fP0 (m.le _ _ hp) (fS (m.le _ _ h1') rfl ?_)
 rw [en.1]
 have Z:[[109,111,100,117,108,101,32],v.n,[10]].flatten=hdT v.n:=by simp [hdT]
 refine Xu [[109,111,100,117,108,101,32],v.n,[10]] m (by rw [Z]; simp only [Vk]; omega) fun E1 J=>?_
 rw [Z,List.nil_append] at J
 refine fP0 (J.le _ _ hp) (fL (J.le _ _ h1') rfl ?_)
 refine QuH (R.le d fun _ _ _ h=>h) J (f:=imT) (fun w E y D u Φ m q i r=>⟨_,[],[pv (some (j,0))],rfl,Qki,QuT q m hp i r⟩) (by omega) fun E2 L=>?_
 refine fP0 (L.le _ _ hp) (fL (L.le _ _ h1') rfl (fP0 (L.le _ _ hp) ?_))
 refine QtG (W.le d fun _ _ _ h=>h) L (f:=tdT) (fun w E y D u Φ m q i r=>⟨_,[pv (some (b,0))],[],rfl,QfB,QsG q d m i r⟩) (by simp only [Va]; omega) fun E3 M=>?_
 refine fP0 (M.le _ _ hp) (fL (M.le _ _ h1') rfl (fP0 (M.le _ _ hp) ?_))
 refine QuI (T.le d fun _ _ _ h=>h) M (f:=rdT) (fun w E y D u Φ m q i r=>⟨_,[pv (some (b,0))],[],rfl,Qf2,QtO q d m i r⟩) (by simp only [Va]; omega) fun E4 N=>?_
 refine fP0 (N.le _ _ hp) (fL (N.le _ _ h1') rfl (fP0 (N.le _ _ hp) ?_))
 refine Qw4 (U.le d fun _ _ _ h=>h) N (f:=ruT) (fun w E y D u Φ m q i r=>⟨_,[pv (some (b,0))],[],rfl,QgY,QvX G (List.all_eq_true.1 o5 w E) q d m i r⟩) (by simp only [Va]; omega) fun E5 P=>?_
 refine fP0 (P.le _ _ hp) (fL (P.le _ _ h1') rfl ?_)
 refine QvJ (S.le d fun _ _ _ h=>h) P (f:=neT) (fun w E y D u Φ m q i r=>⟨_,[],[pv (some (j,0))],rfl,Qkj,QuU G (List.all_eq_true.1 o6 w E) q d m hp i r⟩) (by simp only [Va]; omega) fun E6 O=>?_
 refine fP0 (O.le _ _ hp) ⟨(b,0),rfl,Qrf O.bl liB147 (by simp only [Va]; omega) ?_⟩
 have:=k (E6.put b (.bld tyW tyE (hdT v.n++jo [] imT 0 v.im++jo [] tdT 0 v.ty++jo [] rdT 0 v.re++jo [] ruT 0 v.ru++jo [] neT 0 v.ne))) ((hle.trans t).trans (O.le.put _ _ O.nb))
 simpa only [List.append_assoc] using this
end
end
section
open Go Go.Proofs
def sL {α:Type} (f:α→Nat):List α→Nat
 | []=>0
 | v::l=>f v+sL f l
theorem Qr0 {α:Type} (f:α→Nat):∀ (a b:List α),sL f (a++b)=sL f a+sL f b
 | [],b=>by simp [sL]
 | v::a,b=>by simp only [List.cons_append,sL,Qr0 f a b]; omega
theorem Qxp {α:Type} {f:α→Nat} {l:List α} {i:Nat} (h:i < l.length):sL f (l.take (i+1))=sL f (l.take i)+f l[i]:=by
 rw [Vp,Vf h,Vo,Qr0]; simp [sL]
theorem Qi8 {α:Type} {f g:α→Nat} {l:List α} (h:∀ v ∈ l,f v≤g v):sL f l≤sL g l:=by
 induction l with
 | nil=>exact Nat.le_refl _
 | cons v l d=>
  simp only [sL]
  have:=h v (List.mem_cons_self ..)
  have:=d fun w b=>h w (List.mem_cons_of_mem _ b)
  omega
theorem Qkq {α : Type} (c : Nat) (f : α → Nat) : ∀ l : List α, sL (fun v => c * f v) l = c * sL f l
 | []=>rfl
 | v::l=>by simp only [sL,Qkq c f l,Nat.mul_add]
theorem Qo5 {α : Type} : ∀ l : List α, sL (fun _ => 1) l = l.length
 | []=>rfl
 | v::l=>by simp only [sL,Qo5 l,Vd]; omega
theorem Qkb {α:Type} {f g:α→Nat} {l:List α} (h:∀ v ∈ l,f v≤g v):mxL f l≤sL g l:=by
 induction l with
 | nil=>exact Nat.le_refl _
 | cons v l d=>
  simp only [sL,mxL]
  have:=h v (List.mem_cons_self ..)
  have:=d fun w b=>h w (List.mem_cons_of_mem _ b)
  omega
mutual
def tySz:TyV→Nat
 | .mk _ a=>tysSz a+1
def tysSz:List TyV→Nat
 | []=>0
 | v::l=>tySz v+tysSz l
end
mutual
def exSz:ExV→Nat
 | .mk _ _ _ a=>exsSz a+1
def exsSz:List ExV→Nat
 | []=>0
 | v::l=>exSz v+exsSz l
end
theorem Qre (v:TyV):tySz v=sL tySz v.a+1:=by
 obtain ⟨n,a⟩:=v
 have:∀ l,tysSz l=sL tySz l:=fun l=>by
  induction l with
  | nil=>rfl
  | cons v l b=>simp only [tysSz,sL,b]
 simp only [tySz,TyV.a,this]
theorem QqO (v:ExV):exSz v=sL exSz v.a+1:=by
 obtain ⟨k,n,u,a⟩:=v
 have:∀ l,exsSz l=sL exSz l:=fun l=>by
  induction l with
  | nil=>rfl
  | cons v l b=>simp only [exsSz,sL,b]
 simp only [exSz,ExV.a,this]
def fdsSz (l:List FdV):Nat:=sL (fun f=>tySz f.t) l
def liSz (x:LiV):Nat:=sL exSz x.a+1
def cnSz (c:CnV):Nat:=fdsSz c.f+1
def tdSz (t:TdV):Nat:=sL cnSz t.cs+t.ps.length+1
def rdSz (r:RdV):Nat:=fdsSz r.f+1
def ruSz (r:RuV):Nat:=sL exSz r.a+sL liSz r.b+1
def neSz (n:NeV):Nat:=sL liSz n.b+1
def moSz (m:MoV):Nat:=m.im.length+sL tdSz m.ty+sL rdSz m.re+sL ruSz m.ru+sL neSz m.ne
theorem Qx3:∀ v,tyD v≤tySz v:=by
 refine TyV.rec_ fun v b=>?_
 rw [Qvc,Qre]
 have:=Qkb b
 omega
theorem Qwi:∀ v,exD v≤exSz v:=by
 refine ExV.rec_ fun v b=>?_
 rw [Qul,QqO]
 have:=Qkb b
 omega
theorem Qut (l:List FdV):fdsD l≤fdsSz l:=Qkb fun v _=>Qx3 v.t
theorem QxR (x:LiV):liD x≤liSz x:=by
 unfold liD liSz
 rw [QlS]
 have:=Qkb (l:=x.a) fun v _=>Qwi v
 omega
theorem QxT (m:MoV):moD m≤moSz m:=by
 unfold moD moSz
 have h:mxL tdD m.ty≤sL tdSz m.ty:=Qkb fun t _=>by
  unfold tdD tdSz
  have:=Qkb (f:=fun c:CnV=>fdsD c.f) (g:=cnSz) (l:=t.cs) fun c _=>by unfold cnSz; have:=Qut c.f; omega
  omega
 have i:mxL (fun r:RdV=>fdsD r.f) m.re≤sL rdSz m.re:=Qkb fun r _=>by unfold rdSz; have:=Qut r.f; omega
 have d:∀ l:List LiV,lisD l≤sL liSz l:=fun l=>Qkb fun x _=>QxR x
 have j:mxL ruD m.ru≤sL ruSz m.ru:=Qkb fun r _=>by
  unfold ruD ruSz
  rw [QlS]
  have:=Qkb (l:=r.a) fun v _=>Qwi v
  have:=d r.b
  omega
 have o:mxL (fun n:NeV=>lisD n.b) m.ne≤sL neSz m.ne:=Qkb fun n _=>by unfold neSz; have:=d n.b; omega
 omega
theorem QoP {α : Type} {sep : Str} {f : α → Str} : ∀ (i : Nat) (l : List α), (jo sep f i l).length ≤ sL (fun v => (f v).length + sep.length) l
 | i,[]=>Nat.le_refl _
 | i,v::l=>by
  have:=QoP (sep:=sep) (f:=f) (i+1) l
  simp only [jo,sL,Va]
  by_cases h:i=0
  ·rw [if_pos h]; simp only [Vk]; omega
  ·rw [if_neg h]; omega
theorem QqS {sep : Nat → Str} (b : ∀ i, (sep i).length ≤ 6) : ∀ (i : Nat) (l : List ExV), (exsT sep i l).length ≤ sL (fun v => (exT v).length + 6) l
 | i,[]=>Nat.le_refl _
 | i,v::l=>by
  have:=QqS b (i+1) l
  have:=b i
  simp only [exsT,sL,Va]; omega
theorem Qgj {s:Str} (h:namS s=true):s.length≤32:=by
 unfold namS nameS at h
 simp only [Ve,Vj] at h
 exact h.1.1.1.2
theorem Qn4 {s:Str} (h:longS s=true):s.length≤65:=by
 unfold longS at h
 by_cases hm:(46:UInt8) ∈ s
 ·obtain ⟨a,b,d,f⟩:=Qn0 s hm
  rw [d,Qj3 a b f] at h
  simp only [Ve] at h
  have:=Qgj h.1
  have:=Qgj h.2
  rw [d]; simp only [Va,Vd]; omega
 ·rw [Qj4 s hm] at h
  have:=Qgj h; omega
theorem QuQ {s:Str} (h:parS s=true):s.length≤33:=by
 cases s with
 | nil=>simp
 | cons c t=>
  simp only [parS,Ve] at h
  have:=Qgj h.2
  simp only [Vd]; omega
theorem Qvg {s:Str} (h:varS s=true):s.length≤32:=by
 unfold varS at h
 simp only [Ve,Vj] at h
 exact h.1.1.2
theorem QxW {s:Str} (h:0 < arS s):s.length≤3:=by
 unfold arS at h
 split at h
 ·rename_i b
  have b:=List.contains_iff_mem.1 b
  revert b
  have:∀ w ∈ opsW,w.length≤3:=by decide
  exact this s
 ·split at h
  ·rename_i b
   rcases b with b | b
   ·rw [b]; decide
   ·unfold funB at b
    rcases Vb b with b | b | b | b <;> rw [b] <;> decide
  ·omega
theorem QxD {s:Str} (h:agOk s=true):s.length≤5:=by
 rcases Vb h with h | h | h | h | h <;> rw [h] <;> decide
theorem Qxt {n:Str} {m:Nat} (h:tyN n m=true):n.length≤65:=by
 unfold tyN at h
 split at h
 ·rename_i b; rcases b with b | b | b | b <;> rw [b] <;> decide
 ·split at h
  ·rename_i b; rw [b]; decide
  ·simp only [Bool.or_eq_true,Ve] at h
   rcases h with h | h
   ·have:=QuQ h.1; omega
   ·exact Qn4 h.1
theorem Qxv:∀ v,tyOk v=true→(tyT v).length+2≤100*tySz v:=by
 refine TyV.rec_ fun v f h=>?_
 rw [QsF,Ve,List.all_eq_true] at h
 have d:=Qxt h.1
 have g:(jo [44,32] tyT 0 v.a).length≤100*sL tySz v.a:=by
  refine Nat.le_trans (QoP 0 v.a) ?_
  rw [← Qkq]
  exact Qi8 fun w b=>f w b (h.2 w b)
 rw [QwC,Qre]
 simp only [Va]
 have i:(if v.n=tupS then ([]:Str) else v.n).length≤65:=by split <;> first | exact d | simp
 have j:(if v.n=tupS∨0 < v.a.length then 40::(jo [44,32] tyT 0 v.a++[41]) else []).length≤(jo [44,32] tyT 0 v.a).length+2:=by split <;> simp
 omega
theorem QsZ {d:Bool} {l:List FdV} (h:∀ f ∈ l,fdOk d f=true):(fdsT l).length≤100*(fdsSz l+l.length):=by
 unfold fdsT fdsSz
 refine Nat.le_trans (QoP 0 l) ?_
 rw [Nat.mul_add,← Qkq,← Qo5 l,← Qkq]
 have:∀ l:List FdV,(∀ f ∈ l,fdOk d f=true)→sL (fun v=>(fdT v).length+([44,32]:Str).length) l≤sL (fun v=>100*tySz v.t) l+sL (fun _=>100*1) l:=by
  intro l
  induction l with
  | nil=>intro _; exact Nat.le_refl _
  | cons f l j=>
   intro h
   have b:=h f (List.mem_cons_self ..)
   have g:=j fun w i=>h w (List.mem_cons_of_mem _ i)
   unfold fdOk at b
   simp only [Ve,Bool.or_eq_true] at b
   have m:=Qxv f.t b.2
   have o:f.n.length≤32:=by
    rcases b.1 with b | b
    ·exact Qgj b
    ·rw [List.isEmpty_iff.1 b.2]; simp
   simp only [sL]
   have q:(fdT f).length≤f.n.length+2+(tyT f.t).length:=by
    unfold fdT
    simp only [Va]
    split <;> simp
   simp only [Vd,Vk] at g ⊢
   omega
 exact this l h
theorem Qv9 (v:TyV):1≤tySz v:=by rw [Qre]; omega
theorem Quu (l:List FdV):l.length≤fdsSz l:=by
 rw [← Qo5 l]; exact Qi8 fun v _=>Qv9 v.t
theorem QuN (i:Nat):(noSep i).length≤6:=by simp [noSep]
theorem Qrt (i:Nat):(cm i).length≤6:=by cases i <;> simp [cm]
theorem QxQ (i:Nat):(ifSep i).length≤6:=by
 match i with
 | 0=>simp [ifSep]
 | 1=>simp [ifSep]
 | i+2=>simp [ifSep]
section
variable {A:Heap}
theorem Qw2 {v:V} (f:VB v) (h:litV v=true):(showV v).length≤17000:=by
 unfold litV at h
 simp only [Ve,Vj] at h
 have hm:=(Qs9 v).1 h.2
 have:=Qu4 v f hm.2.1 hm.2.2
 have d:v.l=[]:=by
  rcases (Qq8 hm.2.1).2 with b | b | b | b | b | b
  ·exact b.2.2.2
  ·exact b.2.2
  ·exact b.2.2.2
  ·exact b.2.2
  ·exfalso; have:=b.1; omega
  ·exfalso; have:=b.1; omega
 have g:vsize v=1:=by
  obtain ⟨k,n,s,l⟩:=v
  have d:l=[]:=d
  subst d; rfl
 rw [g] at this; omega
theorem Qup {p:Bool}:∀ v:ExV,∀ x,ExIs A v x→exOk p v=true→(exT v).length+6≤18000*exSz v:=by
 refine ExV.rec_ fun v z x hx h=>?_
 obtain ⟨B,C,F,q,y⟩:=Qdv.1 hx
 have g:=QsX h
 have j:∀ {sep:Nat→Str},(∀ i,(sep i).length≤6)→(exsT sep 0 v.a).length≤18000*sL exSz v.a:=fun f=>by
  refine Nat.le_trans (QqS f 0 v.a) ?_
  rw [← Qkq]
  refine Qi8 fun w o=>?_
  obtain ⟨i,hi,rfl⟩:=List.getElem_of_mem o
  obtain ⟨xs,_,_,D,_,m⟩:=y
  exact z _ o _ (m i _ _ (Vf hi) (Vf (by omega))) (g _ o)
 rw [QqO]
 have r:=j Qrt
 rw [QoD] at h
 by_cases h1:v.k=1
 ·rw [if_pos h1] at h
  simp only [Ve] at h
  rw [exE1 h1]
  have:=Qw2 q h.1.1
  omega
 rw [if_neg h1] at h
 simp only [Ve] at h
 have d:=h.1.1
 rcases Qum h1 d with b | b | b | b | b | b | b
 ·rw [exE2 b]
  rw [b,exN2,Ve] at d
  have:=Qvg d.1; omega
 ·rw [exE3 b]; simp only [Vd,Vk]; omega
 ·rw [exE4 b]
  simp only [Va,Vd,Vk]; omega
 ·rw [exE5 b]
  rw [b,exN5,Ve] at d
  have:=Qn4 d.1
  have m:(if v.a.length=0 then ([]:Str) else 40::(exsT cm 0 v.a++[41])).length≤(exsT cm 0 v.a).length+2:=by split <;> simp
  simp only [Va]; omega
 ·rw [exE6 b]
  rw [b,exN6] at d
  simp only [Ve,Vj] at d
  have E:=QxW d.1.2
  have t:=j QuN
  have u:=j (sep:=opSep v.n) (fun i=>by
   cases i with
   | zero=>simp [opSep]
   | succ i=>simp only [opSep,Vd,Va,Vk]; omega)
  split
  ·simp only [Va,Vd,Vk]; omega
  ·split
   ·simp only [Va,Vd,Vk]; omega
   ·simp only [Va,Vd,Vk]; omega
 ·rw [exE7 b]
  rw [b,exN7] at d
  simp only [Ve] at d
  have:=Qgj d.1.2
  have m:(if brkE v.a=true then 40::(exsT cm 0 v.a++[41]) else exsT cm 0 v.a).length≤(exsT cm 0 v.a).length+2:=by split <;> simp
  simp only [Va,Vd]; omega
 ·rw [exE8 b]
  have:=j QxQ
  simp only [Va,Vd,Vk]; omega
theorem Qst {p:Bool} {l:List ExV} {s:Sl} {sep:Nat→Str} (h:ExL A s l) (d:∀ i,(sep i).length≤6) (b:exsOk p l=true):(exsT sep 0 l).length≤18000*sL exSz l:=by
 refine Nat.le_trans (QqS d 0 l) ?_
 rw [← Qkq]
 refine Qi8 fun w f=>?_
 rw [Qdh] at b
 obtain ⟨i,hi,rfl⟩:=List.getElem_of_mem f
 obtain ⟨xs,_,_,j,_,g⟩:=h
 exact Qup _ _ (g i _ _ (Vf hi) (Vf (by omega))) (List.all_eq_true.1 b _ f)
theorem Qw0 {v:LiV} {x:Qm} (hx:LiIs A v x) (h:liOk v=true):(liT v).length+2≤18000*liSz v:=by
 obtain ⟨i,j,d⟩:=hx
 unfold liOk at h
 unfold liT liSz
 by_cases h12:v.k=1∨v.k=2
 ·rw [if_pos h12] at h
  simp only [Ve] at h
  have f:=Qst d Qrt h.2
  have g:=Qn4 h.1.1
  rcases h12 with b | b
  ·rw [if_pos b]; simp only [Va,Vd,Vk]; omega
  ·rw [if_neg (by rw [b]; decide),if_pos b]; simp only [Va,Vd,Vk]; omega
 rw [if_neg h12] at h
 rw [if_neg fun e=>h12 (.inl e),if_neg fun e=>h12 (.inr e)]
 by_cases h3:v.k=3
 ·rw [if_pos h3] at h
  simp only [Ve] at h
  have f:=Qst d Qrt h.2
  rw [if_neg (by rw [h3]; decide)]
  split
  ·simp only [Va,Vd,Vk]; omega
  ·omega
 rw [if_neg h3] at h
 by_cases h4:v.k=4
 ·rw [if_pos h4] at h
  simp only [Ve] at h
  have f:=Qst d Qrt h.2
  have g:=Qvg h.1.1
  rw [if_pos h4]; simp only [Va,Vd,Vk]; omega
 ·rw [if_neg h4] at h; cases h
theorem SlIs.mem {α β:Type} {R:α→β→Prop} {c:β→List Value} {s:Sl} {l:List α} (d:SlIs R c A s l) {v:α} (f:v ∈ l):∃ x,R v x:=by
 obtain ⟨i,hi,rfl⟩:=List.getElem_of_mem f
 obtain ⟨xs,_,_,g,_,b⟩:=d
 exact ⟨_,b i _ _ (Vf hi) (Vf (by omega))⟩
theorem Qt7 {l:List LiV} {s:Sl} (d:LiL A s l) (h:l.all liOk=true):(boT l).length≤18000*sL liSz l:=by
 unfold boT
 refine Nat.le_trans (QoP 0 l) ?_
 rw [← Qkq]
 refine Qi8 fun w b=>?_
 obtain ⟨x,hx⟩:=d.mem b
 exact Qw0 hx (List.all_eq_true.1 h w b)
theorem QsK : ∀ (i : Nat) (gs : List Str) (xs : List ExV), (∀ g ∈ gs, g.length ≤ 5) → (agsT i gs xs).length ≤ sL (fun v => (exT v).length + 6) xs + 9 * gs.length
 | i,[],xs,_=>by simp [agsT]
 | i,g::gs,[],_=>by simp [agsT]
 | i,g::gs,x::xs,h=>by
  have h1:=QsK (i+1) gs xs fun g hg=>h g (List.mem_cons_of_mem _ hg)
  have b:=h g (List.mem_cons_self ..)
  have d:=Qrt i
  simp only [agsT,sL,Va,Vd]
  have f:(agT g x).length≤g.length+(exT x).length+2:=by
   unfold agT
   split
   ·omega
   ·simp only [Va,Vd,Vk]; omega
  omega
theorem Qxm {v:RuV} {x:Qi} (hx:RuIs A v x) (h:ruOk v=true):(ruT v).length≤18000*ruSz v:=by
 obtain ⟨r,i,hg,j⟩:=hx
 unfold ruOk at h
 simp only [Ve,Vj] at h
 obtain ⟨⟨⟨⟨⟨m,C⟩,D⟩,f⟩,o⟩,q⟩:=h
 have t:=Qn4 m
 have u:=Qt7 j o
 have y:=QsK 0 v.g v.a fun g hg=>QxD (List.all_eq_true.1 q g hg)
 have z:sL (fun v=>(exT v).length+6) v.a≤18000*sL exSz v.a:=by
  rw [← Qkq]
  refine Qi8 fun w d=>?_
  rw [Qdh] at f
  obtain ⟨x,hx⟩:=i.mem d
  exact Qup w x hx (List.all_eq_true.1 f w d)
 unfold ruT ruSz
 have B:(if v.b.length=0 then ([]:Str) else [32,58,45,32]++boT v.b).length≤(boT v.b).length+4:=by
  split
  ·simp
  ·simp only [Va,Vd,Vk]; omega
 simp only [Va,Vd,Vk]
 omega
theorem Qxb {v:NeV} {x:Qo} (hx:NeIs A v x) (h:neOk v=true):(neT v).length≤18000*neSz v:=by
 unfold neOk at h
 simp only [Ve] at h
 have b:=Qgj h.1.1
 have d:=Qt7 hx.2 h.2
 unfold neT neSz
 simp only [Va,Vd,Vk]
 omega
theorem Qxr {v:TdV} (h:tdOk v=true):(tdT v).length≤18000*tdSz v:=by
 unfold tdOk at h
 simp only [Ve,Vj] at h
 obtain ⟨⟨⟨⟨⟨i,x⟩,j⟩,y⟩,z⟩,m⟩:=h
 have o:=Qgj i
 have q:(jo [44,32] id 0 v.ps).length≤100*v.ps.length:=by
  refine Nat.le_trans (QoP 0 v.ps) ?_
  rw [← Qo5 v.ps,← Qkq]
  refine Qi8 fun w d=>?_
  have:=QuQ (List.all_eq_true.1 j w d)
  simp only [id_eq,Vd,Vk]; omega
 have r:(jo [32,124,32] cnT 0 v.cs).length≤1000*sL cnSz v.cs:=by
  refine Nat.le_trans (QoP 0 v.cs) ?_
  rw [← Qkq]
  refine Qi8 fun w d=>?_
  have b:=List.all_eq_true.1 m w d
  unfold cnOk fdsOk at b
  simp only [Ve,Vj] at b
  have g:=Qgj b.1
  have t:=QsZ (List.all_eq_true.1 b.2.2)
  have u:=Quu w.f
  unfold cnT cnSz
  have h8:(if w.f.length=0 then ([]:Str) else 40::(fdsT w.f++[41])).length≤(fdsT w.f).length+2:=by split <;> simp
  simp only [Va,Vd,Vk] at h8 ⊢
  omega
 unfold tdT tdSz
 have b:(if v.ps.length=0 then ([]:Str) else 40::(jo [44,32] id 0 v.ps++[41])).length≤(jo [44,32] id 0 v.ps).length+2:=by split <;> simp
 have g:(pubT v.p).length≤4:=by cases v.p <;> simp [pubT]
 simp only [Va,Vd,Vk] at b ⊢
 omega
theorem Qxi {v:RdV} (h:rdOk v=true):(rdT v).length≤18000*rdSz v:=by
 unfold rdOk fdsOk at h
 simp only [Ve,Vj] at h
 have b:=Qgj h.1
 have g:=QsZ (List.all_eq_true.1 h.2.2)
 have j:=Quu v.f
 unfold rdT rdSz
 have d:(pubT v.p).length≤4:=by cases v.p <;> simp [pubT]
 have h8:(if v.i=true then ([105,110,112,117,116,32]:Str) else [114,101,108,32]).length≤6:=by split <;> simp
 simp only [Va,Vd,Vk]
 omega
theorem QoO {α:Type} {f:α→Str} {g:α→Nat} {l:List α} (h:∀ v ∈ l,(f v).length≤18000*g v):(jo [] f 0 l).length≤18000*sL g l:=by
 refine Nat.le_trans (QoP 0 l) ?_
 rw [← Qkq]
 exact Qi8 fun w b=>h w b
theorem Qw8 {v:MoV} {x:Qa} (hx:MoIs A v x) (h:moOk v=true):(moT v).length≤18000*(moSz v+1):=by
 obtain ⟨B,i,m,j,f,d⟩:=hx
 unfold moOk at h
 simp only [Ve] at h
 obtain ⟨⟨⟨⟨⟨o,q⟩,r⟩,t⟩,u⟩,z⟩:=h
 have h0:=Qgj o
 have g:(jo [] imT 0 v.im).length≤18000*sL (fun _=>1) v.im:=QoO fun w b=>by
  have:=Qgj (List.all_eq_true.1 q w b)
  unfold imT; simp only [Va,Vd,Vk]; omega
 have C:(jo [] tdT 0 v.ty).length≤18000*sL tdSz v.ty:=QoO fun w b=>Qxr (List.all_eq_true.1 r w b)
 have D:(jo [] rdT 0 v.re).length≤18000*sL rdSz v.re:=QoO fun w b=>Qxi (List.all_eq_true.1 t w b)
 have E:(jo [] ruT 0 v.ru).length≤18000*sL ruSz v.ru:=QoO fun w b=>by
  obtain ⟨y,hy⟩:=f.mem b
  exact Qxm hy (List.all_eq_true.1 u w b)
 have F:(jo [] neT 0 v.ne).length≤18000*sL neSz v.ne:=QoO fun w b=>by
  obtain ⟨y,hy⟩:=d.mem b
  exact Qxb hy (List.all_eq_true.1 z w b)
 rw [Qo5] at g
 rw [Qwq]
 unfold moSz hdT
 simp only [Va,Vd,Vk]
 omega
end
end
end Sx
end
