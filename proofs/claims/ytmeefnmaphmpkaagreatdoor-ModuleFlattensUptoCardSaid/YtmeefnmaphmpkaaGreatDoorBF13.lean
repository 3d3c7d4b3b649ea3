/-
  Texts of this family, one behind the other: Sh12.
-/
import Derived.Test.YtmeefnmaphmpkaaGreatDoorBF2
noncomputable section
set_option linter.unusedVariables false
set_option linter.unusedSimpArgs false
set_option maxRecDepth 10000
namespace Sx
section
set_option maxRecDepth 100000
set_option maxHeartbeats 4000000
open Go Go.Proofs
def QhY (C:Ctx) (b:Qd) (g:Nat×Nat) (K:Bool→HP) (H:Heap):Prop:=nw (Qd.c b) (fun f a=>ldV a g fun h=>ldT a Qd.c (f,0) fun i=>callU P0 C h [.agg (Qd.c i).toArray] a (fun v e=>∃ (d:Bool),v=.bool d∧ K (!d) e)) H
theorem QhG (C a b K H) (h:QhY C a b K H):Qij C a b K H:=AE h Tryz.func124 rfl Tryz.ntmps124
def Qhs (C:Ctx) (b:Sl) (a:Value) (K:Bool→HP) (H:Heap):Prop:=(Value.cells a = #[a])∧nw ([a]) (fun e c=>QbJ C b (.func (.func 190) (List.toArray []) (List.toArray [pv (some (e,0))]):Value) (fun f d=>K (!f) d) c) H
theorem Ql5 (C b a K H) (h:Qhs C b a K H):QaJ C b a K H:=AE h Tryz.func125 rfl Tryz.ntmps125
def QmT (C:Ctx) (a:Str) (K:Bool→HP) (H:Heap):Prop:=Qcw C a [39] (fun h f=>jnE (α:=Bool) 4 (fun d=>[(9,.bool d)]) (fun d c=>K d c) (fun g=>ift h (slS a 1 (List.length a:Int) fun i=>Qbd C i (fun e b=>g e b) f) (g false f))) H
theorem QqE (C a K H) (h:QmT C a K H):Qj1 C a K H:=AE h Tryz.func126 rfl Tryz.ntmps126
def Qfl (C:Ctx) (b:Sl) (a:Value) (K:Bool→HP) (H:Heap):Prop:=(Value.cells a = #[a])∧nw ([a]) (fun e c=>QF C b (.func (.func 191) (List.toArray []) (List.toArray [pv (some (e,0))]):Value) (fun f d=>K (!f) d) c) H
theorem QiG (C b a K H) (h:Qfl C b a K H):Qad C b a K H:=AE h Tryz.func127 rfl Tryz.ntmps127
def Qiz (C:Ctx) (f:Qj) (K:Bool→HP) (H:Heap):Prop:=nw (Qj.c f) (fun k i=>ldS i (k,0+0) fun m=>Qbd C m (fun l d=>jnE (α:=Bool) 4 (fun e=>[(10,.bool e)]) (fun e b=>K e b) (fun j=>ift l (ldL d (k,0+1) fun h=>QbT C h false (fun g a=>j g a) d) (j false d))) i) H
theorem Qnd (C a K H) (h:Qiz C a K H):QbO C a K H:=AE h Tryz.func128 rfl Tryz.ntmps128
def QaM (C:Ctx) (b:Sl) (a:Value) (K:Bool→HP) (H:Heap):Prop:=Qbh C b a (fun d c=>K (decide (d ≥ 0)) c) H
theorem Qch (C b a K H) (h:QaM C b a K H):QaP C b a K H:=AE h Tryz.func129 rfl Tryz.ntmps129
def Qiy (C:Ctx) (b:Qh) (g:Nat×Nat) (K:Bool→HP) (H:Heap):Prop:=nw (Qh.c b) (fun f a=>ldV a g fun h=>ldT a Qh.c (f,0) fun i=>callU P0 C h [.agg (Qh.c i).toArray] a (fun v e=>∃ (d:Bool),v=.bool d∧ K (!d) e)) H
theorem Qh7 (C a b K H) (h:Qiy C a b K H):QiX C a b K H:=AE h Tryz.func130 rfl Tryz.ntmps130
def QeJ (C:Ctx) (b:Sl) (a:Value) (K:Bool→HP) (H:Heap):Prop:=(Value.cells a = #[a])∧nw ([a]) (fun e c=>QD C b (.func (.func 193) (List.toArray []) (List.toArray [pv (some (e,0))]):Value) (fun f d=>K (!f) d) c) H
theorem Qh5 (C b a K H) (h:QeJ C b a K H):Q3 C b a K H:=AE h Tryz.func131 rfl Tryz.ntmps131
def Qjp (C:Ctx) (m:Ql) (u:Nat×Nat) (K:Bool→HP) (H:Heap):Prop:=nw (Ql.c m) (fun h r=>ldS r (h,0+0) fun v=>Qbd C v (fun t e=>jnE (α:=Bool) 8 (fun l=>[(15,.bool l),(2,pv (some (h,0)))]) (fun l a=>jnE (α:=Bool) 4 (fun d=>[(20,.bool d)]) (fun d k=>K d k) (fun g=>ift l (ldT a Qf.c (h,0+1) fun q=>Qdg C q (fun n j=>g n j) a) (g false a))) (fun s=>ift t (s true e) (ldB e u fun o=>jnE (α:=Bool) 4 (fun b=>[(14,.bool b),(2,pv (some (h,0))),(7,.bool t)]) (fun b i=>s b i) (fun f=>ift (!o) (ldS e (h,0+0) fun p=>f (p==([]:Str)) e) (f false e))))) r) H
theorem QnV (C a b K H) (h:Qjp C a b K H):Qce C a b K H:=AE h Tryz.func132 rfl Tryz.ntmps132
def QmU (C:Ctx) (x:Qf) (K:Bool→HP) (H:Heap):Prop:=nw (Qf.c x) (fun b k=>ldL k (b,0+1) fun a=>ldS k (b,0+0) fun e=>jnC (α:=Bool) 13 (fun F=>[(9,.bool F),(1,pv (some (b,0))),(3,.int .i64 a.len),(8,sv e)]) (fun F l=>ift F (K ((a.len:Int)==0) l) (ift (e==([116,117,112,108,101]:Str)) (hnt 3 [(23,.bool (((a.len:Int)!=1)&&(decide ((a.len:Int)≤16)))),(1,pv (some (b,0)))] True (jnE (α:=Bool) 4 (fun h=>[(28,.bool h)]) (fun h s=>K h s) (fun m=>ift (((a.len:Int)!=1)&&(decide ((a.len:Int)≤16))) (ldL l (b,0+1) fun A=>Q4 C A (.func (.func 133) (List.toArray []) (List.toArray []):Value) (fun y r=>m y r) l) (m false l)))) (ldS l (b,0+0) fun B=>Qj1 C B (fun d f=>hnt 3 [(35,.bool (d&&((a.len:Int)==0))),(1,pv (some (b,0))),(3,.int .i64 a.len)] True (jnE (α:=Bool) 13 (fun i=>[(49,.bool i)]) (fun i v=>K i v) (fun n=>ift (d&&((a.len:Int)==0)) (n true f) (ldS f (b,0+0) fun D=>QfM C D (fun p g=>hnt 3 [(43,.bool (p&&(decide ((a.len:Int)≤8)))),(1,pv (some (b,0))),(36,.bool (d&&((a.len:Int)==0)))] True (jnE (α:=Bool) 4 (fun j=>[(48,.bool j),(36,.bool (d&&((a.len:Int)==0)))]) (fun j u=>n j u) (fun o=>ift (p&&(decide ((a.len:Int)≤8))) (ldL g (b,0+1) fun E=>Q4 C E (.func (.func 133) (List.toArray []) (List.toArray []):Value) (fun z t=>o z t) g) (o false g)))) f)))) l))) (fun q=>ift (e==([98,111,111,108]:Str)) (q (e==([98,111,111,108]:Str)) k) (ift (e==([105,110,116]:Str)) (q (e==([105,110,116]:Str)) k) (ift (e==([98,105,103]:Str)) (q (e==([98,105,103]:Str)) k) (q (e==([116,101,120,116]:Str)) k))))) H
theorem QqF (C a K H) (h:QmU C a K H):Qdg C a K H:=AE h Tryz.func133 rfl Tryz.ntmps133
def Qbj (C:Ctx) (b:Sl) (a:Value) (K:Bool→HP) (H:Heap):Prop:=QbF C b a (fun d c=>K (decide (d ≥ 0)) c) H
theorem Qc5 (C b a K H) (h:Qbj C b a K H):Qbm C b a K H:=AE h Tryz.func134 rfl Tryz.ntmps134
def QjI (C:Ctx) (b:Qi) (g:Nat×Nat) (K:Bool→HP) (H:Heap):Prop:=nw (Qi.c b) (fun f a=>ldV a g fun h=>ldT a Qi.c (f,0) fun i=>callU P0 C h [.agg (Qi.c i).toArray] a (fun v e=>∃ (d:Bool),v=.bool d∧ K (!d) e)) H
theorem QjA (C a b K H) (h:QjI C a b K H):QjY C a b K H:=AE h Tryz.func135 rfl Tryz.ntmps135
def QnI (C:Ctx) (h:Str) (K:Bool→HP) (H:Heap):Prop:=Qe2 C h [46] (fun m n o l=>Qbd C m (fun k f=>jnE (α:=Bool) 7 (fun g=>[(21,.bool g)]) (fun g e=>K g e) (fun j=>ift k (jnE (α:=Bool) 3 (fun a=>[(20,.bool a),(14,.bool k)]) (fun a d=>j a d) (fun b=>ift (!o) (b true f) (Qbd C n (fun i c=>b i c) f))) (j false f))) l) H
theorem Qrk (C a K H) (h:QnI C a K H):QfM C a K H:=AE h Tryz.func136 rfl Tryz.ntmps136
def Qgu (C:Ctx) (b:Sl) (a:Value) (K:Bool→HP) (H:Heap):Prop:=(Value.cells a = #[a])∧nw ([a]) (fun e c=>Qbl C b (.func (.func 197) (List.toArray []) (List.toArray [pv (some (e,0))]):Value) (fun f d=>K (!f) d) c) H
theorem QkV (C b a K H) (h:Qgu C b a K H):QI C b a K H:=AE h Tryz.func137 rfl Tryz.ntmps137
def QnG (C:Ctx) (a:Qe) (K:Bool→HP) (H:Heap):Prop:=nw (Qe.c a) (fun e b=>ldT b Qe.c (e,0) fun g=>Qcz C g false (fun f d=>K f d) b) H
theorem Qri (C a K H) (h:QnG C a K H):Qcy C a K H:=AE h Tryz.func138 rfl Tryz.ntmps138
def QlG (C:Ctx) (a:Str) (K:Bool→HP) (H:Heap):Prop:=hnt 3 [(8,.bool ((a==([]:Str))||(a==([99,111,117,110,116]:Str)))),(0,sv a)] True (hnt 3 [(12,.bool (((a==([]:Str))||(a==([99,111,117,110,116]:Str)))||(a==([115,117,109]:Str)))),(0,sv a)] True (hnt 3 [(16,.bool ((((a==([]:Str))||(a==([99,111,117,110,116]:Str)))||(a==([115,117,109]:Str)))||(a==([109,105,110]:Str)))),(0,sv a)] True (hnt 3 [(20,.bool (((((a==([]:Str))||(a==([99,111,117,110,116]:Str)))||(a==([115,117,109]:Str)))||(a==([109,105,110]:Str)))||(a==([109,97,120]:Str))))] True (K (((((a==([]:Str))||(a==([99,111,117,110,116]:Str)))||(a==([115,117,109]:Str)))||(a==([109,105,110]:Str)))||(a==([109,97,120]:Str))) H))))
theorem QpC (C a K H) (h:QlG C a K H):Qmc C a K H:=AE h Tryz.func139 rfl Tryz.ntmps139
def Qa5 (C:Ctx) (b:Sl) (a:Value) (K:Bool→HP) (H:Heap):Prop:=Qbo C b a (fun d c=>K (decide (d ≥ 0)) c) H
theorem QcC (C b a K H) (h:Qa5 C b a K H):Qa8 C b a K H:=AE h Tryz.func140 rfl Tryz.ntmps140
def Qi9 (C:Ctx) (b:Qo) (g:Nat×Nat) (K:Bool→HP) (H:Heap):Prop:=nw (Qo.c b) (fun f a=>ldV a g fun h=>ldT a Qo.c (f,0) fun i=>callU P0 C h [.agg (Qo.c i).toArray] a (fun v e=>∃ (d:Bool),v=.bool d∧ K (!d) e)) H
theorem QiI (C a b K H) (h:Qi9 C a b K H):QjG C a b K H:=AE h Tryz.func141 rfl Tryz.ntmps141
def Qay (C:Ctx) (b:Sl) (a:Value) (K:Bool→HP) (H:Heap):Prop:=Qa2 C b a (fun d c=>K (decide (d ≥ 0)) c) H
theorem Qb5 (C b a K H) (h:Qay C b a K H):QaH C b a K H:=AE h Tryz.func142 rfl Tryz.ntmps142
def QhX (C:Ctx) (b:Qm) (g:Nat×Nat) (K:Bool→HP) (H:Heap):Prop:=nw (Qm.c b) (fun f a=>ldV a g fun h=>ldT a Qm.c (f,0) fun i=>callU P0 C h [.agg (Qm.c i).toArray] a (fun v e=>∃ (d:Bool),v=.bool d∧ K (!d) e)) H
theorem QhF (C a b K H) (h:QhX C a b K H):Qii C a b K H:=AE h Tryz.func143 rfl Tryz.ntmps143
def QkH (C:Ctx) (a:Qe) (K:Bool→HP) (H:Heap):Prop:=nw (Qe.c a) (fun e b=>ldT b Qe.c (e,0) fun g=>Qcz C g true (fun f d=>K f d) b) H
theorem Qor (C a K H) (h:QkH C a K H):QcQ C a K H:=AE h Tryz.func144 rfl Tryz.ntmps144
def Qjr (C:Ctx) (a:Str) (K:Bool→HP) (H:Heap):Prop:=jnE (α:=Bool) 4 (fun h=>[(9,.bool h),(0,sv a)]) (fun h l=>jnE (α:=Bool) 4 (fun i=>[(14,.bool i),(0,sv a)]) (fun i c=>jnE (α:=Bool) 3 (fun b=>[(18,.bool b)]) (fun b g=>K b g) (fun e=>ift i (QiY C a (fun k f=>e k f) c) (e false c))) (fun d=>ift h (ixs a 0 fun j=>d (decide (((j.toNat:Int):Int)≤90)) l) (d false l))) (fun m=>ift (!(a==([]:Str))) (ixs a 0 fun n=>m (decide (((n.toNat:Int):Int) ≥ 65)) H) (m false H))
theorem QnX (C a K H) (h:Qjr C a K H):Qe4 C a K H:=AE h Tryz.func145 rfl Tryz.ntmps145
def Qba (C:Ctx) (a:Sl) (e:Value) (K:Int→HP) (H:Heap):Prop:=lpE (α:=Int) (fun b=>[(8,.int .i64 b),(0,slv a),(1,e),(7,.int .i64 a.len)]) 0 H (fun b j g=>ift (decide (b<a.len)) (ixa a b fun i=>ldT g Qa.c (i.1,i.2+b.toNat*6) fun h=>callU P0 C e [.agg (Qa.c h).toArray] g (fun v d=>∃ (f:Bool),v=.bool f∧ ift f (K b d) (j (w .i64 (b+1)) d))) (K (-1) g))
theorem QcS (C b a K H) (h:Qba C b a K H):Qbg C b a K H:=AE h Tryz.func146 rfl Tryz.ntmps146
def QeE (C:Ctx) (b:Qa) (e:Nat×Nat) (K:Bool→HP) (H:Heap):Prop:=nw (Qa.c b) (fun d a=>ldS a (d,0+0) fun f=>ldS a e fun g=>K (f==g) a) H
theorem Qh0 (C a b K H) (h:QeE C a b K H):QiR C a b K H:=AE h Tryz.func147 rfl Tryz.ntmps147
def QK (C:Ctx) (a:Sl) (e:Value) (K:Int→HP) (H:Heap):Prop:=lpE (α:=Int) (fun b=>[(8,.int .i64 b),(0,slv a),(1,e),(7,.int .i64 a.len)]) 0 H (fun b j g=>ift (decide (b<a.len)) (ixa a b fun i=>ldT g Qq.c (i.1,i.2+b.toNat*3) fun h=>callU P0 C e [.agg (Qq.c h).toArray] g (fun v d=>∃ (f:Bool),v=.bool f∧ ift f (K b d) (j (w .i64 (b+1)) d))) (K (-1) g))
theorem Qab (C b a K H) (h:QK C b a K H):Qbf C b a K H:=AE h Tryz.func148 rfl Tryz.ntmps148
def Qdq (C:Ctx) (h:Qq) (p:Nat×Nat) (q:Nat×Nat) (s:Nat×Nat) (K:Bool→HP) (H:Heap):Prop:=nw (Qq.c h) (fun r e=>ldP e p fun t=>ldS e (r,0+2) fun u=>QaE C t u (fun o a=>ldM a q fun v=>lkM kI (fun x:Bool=>(.bool x:Value)) false v o (fun j n=>jnE (α:=Bool) 6 (fun b=>[(21,.bool b)]) (fun b g=>K b g) (fun d=>ift (!j) (ldP a p fun k=>ldI a .i64 s fun l=>ldM a q fun m=>QaF C k o l m (fun i f=>d i f) a) (d false a))) a) e) H
theorem QgP (C a b c d K H) (h:Qdq C a b c d K H):Qha C a b c d K H:=AE h Tryz.func149 rfl Tryz.ntmps149
def QcH (C:Ctx) (a:Sl) (c:Str) (K:Int→HP) (H:Heap):Prop:=lpE (α:=Int) (fun b=>[(8,.int .i64 b),(0,slv a),(1,sv c),(7,.int .i64 a.len)]) 0 H (fun b g d=>ift (decide (b<a.len)) (ixa a b fun f=>ldS d (f.1,f.2+b.toNat*1) fun e=>ift (c==e) (K b d) (g (w .i64 (b+1)) d)) (K (-1) d))
theorem Qgf (C a b K H) (h:QcH C a b K H):QcZ C a b K H:=AE h Tryz.func150 rfl Tryz.ntmps150
def Q7 (C:Ctx) (a:Sl) (e:Value) (K:Int→HP) (H:Heap):Prop:=lpE (α:=Int) (fun b=>[(8,.int .i64 b),(0,slv a),(1,e),(7,.int .i64 a.len)]) 0 H (fun b j g=>ift (decide (b<a.len)) (ixa a b fun i=>ldT g Qj.c (i.1,i.2+b.toNat*2) fun h=>callU P0 C e [.agg (Qj.c h).toArray] g (fun v d=>∃ (f:Bool),v=.bool f∧ ift f (K b d) (j (w .i64 (b+1)) d))) (K (-1) g))
theorem QaN (C b a K H) (h:Q7 C b a K H):Qa1 C b a K H:=AE h Tryz.func151 rfl Tryz.ntmps151
def QR (C:Ctx) (b:Sl) (a:Value) (K:Bool→HP) (H:Heap):Prop:=QaL C b a (fun d c=>K (decide (d ≥ 0)) c) H
theorem Qas (C b a K H) (h:QR C b a K H):QD C b a K H:=AE h Tryz.func152 rfl Tryz.ntmps152
def Qjk (C:Ctx) (b:Ql) (g:Nat×Nat) (K:Bool→HP) (H:Heap):Prop:=nw (Ql.c b) (fun e a=>ldT a Qf.c (e,0+1) fun h=>ldL a g fun i=>QgG C h i (fun f d=>K f d) a) H
theorem QnQ (C a b K H) (h:Qjk C a b K H):Qox C a b K H:=AE h Tryz.func153 rfl Tryz.ntmps153
def Qln (C:Ctx) (g:Qf) (a:Sl) (K:Bool→HP) (H:Heap):Prop:=nw (Qf.c g) (fun f n=>nw ([slv a]) (fun m b=>ldS b (f,0+0) fun p=>ixs p 0 fun o=>ift (((o.toNat:Int):Int)==39) (ldL b (m,0) fun j=>ldS b (f,0+0) fun k=>Qt C j k (fun h d=>K (!h) d) b) (ldL b (f,0+1) fun l=>QQ C l (.func (.func 203) (List.toArray []) (List.toArray [pv (some (m,0))]):Value) (fun i e=>K i e) b)) n) H
theorem Qpj (C b a K H) (h:Qln C b a K H):QgG C b a K H:=AE h Tryz.func154 rfl Tryz.ntmps154
def Qf4 (C:Ctx) (E:Value→HP) (h:Option (Nat×Nat)) (M:Qa) (N:Qf) (k:Qk) (K:Qf→HP) (H:Heap):Prop:=nw (Qa.c M) (fun t H2=>nw (Qf.c N) (fun f H4=>nw (Qk.c k) (fun u H6=>nw (Qf.c Qf.zero) (fun x m=>jnC (α:=Unit) 28 (fun _=>[(0,pv h),(5,pv (some (t,0))),(6,pv (some (f,0))),(7,pv (some (u,0))),(8,pv (some (x,0)))]) (fun af n=>ldL n (f,0+1) fun j=>st (f,0+1) (slv Sl.nil) (fun B=>lpE (α:=Int) (fun e=>[(36,.int .i64 e),(0,pv h),(5,pv (some (t,0))),(6,pv (some (f,0))),(7,pv (some (u,0))),(8,pv (some (x,0))),(34,slv j),(35,.int .i64 j.len)]) 0 B (fun e G i=>ift (decide (e<j.len)) (ixa j e fun y=>ldT i Qf.c (y.1,y.2+e.toNat*2) fun V=>nw (Qf.c Qf.zero) (fun v D=>stT (v,0) (Qf.c V) (fun o=>drE (some 10) (ot [0,1,2,3,4,5,6,7,8,9] .nil) o fun a=>ldL a (f,0+1) fun W=>ldT a Qa.c (t,0) fun X=>ldT a Qf.c (v,0) fun Y=>ldT a Qk.c (u,0) fun Z=>Qb8 C E h X Y Z (fun P p=>Heap.le a p∧ nw ((Qf.c P)++[]) (fun J q=>Heap.le a q∧ apS (Qf.c Qf.zero) 40 W (Sl.of (some (J,0)) 1 1) (fun Q r=>Heap.le a r∧ st (f,0+1) (slv Q) (fun F=>G (w .i64 (e+1)) F) r) q) p) o) D) i) (ldT i Qf.c (f,0) fun aa=>stT (x,0) (Qf.c aa) (fun s=>ldT s Qf.c (x,0) fun ab=>K ab s) i))) n) (fun I=>ldS m (f,0+0) fun b=>jnC (α:=Bool) 17 (fun l=>[(25,.bool l),(0,pv h),(5,pv (some (t,0))),(6,pv (some (f,0))),(7,pv (some (u,0))),(8,pv (some (x,0)))]) (fun l d=>ift l (I () d) (ldS d (f,0+0) fun R=>ixs R 0 fun L=>ift (((L.toNat:Int):Int)!=39) (ldT d Qa.c (t,0) fun S=>ldS d (f,0+0) fun T=>ldT d Qk.c (u,0) fun U=>Qaj C E h S T 0 U (fun O z=>st (f,0+0) (sv O) (fun A=>I () A) z) d) (I () d))) (fun g=>ift (b==([98,111,111,108]:Str)) (g (b==([98,111,111,108]:Str)) m) (ift (b==([105,110,116]:Str)) (g (b==([105,110,116]:Str)) m) (ift (b==([98,105,103]:Str)) (g (b==([98,105,103]:Str)) m) (ift (b==([116,101,120,116]:Str)) (g (b==([116,101,120,116]:Str)) m) (g (b==([116,117,112,108,101]:Str)) m))))))) H6) H4) H2) H
theorem QjL (C E c b d a K H) (h:Qf4 C E c b d a K H):Qb8 C E c b d a K H:=AP h Tryz.func155 rfl Tryz.ntmps155
def Qlz (C:Ctx) (b:Str) (a:Str) (K:Str→Str→Bool→HP) (H:Heap):Prop:=QdH C b a (fun d e f c=>K d e f c) H
theorem Qpv (C b a K H) (h:Qlz C b a K H):Qe2 C b a K H:=AE h Tryz.func156 rfl Tryz.ntmps156
def QeF (C:Ctx) (b:Qq) (e:Nat×Nat) (K:Bool→HP) (H:Heap):Prop:=nw (Qq.c b) (fun d a=>ldS a (d,0+2) fun f=>ldS a e fun g=>K (f==g) a) H
theorem Qh1 (C a b K H) (h:QeF C a b K H):QiS C a b K H:=AE h Tryz.func157 rfl Tryz.ntmps157
def QbV (C:Ctx) (b:Str) (a:Str) (K:Bool→HP) (H:Heap):Prop:=jnE (α:=Bool) 7 (fun d=>[(17,.bool d)]) (fun d c=>K d c) (fun e=>ift (decide (((List.length b:Int):Int) ≥ (List.length a:Int))) (slS b 0 (List.length a:Int) fun f=>e (f==a) H) (e false H))
theorem QeV (C b a K H) (h:QbV C b a K H):Qai C b a K H:=AE h Tryz.func158 rfl Tryz.ntmps158
def Qhu (C:Ctx) (b:Option (Nat×Nat)) (a:Bool) (K:HP) (H:Heap):Prop:=ift a (nck b fun c=>Qn C (some (c.1,c.2+0)) [112,117,98,32] (fun e f d=>K d) H) (K H)
theorem Ql7 (C b a K H) (h:Qhu C b a K H):QdD C b a K H:=AE h Tryz.func159 rfl Tryz.ntmps159
end
end Sx
end
