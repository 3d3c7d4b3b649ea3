/-
  The statement 'ModuleOrderUptoSaid': for every input of bulk at most 1048576 the law returns true, and the input reads as it did.
-/
import Derived.Test.YtmeefnmaphmpkaaGreatDoorBO6
import Derived.Test.YtmeefnmaphmpkaaGreatDoorCards
import Derived.Test.YtmeefnmaphmpkaaGreatDoorTie
import Derived.WalkKit
import Derived.ProofKit
import Derived.OpenShut
import Derived.ShutString
import Derived.JoinedCond
namespace Go.Proofs.YtmeefnmaphmpkaaGreatDoor.moduleOrder
open Go.ChangeShapes Go.WideShapes Go.ChangeAt Go.RowKit
open Sx
set_option linter.unusedVariables false
theorem own:ownKnob Tryz.prog.godebug=none:=by kernel_rfl
theorem laidOut:laidOutB Tryz.prog=true:=by kernel_rfl
theorem walk (W:World) (hP:PowT (ctxOf W)) (hM:MaxC (ctxOf W)) (v0:Value) (s0:Sl) (a0:List MoP) (h0:v0=slv s0) (r0:MpL (heapOf W) s0 a0∧(∀ m ∈ a0,moSz m.e≤1048576)∧a0.length≤1048576∧s0.len≤s0.cap) (v1:Value) (s1:Sl) (a1:List Int) (h1:v1=slv s1) (r1:IL (heapOf W) s1 a1) (n1:∀ z ∈ a1,-9223372036854775808≤z∧z≤9223372036854775807) (b1:a1.length≤1048576) (c1:s1.len≤s1.cap):Sx.Spec Tryz.prog (ctxOf W) 6 [v0,v1] (heapOf W) (fun v _=>v=.bool true):=by
 subst h0
 subst h1
 have h:Qbs (ctxOf W) s0 s1 (fun r _=>r=true) (heapOf W):=QmB hM (Qvh hP) r0 r1
 unfold Qbs at h
 exact h.mono fun v H2 ⟨r,hv,hr⟩=>by rw [hv,hr]
set_option maxRecDepth 100000 in
theorem contract (H:Type) (enc:TypeId×Value→H) (W:World) (base:Nat) (args:Array Value) (ds gs:List (DataW H)) (before:List MemPlace)
 (hval:∀ (j:Nat) t v,Tryz.f6.params[j]? = some t→args[j]? = some v→Value.okWide Tryz.prog W .any base t v)
 (hW:DataW.Whole enc Tryz.prog Tryz.f6.params.toList Rows.moduleOrderSpec.vars false W args.toList ds gs before)
 (hwt:(DataW.weightsEach Tryz.prog (Tryz.f6.params.toList++(OpenSpec.ofChange Rows.moduleOrderSpec).bare.plain.varTypes Tryz.prog) (ds++gs)).all (·≤reachBytes)=true) (hk:Rows.uptoSmall H (ds++gs)=true) (hP:PowT (ctxOf W)) (hM:MaxC (ctxOf W)) :
 Calls Tryz.prog 6 args W fun e W'=>∃ v,e=.returned v∧Rows.moduleOrderSpec.post enc Tryz.prog Tryz.f6 false true false false W args v W':=by
 have hW':=hW
 obtain ⟨p,q,hA0,hV,rfl,hfz,hnd⟩:=hW
 have hA:DataW.TrodAll enc Tryz.prog W 0 (fun _=>true) true Tryz.f6.params.toList args.toList ds p:=hA0
 have hAk:=hA
 rw [Tryz.params6] at hA hval
 obtain ⟨v0,vs0,d0,ds0,p0,q0,hargs,rfl,rfl,t0,u0⟩:=trodAll_cons hA
 obtain ⟨v1,vs1,d1,ds1,p1,q1,rfl,rfl,rfl,t1,u1⟩:=trodAll_cons u0
 obtain ⟨rfl,rfl,rfl⟩:=trodAll_nil u1
 obtain rfl:args = #[v0,v1]:=by cases args; simp_all
 obtain ⟨rfl,rfl⟩:=trodVars_none hV
 have hlt:∀ x ∈ (p0++(p1++[]):List MemPlace),x.block < W.heap.size:=fun x hx=>hW'.lt x (List.mem_append_left _ hx)
 obtain ⟨s0,a0,h0,r0⟩:=QrJ (hval 0 59 v0 rfl rfl) t0 (Qq3 hk (List.mem_append_left _ (List.mem_cons_self ..)))
 obtain ⟨s1,a1,h1,r1,n1,b1,c1⟩:=QrI Tryz.underlying79 Tryz.underlying3 (by kernel_rfl) (hval 1 79 v1 rfl rfl) t1 (Qq3 hk (List.mem_append_left _ (List.mem_cons_of_mem _ (List.mem_cons_self ..))))
 refine (walk W hP hM v0 s0 a0 h0 r0 v1 s1 a1 h1 r1 n1 b1 c1 W (QsP W)).mono fun e W' ⟨v,H',he,hst,hv⟩=>?_
 subst he
 subst hv
 exact ⟨_,rfl,_,_,_,[],_,[],hW',trodAll_mk1 (shut_bool Tryz.underlying4 _),QpT laidOut hst (by kernel_rfl) hAk hlt,rfl,hst.frame _,fun h=>by cases h⟩
noncomputable def laidWorld (os:Os):World:=laidW Tryz.prog os [(2,lcells 6 (Rows.laid_math_bits_deBruijn32tab (H:=Unit))),(3,lcells 6 (Rows.laid_math_bits_deBruijn64tab (H:=Unit))),(1,lcells 6 (Rows.laid_internal_strconv_uint64pow10 (H:=Unit))),(5,lcells 6 (Rows.laid_unicode_utf8_acceptRanges (H:=Unit))),(4,lcells 6 Rows.laid_unicode_utf8_first)]
theorem laid_met (os:Os):laidMet Tryz.prog Rows.moduleOrderUptoRow.laid ((laidWorld os).forCall (fun _ _=>0) ⟨#[],#[.slice none 0 0,.slice none 0 0],[]⟩).memory:=
 laidMet_of_run' 8 (by kernel_rfl) (by kernel_rfl)
theorem reads (os:Os) {H:Type} (enc:TypeId×Value→H):∃ places,DataW.whole enc Tryz.prog ((laidWorld os).forCall (fun _ _=>0) ⟨#[],#[.slice none 0 0,.slice none 0 0],[]⟩).memory Tryz.f6.params.toList Rows.moduleOrderSpec.vars false (#[.slice none 0 0,.slice none 0 0]:Array Value).toList 8=some ([.nil,.nil],[],places):=
 ⟨[],by kernel_rfl⟩
set_option maxRecDepth 100000 in
theorem lifted (os:Os) (started:os.Started) (H:Type) (enc:TypeId×Value→H) (F:Stop.Interp) :
 ReturnsInHanded {} Tryz.checked os 6 .any ((Rows.OpenSpec.upto Rows.moduleOrderSpec).preRow enc Tryz.prog Tryz.f6 Rows.moduleOrderUptoRow.domain false Rows.moduleOrderUptoRow.laid) (((Rows.OpenSpec.upto Rows.moduleOrderSpec).at F).post enc Tryz.prog Tryz.f6 false true false false):=by
 obtain ⟨places,hx⟩:=reads os enc
 refine returnsInHanded_of_row (C := Tryz.checked) (s := Rows.OpenSpec.upto Rows.moduleOrderSpec) own started (by kernel_rfl) Tryz.func6
  (witness_row_at (enc := enc) (C := Tryz.checked) false (laidWorld os) #[.slice none 0 0, .slice none 0 0] rfl (by kernel_rfl) (by kernel_rfl) (by kernel_rfl)
   (OpenSpec.preRow_of_cond 8 hx (by kernel_rfl) (fun k hk=>by cases hk; kernel_rfl) (by kernel_rfl) (laid_met os))) ?_
 intro W base args ds gs before hval hW _ hcond hwt hL hsh _
 exact contract H enc W base args ds gs before hval hW hwt (hcond _ rfl) (QuH hL 2 (by kernel_rfl) Tryz.lays173.m17) (Quy hsh)
theorem fact0:(Rows.moduleOrderUptoRow.inPlace == Tryz.pinned.checked.prog.inPlace 6)=true:=by kernel_rfl
theorem fact1:(Rows.moduleOrderUptoRow.unfollowed == Tryz.pinned.checked.prog.unfollowed 6)=true:=by kernel_rfl
theorem fact2:(Rows.moduleOrderUptoRow.recurses == Tryz.pinned.checked.prog.recurses 6)=true:=by kernel_rfl
theorem fact3:(Rows.moduleOrderUptoRow.named == Tryz.pinned.checked.prog.varsNamed 6)=true:=by kernel_rfl
theorem closed:joinedFacts Tryz.pinned.checked.prog 6 Tryz.f6 (Rows.OpenSpec.upto Rows.moduleOrderSpec).bare Rows.moduleOrderUptoRow=true:=by
 unfold joinedFacts
 rw [fact0,fact1,fact2,fact3]
 kernel_rfl
theorem said:Rows.ModuleOrderUptoSaid:=
 OpenClaim.holds_of_cond 6 Tryz.f6 rfl rfl rfl rfl rfl rfl rfl ⟨rfl, rfl, rfl, rfl, rfl⟩ rfl rfl rfl rfl rfl (by kernel_rfl) Tryz.func6 closed
  (of_decide_eq_true (by kernel_rfl)) (by unfold Func.isWrapper; first | (rw [if_pos (by decide +kernel)]; kernel_rfl) | (rw [if_neg (by decide +kernel)]; exact ⟨rfl,rfl⟩))
  (fun os started H enc _ F=>by rw [OpenClaim.pre_eq_preRow]; exact lifted os started H enc F)
theorem plain (f : FuncId) (fn : Func) (hf : Tryz.pinned.checked.prog.funcNamed "corollary/corollarylaw08.ModuleOrder" = some f) (hfn : Tryz.pinned.checked.prog.funcs[f]? = some fn) :
 true=Tryz.pinned.checked.prog.looks []∧∀ (j:Nat) t,fn.params[j]? = some t→Tryz.pinned.checked.prog.wantsStandIn t=false:=by
 obtain rfl : f = 6 := Option.some.inj ((show Tryz.prog.funcNamed "corollary/corollarylaw08.ModuleOrder" = some 6 by kernel_rfl).symm.trans hf) |>.symm
 obtain rfl:fn=Tryz.f6:=(Option.some.inj (Tryz.func6.symm.trans hfn)).symm
 refine ⟨by kernel_rfl,fun j t ht=>?_⟩
 rw [Tryz.params6] at ht
 have hm:t ∈ [59,79]:=by simpa using Array.mem_of_getElem? ht
 have hall:∀ t ∈ [59,79],Tryz.prog.wantsStandIn t=false:=by
  intro t h
  simp only [List.mem_cons,List.mem_nil_iff,or_false] at h
  rcases h with rfl | rfl
  all_goals kernel_rfl
 exact hall t hm
theorem card:Rows.ModuleOrderUptoCardSaid:=
 Claim7.holds_tied_plain_at .later [] _ _ _ _ said (fun _ h=>by cases h) (by kernel_rfl) (fun _ h=>by cases h) moduleOrderUpto_row_tie rfl ⟨rfl,rfl⟩ (by kernel_rfl) rfl plain (by kernel_rfl)
#print axioms card
end Go.Proofs.YtmeefnmaphmpkaaGreatDoor.moduleOrder
