/-
  The statement 'ModuleFlattensUptoSaid': for every input of bulk at most 1048576 the law returns true, and the input reads azs it did.
-/
import Derived.Test.YtmeefnmaphmpkaaGreatDoorBF24
import Derived.Test.YtmeefnmaphmpkaaGreatDoorCards
import Derived.Test.YtmeefnmaphmpkaaGreatDoorTie
import Derived.WalkKit
import Derived.ProofKit
import Derived.OpenShut
import Derived.ShutString
import Derived.JoinedCond
namespace Go.Proofs.YtmeefnmaphmpkaaGreatDoor.moduleFlattens
open Go.ChangeShapes Go.WideShapes Go.ChangeAt Go.RowKit
open Sx
set_option linter.unusedVariables false
theorem own:ownKnob Tryz.prog.godebug=none:=by kernel_rfl
theorem laidOut:laidOutB Tryz.prog=true:=by kernel_rfl
theorem walk (W:World) (hP:PowT (ctxOf W)) (hM:MaxC (ctxOf W)) (v0:Value) (s0:Sl) (a0:List MoP) (h0:v0=slv s0) (r0:MpL (heapOf W) s0 a0∧(∀ m ∈ a0,moSz m.e≤1048576)∧a0.length≤1048576∧s0.len≤s0.cap):Sx.Spec Tryz.prog (ctxOf W) 4 [v0] (heapOf W) (fun v _=>v=.bool true):=by
 subst h0
 have h:Qa7 (ctxOf W) s0 (fun r _=>r=true) (heapOf W):=QlZ hM (QxO hP) r0
 unfold Qa7 at h
 exact h.mono fun v H2 ⟨r,hv,hr⟩=>by rw [hv,hr]
set_option maxRecDepth 100000 in
theorem contract (H:Type) (enc:TypeId×Value→H) (W:World) (base:Nat) (args:Array Value) (ds gs:List (DataW H)) (before:List MemPlace)
 (hval:∀ (j:Nat) t v,Tryz.f4.params[j]? = some t→args[j]? = some v→Value.okWide Tryz.prog W .any base t v)
 (hW:DataW.Whole enc Tryz.prog Tryz.f4.params.toList Rows.moduleFlattensSpec.vars false W args.toList ds gs before)
 (hwt:(DataW.weightsEach Tryz.prog (Tryz.f4.params.toList++(OpenSpec.ofChange Rows.moduleFlattensSpec).bare.plain.varTypes Tryz.prog) (ds++gs)).all (·≤reachBytes)=true) (hk:Rows.uptoSmall H (ds++gs)=true) (hP:PowT (ctxOf W)) (hM:MaxC (ctxOf W)) :
 Calls Tryz.prog 4 args W fun e W'=>∃ v,e=.returned v∧Rows.moduleFlattensSpec.post enc Tryz.prog Tryz.f4 false true false false W args v W':=by
 have hW':=hW
 obtain ⟨p,q,hA0,hV,rfl,hfz,hnd⟩:=hW
 have hA:DataW.TrodAll enc Tryz.prog W 0 (fun _=>true) true Tryz.f4.params.toList args.toList ds p:=hA0
 have hAk:=hA
 rw [Tryz.params4] at hA hval
 obtain ⟨v0,vs0,d0,ds0,p0,q0,hargs,rfl,rfl,t0,u0⟩:=trodAll_cons hA
 obtain ⟨rfl,rfl,rfl⟩:=trodAll_nil u0
 obtain rfl:args = #[v0]:=by cases args; simp_all
 obtain ⟨rfl,rfl⟩:=trodVars_none hV
 have hlt:∀ x ∈ (p0++[]:List MemPlace),x.block < W.heap.size:=fun x hx=>hW'.lt x (List.mem_append_left _ hx)
 obtain ⟨s0,a0,h0,r0⟩:=Qt3 (hval 0 59 v0 rfl rfl) t0 (Qv4 hk (List.mem_append_left _ (List.mem_cons_self ..)))
 refine (walk W hP hM v0 s0 a0 h0 r0 W (Qu7 W)).mono fun e W' ⟨v,H',he,hst,hv⟩=>?_
 subst he
 subst hv
 exact ⟨_,rfl,_,_,_,[],_,[],hW',trodAll_mk1 (shut_bool Tryz.underlying4 _),Qr3 laidOut hst (by kernel_rfl) hAk hlt,rfl,hst.frame _,fun h=>by cases h⟩
noncomputable def laidWorld (os:Os):World:=laidW Tryz.prog os [(2,lcells 6 (Rows.laid_math_bits_deBruijn32tab (H:=Unit))),(3,lcells 6 (Rows.laid_math_bits_deBruijn64tab (H:=Unit))),(1,lcells 6 (Rows.laid_internal_strconv_uint64pow10 (H:=Unit))),(5,lcells 6 (Rows.laid_unicode_utf8_acceptRanges (H:=Unit))),(4,lcells 6 Rows.laid_unicode_utf8_first)]
theorem laid_met (os:Os):laidMet Tryz.prog Rows.moduleFlattensUptoRow.laid ((laidWorld os).forCall (fun _ _=>0) ⟨#[],#[.slice none 0 0],[]⟩).memory:=
 laidMet_of_run' 8 (by kernel_rfl) (by kernel_rfl)
theorem reads (os:Os) {H:Type} (enc:TypeId×Value→H):∃ places,DataW.whole enc Tryz.prog ((laidWorld os).forCall (fun _ _=>0) ⟨#[],#[.slice none 0 0],[]⟩).memory Tryz.f4.params.toList Rows.moduleFlattensSpec.vars false (#[.slice none 0 0]:Array Value).toList 8=some ([.nil],[],places):=
 ⟨[],by kernel_rfl⟩
set_option maxRecDepth 100000 in
theorem lifted (os:Os) (started:os.Started) (H:Type) (enc:TypeId×Value→H) (F:Stop.Interp) :
 ReturnsInHanded {} Tryz.checked os 4 .any ((Rows.OpenSpec.upto Rows.moduleFlattensSpec).preRow enc Tryz.prog Tryz.f4 Rows.moduleFlattensUptoRow.domain false Rows.moduleFlattensUptoRow.laid) (((Rows.OpenSpec.upto Rows.moduleFlattensSpec).at F).post enc Tryz.prog Tryz.f4 false true false false):=by
 obtain ⟨places,hx⟩:=reads os enc
 refine returnsInHanded_of_row (C := Tryz.checked) (s := Rows.OpenSpec.upto Rows.moduleFlattensSpec) own started (by kernel_rfl) Tryz.func4
  (witness_row_at (enc := enc) (C := Tryz.checked) false (laidWorld os) #[.slice none 0 0] rfl (by kernel_rfl) (by kernel_rfl) (by kernel_rfl)
   (OpenSpec.preRow_of_cond 8 hx (by kernel_rfl) (fun k hk=>by cases hk; kernel_rfl) (by kernel_rfl) (laid_met os))) ?_
 intro W base args ds gs before hval hW _ hcond hwt hL hsh _
 exact contract H enc W base args ds gs before hval hW hwt (hcond _ rfl) (Qxh hL 2 (by kernel_rfl) Tryz.lays173.m17) (Qw6 hsh)
theorem fact0:(Rows.moduleFlattensUptoRow.inPlace == Tryz.pinned.checked.prog.inPlace 4)=true:=by kernel_rfl
theorem fact1:(Rows.moduleFlattensUptoRow.unfollowed == Tryz.pinned.checked.prog.unfollowed 4)=true:=by kernel_rfl
theorem fact2:(Rows.moduleFlattensUptoRow.recurses == Tryz.pinned.checked.prog.recurses 4)=true:=by kernel_rfl
theorem fact3:(Rows.moduleFlattensUptoRow.named == Tryz.pinned.checked.prog.varsNamed 4)=true:=by kernel_rfl
theorem closed:joinedFacts Tryz.pinned.checked.prog 4 Tryz.f4 (Rows.OpenSpec.upto Rows.moduleFlattensSpec).bare Rows.moduleFlattensUptoRow=true:=by
 unfold joinedFacts
 rw [fact0,fact1,fact2,fact3]
 kernel_rfl
theorem said:Rows.ModuleFlattensUptoSaid:=
 OpenClaim.holds_of_cond 4 Tryz.f4 rfl rfl rfl rfl rfl rfl rfl ⟨rfl, rfl, rfl, rfl, rfl⟩ rfl rfl rfl rfl rfl (by kernel_rfl) Tryz.func4 closed
  (of_decide_eq_true (by kernel_rfl)) (by unfold Func.isWrapper; first | (rw [if_pos (by decide +kernel)]; kernel_rfl) | (rw [if_neg (by decide +kernel)]; exact ⟨rfl,rfl⟩))
  (fun os started H enc _ F=>by rw [OpenClaim.pre_eq_preRow]; exact lifted os started H enc F)
theorem plain (f : FuncId) (fn : Func) (hf : Tryz.pinned.checked.prog.funcNamed "corollary/corollarylaw08.ModuleFlattens" = some f) (hfn : Tryz.pinned.checked.prog.funcs[f]? = some fn) :
 true=Tryz.pinned.checked.prog.looks []∧∀ (j:Nat) t,fn.params[j]? = some t→Tryz.pinned.checked.prog.wantsStandIn t=false:=by
 obtain rfl : f = 4 := Option.some.inj ((show Tryz.prog.funcNamed "corollary/corollarylaw08.ModuleFlattens" = some 4 by kernel_rfl).symm.trans hf) |>.symm
 obtain rfl:fn=Tryz.f4:=(Option.some.inj (Tryz.func4.symm.trans hfn)).symm
 refine ⟨by kernel_rfl,fun j t ht=>?_⟩
 rw [Tryz.params4] at ht
 have hm:t ∈ [59]:=by simpa using Array.mem_of_getElem? ht
 have hall:∀ t ∈ [59],Tryz.prog.wantsStandIn t=false:=by
  intro t h
  simp only [List.mem_cons,List.mem_nil_iff,or_false] at h
  rcases h with rfl
  all_goals kernel_rfl
 exact hall t hm
theorem card:Rows.ModuleFlattensUptoCardSaid:=
 Claim7.holds_tied_plain_at .later [] _ _ _ _ said (fun _ h=>by cases h) (by kernel_rfl) (fun _ h=>by cases h) moduleFlattensUpto_row_tie rfl ⟨rfl,rfl⟩ (by kernel_rfl) rfl plain (by kernel_rfl)
#print axioms card
end Go.Proofs.YtmeefnmaphmpkaaGreatDoor.moduleFlattens
