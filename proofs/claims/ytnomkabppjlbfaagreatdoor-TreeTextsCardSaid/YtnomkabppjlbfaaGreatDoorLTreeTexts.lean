/-
  The statement 'TreeTextsSaid': for every input the law returns true, and the input reads as it did.
-/
import Derived.Test.YtnomkabppjlbfaaGreatDoorAT7
import Derived.Test.YtnomkabppjlbfaaGreatDoorCards
import Derived.Test.YtnomkabppjlbfaaGreatDoorTie
import Derived.WalkKit
import Derived.ProofKit
import Derived.OpenShut
import Derived.ShutString
namespace Go.Proofs.YtnomkabppjlbfaaGreatDoor.treeTexts
open Go.ChangeShapes Go.WideShapes Go.ChangeAt Go.RowKit
open Sx
set_option linter.unusedVariables false
theorem own : ownKnob Tryz.prog.godebug = none := by kernel_rfl
theorem laidOut : laidOutB Tryz.prog = true := by kernel_rfl
theorem walk (W : World) (hP : PowT (ctxOf W)) (hM : MaxC (ctxOf W)) (v0 : Value) (x0 : Qi) (a0 : MoV) (h0 : v0 = .agg (Qi.c x0).toArray) (r0 : MoIs (heapOf W) a0 x0) (v1 : Value) (x1 : Qi) (a1 : MoV) (h1 : v1 = .agg (Qi.c x1).toArray) (r1 : MoIs (heapOf W) a1 x1) (v2 : Value) (x2 : Qa) (a2 : ExV) (h2 : v2 = .agg (Qa.c x2).toArray) (r2 : ExIs (heapOf W) a2 x2) (v3 : Value) (x3 : Qa) (a3 : ExV) (h3 : v3 = .agg (Qa.c x3).toArray) (r3 : ExIs (heapOf W) a3 x3) : Sx.Spec Tryz.prog (ctxOf W) 7 [v0, v1, v2, v3] (heapOf W) (fun v _ => v = .bool true) := by
 subst h0
 subst h1
 subst h2
 subst h3
 have h : Qco (ctxOf W) x0 x1 x2 x3 (fun r _ => r = true) (heapOf W) := Qoa hM (QuN hP) r0 r1 r2 r3
 unfold Qco at h
 exact h.mono fun v H2 ⟨r, hv, hr⟩ => by rw [hv, hr]
set_option maxRecDepth 100000 in
theorem contract (H : Type) (enc : TypeId × Value → H) (W : World) (base : Nat) (args : Array Value) (ds gs : List (DataW H)) (before : List MemPlace)
 (hval : ∀ (j : Nat) t v, Tryz.f7.params[j]? = some t → args[j]? = some v → Value.okWide Tryz.prog W .any base t v)
 (hW : DataW.Whole enc Tryz.prog Tryz.f7.params.toList Rows.treeTextsSpec.vars false W args.toList ds gs before)
 (hwt : (DataW.weightsEach Tryz.prog (Tryz.f7.params.toList ++ (OpenSpec.ofChange Rows.treeTextsSpec).bare.plain.varTypes Tryz.prog) (ds ++ gs)).all (· ≤ reachBytes) = true) (hP : PowT (ctxOf W)) (hM : MaxC (ctxOf W)) :
 Calls Tryz.prog 7 args W fun e W' => ∃ v, e = .returned v ∧ Rows.treeTextsSpec.post enc Tryz.prog Tryz.f7 false true false false W args v W' := by
 have hW' := hW
 obtain ⟨p, q, hA0, hV, rfl, hfz, hnd⟩ := hW
 have hA : DataW.TrodAll enc Tryz.prog W 0 (fun _ => true) true Tryz.f7.params.toList args.toList ds p := hA0
 have hAk := hA
 rw [Tryz.params7] at hA hval
 obtain ⟨v0, vs0, d0, ds0, p0, q0, hargs, rfl, rfl, t0, u0⟩ := trodAll_cons hA
 obtain ⟨v1, vs1, d1, ds1, p1, q1, rfl, rfl, rfl, t1, u1⟩ := trodAll_cons u0
 obtain ⟨v2, vs2, d2, ds2, p2, q2, rfl, rfl, rfl, t2, u2⟩ := trodAll_cons u1
 obtain ⟨v3, vs3, d3, ds3, p3, q3, rfl, rfl, rfl, t3, u3⟩ := trodAll_cons u2
 obtain ⟨rfl, rfl, rfl⟩ := trodAll_nil u3
 obtain rfl : args = #[v0, v1, v2, v3] := by cases args; simp_all
 obtain ⟨rfl, rfl⟩ := trodVars_none hV
 have hlt : ∀ x ∈ (p0 ++ (p1 ++ (p2 ++ (p3 ++ []))) : List MemPlace), x.block < W.heap.size := fun x hx => hW'.lt x (List.mem_append_left _ hx)
 obtain ⟨a0, x0, h0, r0⟩ := Qqk (hval 0 28 v0 rfl rfl) t0 (wat hwt (i := 0) rfl rfl)
 obtain ⟨a1, x1, h1, r1⟩ := Qqk (hval 1 28 v1 rfl rfl) t1 (wat hwt (i := 1) rfl rfl)
 obtain ⟨a2, x2, h2, r2⟩ := Qo8 (hval 2 47 v2 rfl rfl) t2 (wat hwt (i := 2) rfl rfl)
 obtain ⟨a3, x3, h3, r3⟩ := Qo8 (hval 3 47 v3 rfl rfl) t3 (wat hwt (i := 3) rfl rfl)
 refine (walk W hP hM v0 x0 a0 h0 r0 v1 x1 a1 h1 r1 v2 x2 a2 h2 r2 v3 x3 a3 h3 r3 W (Qsu W)).mono fun e W' ⟨v, H', he, hst, hv⟩ => ?_
 subst he
 subst hv
 exact ⟨_, rfl, _, _, _, [], _, [], hW', trodAll_mk1 (shut_bool Tryz.underlying4 _), QpA laidOut hst (by kernel_rfl) hAk hlt, rfl, hst.frame _, fun h => by cases h⟩
noncomputable def laidWorld (os : Os) : World := laidW Tryz.prog os [(2, lcells 6 (Rows.laid_math_bits_deBruijn32tab (H := Unit))), (3, lcells 6 (Rows.laid_math_bits_deBruijn64tab (H := Unit))), (1, lcells 6 (Rows.laid_internal_strconv_uint64pow10 (H := Unit))), (5, lcells 6 (Rows.laid_unicode_utf8_acceptRanges (H := Unit))), (4, lcells 6 Rows.laid_unicode_utf8_first)]
theorem laid_met (os : Os) : laidMet Tryz.prog Rows.treeTextsRow.laid ((laidWorld os).forCall (fun _ _ => 0) ⟨#[], #[.agg (Qi.c Qi.zero).toArray, .agg (Qi.c Qi.zero).toArray, .agg (Qa.c Qa.zero).toArray, .agg (Qa.c Qa.zero).toArray], []⟩).memory :=
 laidMet_of_run' 8 (by kernel_rfl) (by kernel_rfl)
theorem reads (os : Os) {H : Type} (enc : TypeId × Value → H) : ∃ places, DataW.whole enc Tryz.prog ((laidWorld os).forCall (fun _ _ => 0) ⟨#[], #[.agg (Qi.c Qi.zero).toArray, .agg (Qi.c Qi.zero).toArray, .agg (Qa.c Qa.zero).toArray, .agg (Qa.c Qa.zero).toArray], []⟩).memory Tryz.f7.params.toList Rows.treeTextsSpec.vars false (#[.agg (Qi.c Qi.zero).toArray, .agg (Qi.c Qi.zero).toArray, .agg (Qa.c Qa.zero).toArray, .agg (Qa.c Qa.zero).toArray] : Array Value).toList 8 = some ([.agg [.lit (.string []), .nil, .nil, .nil, .nil, .nil], .agg [.lit (.string []), .nil, .nil, .nil, .nil, .nil], .agg [.lit (.int .u8 0), .agg [.lit (.int .i64 0), .lit (.int .i64 0)], .lit (.string []), .agg [.lit (.int .u8 0), .lit (.int .i64 0), .lit (.string []), .nil], .nil], .agg [.lit (.int .u8 0), .agg [.lit (.int .i64 0), .lit (.int .i64 0)], .lit (.string []), .agg [.lit (.int .u8 0), .lit (.int .i64 0), .lit (.string []), .nil], .nil]], [], places) :=
 ⟨[], by kernel_rfl⟩
set_option maxRecDepth 100000 in
theorem lifted (os : Os) (started : os.Started) (H : Type) (enc : TypeId × Value → H) (F : Stop.Interp) :
 ReturnsInHanded {} Tryz.checked os 7 .any ((OpenSpec.ofChange Rows.treeTextsSpec).preRow enc Tryz.prog Tryz.f7 Rows.treeTextsRow.domain false Rows.treeTextsRow.laid) (((OpenSpec.ofChange Rows.treeTextsSpec).at F).post enc Tryz.prog Tryz.f7 false true false false) := by
 obtain ⟨places, hx⟩ := reads os enc
 refine returnsInHanded_of_row (C := Tryz.checked) (s := OpenSpec.ofChange Rows.treeTextsSpec) own started (by kernel_rfl) Tryz.func7
  (witness_row_at (enc := enc) (C := Tryz.checked) false (laidWorld os) #[.agg (Qi.c Qi.zero).toArray, .agg (Qi.c Qi.zero).toArray, .agg (Qa.c Qa.zero).toArray, .agg (Qa.c Qa.zero).toArray] rfl (by kernel_rfl) (by kernel_rfl) (by kernel_rfl)
   (OpenSpec.preRow_of_cond 8 hx (by kernel_rfl) (fun k hk => by cases hk) (by kernel_rfl) (laid_met os))) ?_
 intro W base args ds gs before hval hW _ _ hwt hL hsh _
 exact contract H enc W base args ds gs before hval hW hwt (Qup hL 2 (by kernel_rfl) Tryz.lays173.m17) (Quk hsh)
theorem fact0 : (Rows.treeTextsRow.inPlace == Tryz.pinned.checked.prog.inPlace 7) = true := by kernel_rfl
theorem fact1 : (Rows.treeTextsRow.unfollowed == Tryz.pinned.checked.prog.unfollowed 7) = true := by kernel_rfl
theorem fact2 : (Rows.treeTextsRow.recurses == Tryz.pinned.checked.prog.recurses 7) = true := by kernel_rfl
theorem fact3 : (Rows.treeTextsRow.named == Tryz.pinned.checked.prog.varsNamed 7) = true := by kernel_rfl
theorem closed : joinedFacts Tryz.pinned.checked.prog 7 Tryz.f7 (OpenSpec.ofChange Rows.treeTextsSpec).bare Rows.treeTextsRow = true := by
 unfold joinedFacts
 rw [fact0, fact1, fact2, fact3]
 kernel_rfl
theorem said : Rows.TreeTextsSaid :=
 OpenClaim.holds_of_cond 7 Tryz.f7 rfl rfl rfl rfl rfl rfl rfl ⟨rfl, rfl, rfl, rfl, rfl⟩ rfl rfl rfl rfl rfl (by kernel_rfl) Tryz.func7 closed
  (of_decide_eq_true (by kernel_rfl)) (by unfold Func.isWrapper; first | (rw [if_pos (by decide +kernel)]; kernel_rfl) | (rw [if_neg (by decide +kernel)]; exact ⟨rfl, rfl⟩))
  (fun os started H enc _ F => by rw [OpenClaim.pre_eq_preRow]; exact lifted os started H enc F)
theorem plain (f : FuncId) (fn : Func) (hf : Tryz.pinned.checked.prog.funcNamed "corollary/corollarylaw06.TreeTexts" = some f) (hfn : Tryz.pinned.checked.prog.funcs[f]? = some fn) :
 false = Tryz.pinned.checked.prog.looks [] ∧ ∀ (j : Nat) t, fn.params[j]? = some t → Tryz.pinned.checked.prog.wantsStandIn t = false := by
 obtain rfl : f = 7 := Option.some.inj ((show Tryz.prog.funcNamed "corollary/corollarylaw06.TreeTexts" = some 7 by kernel_rfl).symm.trans hf) |>.symm
 obtain rfl : fn = Tryz.f7 := (Option.some.inj (Tryz.func7.symm.trans hfn)).symm
 refine ⟨by kernel_rfl, fun j t ht => ?_⟩
 rw [Tryz.params7] at ht
 have hm : t ∈ [28, 28, 47, 47] := by simpa using Array.mem_of_getElem? ht
 have hall : ∀ t ∈ [28, 28, 47, 47], Tryz.prog.wantsStandIn t = false := by
  intro t h
  simp only [List.mem_cons, List.mem_nil_iff, or_false] at h
  rcases h with rfl | rfl | rfl | rfl
  all_goals kernel_rfl
 exact hall t hm
theorem card : Rows.TreeTextsCardSaid :=
 Claim7.holds_tied_plain_at .later [] _ _ _ _ said (fun _ h => by cases h) (by kernel_rfl) (fun _ h => by cases h) treeTexts_row_tie rfl ⟨rfl, rfl⟩ (by kernel_rfl) rfl plain (by kernel_rfl)
#print axioms card
end Go.Proofs.YtnomkabppjlbfaaGreatDoor.treeTexts
