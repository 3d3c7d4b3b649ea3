/-
  The statement 'ZsetGroupSaid': for every input the law returns true, and the input reads as it did.
-/
import Derived.Test.YtcachkhmjjomkaaDoorA7
import Derived.Test.YtcachkhmjjomkaaDoorCards
import Derived.Test.YtcachkhmjjomkaaDoorTie
import Derived.WalkKit
import Derived.ProofKit
import Derived.OpenShut
import Derived.ShutString
namespace Go.Proofs.YtcachkhmjjomkaaDoor.zsetGroup
open Go.ChangeShapes Go.WideShapes Go.ChangeAt Go.RowKit
open Sx
set_option linter.unusedVariables false
theorem own : ownKnob Tryd.prog.godebug = none := by kernel_rfl
theorem laidOut : laidOutB Tryd.prog = true := by kernel_rfl
theorem walk (W : World) (v0 : Value) (s0 : Sl) (a0 : List En) (h0 : v0 = slv s0) (r0 : EnL (heapOf W) s0 a0) (v1 : Value) (s1 : Sl) (a1 : List En) (h1 : v1 = slv s1) (r1 : EnL (heapOf W) s1 a1) (v2 : Value) (s2 : Sl) (a2 : List En) (h2 : v2 = slv s2) (r2 : EnL (heapOf W) s2 a2) : Sx.Spec Tryd.prog (ctxOf W) 4 [v0, v1, v2] (heapOf W) (fun v _ => v = .bool true) := by
 subst h0
 subst h1
 subst h2
 have h : c_law16_ZsetGroup (ctxOf W) s0 s1 s2 (fun r _ => r = true) (heapOf W) := ZsetGroup_all r0 r1 r2
 unfold c_law16_ZsetGroup at h
 exact h.mono fun v H2 ⟨r, hv, hr⟩ => by rw [hv, hr]
set_option maxRecDepth 100000 in
theorem contract (H : Type) (enc : TypeId × Value → H) (W : World) (base : Nat) (args : Array Value) (ds gs : List (DataW H)) (before : List MemPlace)
 (hval : ∀ (j : Nat) t v, Tryd.f4.params[j]? = some t → args[j]? = some v → Value.okWide Tryd.prog W .any base t v)
 (hW : DataW.Whole enc Tryd.prog Tryd.f4.params.toList Rows.zsetGroupSpec.vars false W args.toList ds gs before)
 (hwt : (DataW.weightsEach Tryd.prog (Tryd.f4.params.toList ++ (OpenSpec.ofChange Rows.zsetGroupSpec).bare.plain.varTypes Tryd.prog) (ds ++ gs)).all (· ≤ reachBytes) = true) :
 Calls Tryd.prog 4 args W fun e W' => ∃ v, e = .returned v ∧ Rows.zsetGroupSpec.post enc Tryd.prog Tryd.f4 false true false false W args v W' := by
 have hW' := hW
 obtain ⟨p, q, hA0, hV, rfl, hfz, hnd⟩ := hW
 have hA : DataW.TrodAll enc Tryd.prog W 0 (fun _ => true) true Tryd.f4.params.toList args.toList ds p := hA0
 have hAk := hA
 rw [Tryd.params4] at hA hval
 obtain ⟨v0, vs0, d0, ds0, p0, q0, hargs, rfl, rfl, t0, u0⟩ := trodAll_cons hA
 obtain ⟨v1, vs1, d1, ds1, p1, q1, rfl, rfl, rfl, t1, u1⟩ := trodAll_cons u0
 obtain ⟨v2, vs2, d2, ds2, p2, q2, rfl, rfl, rfl, t2, u2⟩ := trodAll_cons u1
 obtain ⟨rfl, rfl, rfl⟩ := trodAll_nil u2
 obtain rfl : args = #[v0, v1, v2] := by cases args; simp_all
 obtain ⟨rfl, rfl⟩ := trodVars_none hV
 have hlt : ∀ x ∈ (p0 ++ (p1 ++ (p2 ++ [])) : List MemPlace), x.block < W.heap.size := fun x hx => hW'.lt x (List.mem_append_left _ hx)
 obtain ⟨s0, a0, h0, r0⟩ := argw_ens (hval 0 33 v0 rfl rfl) t0 (wat hwt (i := 0) rfl rfl)
 obtain ⟨s1, a1, h1, r1⟩ := argw_ens (hval 1 33 v1 rfl rfl) t1 (wat hwt (i := 1) rfl rfl)
 obtain ⟨s2, a2, h2, r2⟩ := argw_ens (hval 2 33 v2 rfl rfl) t2 (wat hwt (i := 2) rfl rfl)
 refine (walk W v0 s0 a0 h0 r0 v1 s1 a1 h1 r1 v2 s2 a2 h2 r2 W (st_heapOf W)).mono fun e W' ⟨v, H', he, hst, hv⟩ => ?_
 subst he
 subst hv
 exact ⟨_, rfl, _, _, _, [], _, [], hW', trodAll_mk1 (shut_bool Tryd.underlying4 _), trod_kept laidOut hst (by kernel_rfl) hAk hlt, rfl, hst.frame _, fun h => by cases h⟩
noncomputable def laidWorld (os : Os) : World := laidW Tryd.prog os [(2, lcells 6 (Rows.laid_unicode_utf8_acceptRanges (H := Unit))), (1, lcells 6 Rows.laid_unicode_utf8_first)]
theorem laid_met (os : Os) : laidMet Tryd.prog Rows.zsetGroupRow.laid ((laidWorld os).forCall (fun _ _ => 0) ⟨#[], #[.slice none 0 0, .slice none 0 0, .slice none 0 0], []⟩).memory :=
 laidMet_of_run' 8 (by kernel_rfl) (by kernel_rfl)
theorem reads (os : Os) {H : Type} (enc : TypeId × Value → H) : ∃ places, DataW.whole enc Tryd.prog ((laidWorld os).forCall (fun _ _ => 0) ⟨#[], #[.slice none 0 0, .slice none 0 0, .slice none 0 0], []⟩).memory Tryd.f4.params.toList Rows.zsetGroupSpec.vars false (#[.slice none 0 0, .slice none 0 0, .slice none 0 0] : Array Value).toList 8 = some ([.nil, .nil, .nil], [], places) :=
 ⟨[], by kernel_rfl⟩
set_option maxRecDepth 100000 in
theorem lifted (os : Os) (started : os.Started) (H : Type) (enc : TypeId × Value → H) (F : Stop.Interp) :
 ReturnsInHanded {} Tryd.checked os 4 .any ((OpenSpec.ofChange Rows.zsetGroupSpec).preRow enc Tryd.prog Tryd.f4 Rows.zsetGroupRow.domain false Rows.zsetGroupRow.laid) (((OpenSpec.ofChange Rows.zsetGroupSpec).at F).post enc Tryd.prog Tryd.f4 false true false false) := by
 obtain ⟨places, hx⟩ := reads os enc
 refine returnsInHanded_of_row (C := Tryd.checked) (s := OpenSpec.ofChange Rows.zsetGroupSpec) own started (by kernel_rfl) Tryd.func4
  (witness_row_at (enc := enc) (C := Tryd.checked) false (laidWorld os) #[.slice none 0 0, .slice none 0 0, .slice none 0 0] rfl (by kernel_rfl) (by kernel_rfl) (by kernel_rfl)
   (OpenSpec.preRow_of_cond 8 hx (by kernel_rfl) (fun k hk => by cases hk) (by kernel_rfl) (laid_met os))) ?_
 intro W base args ds gs before hval hW _ _ hwt hL hsh _
 exact contract H enc W base args ds gs before hval hW hwt
theorem said : Rows.ZsetGroupSaid :=
 OpenClaim.holds_of_cond 4 Tryd.f4 rfl rfl rfl rfl rfl rfl rfl ⟨rfl, rfl, rfl, rfl, rfl⟩ rfl rfl rfl rfl rfl (by kernel_rfl) Tryd.func4 (by kernel_rfl)
  (of_decide_eq_true (by kernel_rfl)) (by unfold Func.isWrapper; first | (rw [if_pos (by decide +kernel)]; kernel_rfl) | (rw [if_neg (by decide +kernel)]; exact ⟨rfl, rfl⟩))
  (fun os started H enc _ F => by rw [OpenClaim.pre_eq_preRow]; exact lifted os started H enc F)
theorem plain (f : FuncId) (fn : Func) (hf : Tryd.pinned.checked.prog.funcNamed "corollary/corollarylaw16.ZsetGroup" = some f) (hfn : Tryd.pinned.checked.prog.funcs[f]? = some fn) :
 false = Tryd.pinned.checked.prog.looks [] ∧ ∀ (j : Nat) t, fn.params[j]? = some t → Tryd.pinned.checked.prog.wantsStandIn t = false := by
 obtain rfl : f = 4 := Option.some.inj ((show Tryd.prog.funcNamed "corollary/corollarylaw16.ZsetGroup" = some 4 by kernel_rfl).symm.trans hf) |>.symm
 obtain rfl : fn = Tryd.f4 := (Option.some.inj (Tryd.func4.symm.trans hfn)).symm
 refine ⟨by kernel_rfl, fun j t ht => ?_⟩
 rw [Tryd.params4] at ht
 have hm : t ∈ [33, 33, 33] := by simpa using Array.mem_of_getElem? ht
 have hall : ∀ t ∈ [33, 33, 33], Tryd.prog.wantsStandIn t = false := by
  intro t h
  simp only [List.mem_cons, List.mem_nil_iff, or_false] at h
  rcases h with rfl | rfl | rfl
  all_goals kernel_rfl
 exact hall t hm
theorem card : Rows.ZsetGroupCardSaid :=
 Claim7.holds_tied_plain_at .later [] _ _ _ _ said (fun _ h => by cases h) (by kernel_rfl) (fun _ h => by cases h) zsetGroup_row_tie rfl ⟨rfl, rfl⟩ (by kernel_rfl) rfl plain (by kernel_rfl)
#print axioms card
end Go.Proofs.YtcachkhmjjomkaaDoor.zsetGroup
