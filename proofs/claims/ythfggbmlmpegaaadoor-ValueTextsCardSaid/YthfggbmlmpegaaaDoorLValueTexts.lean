/-
  The statement 'ValueTextsSaid': for every input the law returns true, and the input reads as it did.
-/
import Derived.Test.YthfggbmlmpegaaaDoorA5
import Derived.Test.YthfggbmlmpegaaaDoorCards
import Derived.Test.YthfggbmlmpegaaaDoorTie
import Derived.WalkKit
import Derived.ProofKit
import Derived.OpenShut
import Derived.ShutString
namespace Go.Proofs.YthfggbmlmpegaaaDoor.valueTexts
open Go.ChangeShapes Go.WideShapes Go.ChangeAt Go.RowKit
open Sx
set_option linter.unusedVariables false
theorem own : ownKnob Tryd.prog.godebug = none := by kernel_rfl
theorem laidOut : laidOutB Tryd.prog = true := by kernel_rfl

theorem valT : ValT Tryd.prog 24 22 := ⟨⟨_, Tryd.underlying24, rfl, ⟨_, _, rfl, rfl, rfl, Tryd.underlying5, by kernel_rfl⟩, ⟨_, _, rfl, rfl, rfl, Tryd.underlying2, by kernel_rfl⟩, ⟨_, _, rfl, rfl, rfl, Tryd.underlying9, by kernel_rfl⟩, ⟨_, rfl, rfl, rfl, by kernel_rfl⟩⟩, by kernel_rfl, Tryd.underlying22⟩

theorem walk (W : World) (hP : PowT (ctxOf W)) (v0 : Value) (x0 : TV) (a0 : V) (h0 : v0 = .agg (T_api_Value.c x0).toArray) (r0 : VIs (heapOf W) a0 x0) (n0 : VB a0) (v1 : Value) (x1 : TV) (a1 : V) (h1 : v1 = .agg (T_api_Value.c x1).toArray) (r1 : VIs (heapOf W) a1 x1) (n1 : VB a1) : Sx.Spec Tryd.prog (ctxOf W) 5 [v0, v1] (heapOf W) (fun v _ => v = .bool true) := by
  subst h0
  subst h1
  have h : c_law02_ValueTexts (ctxOf W) x0 x1 (fun r _ => r = true) (heapOf W) := ValueTexts_ok (fmt_ok hP) r0 r1 n0 n1 (k := fun _ => rfl)
  unfold c_law02_ValueTexts at h
  exact h.mono fun v H2 ⟨r, hv, hr⟩ => by rw [hv, hr]

set_option maxRecDepth 100000 in
theorem contract (H : Type) (enc : TypeId × Value → H) (W : World) (base : Nat) (args : Array Value) (ds gs : List (DataW H)) (before : List MemPlace)
    (hval : ∀ (j : Nat) t v, Tryd.f5.params[j]? = some t → args[j]? = some v → Value.okWide Tryd.prog W .any base t v)
    (hW : DataW.Whole enc Tryd.prog Tryd.f5.params.toList Rows.valueTextsSpec.vars false W args.toList ds gs before)
    (hwt : (DataW.weightsEach Tryd.prog (Tryd.f5.params.toList ++ (OpenSpec.ofChange Rows.valueTextsSpec).bare.plain.varTypes Tryd.prog) (ds ++ gs)).all (· ≤ reachBytes) = true) (hP : PowT (ctxOf W)) :
    Calls Tryd.prog 5 args W fun e W' => ∃ v, e = .returned v ∧ Rows.valueTextsSpec.post enc Tryd.prog Tryd.f5 false true false false W args v W' := by
  have hW' := hW
  obtain ⟨p, q, hA0, hV, rfl, hfz, hnd⟩ := hW
  have hA : DataW.TrodAll enc Tryd.prog W 0 (fun _ => true) true Tryd.f5.params.toList args.toList ds p := hA0
  have hAk := hA
  rw [Tryd.params5] at hA hval
  obtain ⟨v0, vs0, d0, ds0, p0, q0, hargs, rfl, rfl, t0, u0⟩ := trodAll_cons hA
  obtain ⟨v1, vs1, d1, ds1, p1, q1, rfl, rfl, rfl, t1, u1⟩ := trodAll_cons u0
  obtain ⟨rfl, rfl, rfl⟩ := trodAll_nil u1
  obtain rfl : args = #[v0, v1] := by cases args; simp_all
  obtain ⟨rfl, rfl⟩ := trodVars_none hV
  have hlt : ∀ x ∈ (p0 ++ (p1 ++ []) : List MemPlace), x.block < W.heap.size := fun x hx => hW'.lt x (List.mem_append_left _ hx)
  obtain ⟨a0, x0, h0, r0, n0⟩ := argw_val valT (by rw [show Tryd.prog.bytesOf 24 = 56 by kernel_rfl]; omega) (hval 0 24 v0 rfl rfl) t0 (wat hwt (i := 0) rfl rfl)
  obtain ⟨a1, x1, h1, r1, n1⟩ := argw_val valT (by rw [show Tryd.prog.bytesOf 24 = 56 by kernel_rfl]; omega) (hval 1 24 v1 rfl rfl) t1 (wat hwt (i := 1) rfl rfl)
  refine (walk W hP v0 x0 a0 h0 r0 n0 v1 x1 a1 h1 r1 n1 W (st_heapOf W)).mono fun e W' ⟨v, H', he, hst, hv⟩ => ?_
  subst he
  subst hv
  exact ⟨_, rfl, _, _, _, [], _, [], hW', trodAll_mk1 (shut_bool Tryd.underlying4 _), trod_kept laidOut hst (by kernel_rfl) hAk hlt, rfl, hst.frame _, fun h => by cases h⟩

noncomputable def laidWorld (os : Os) : World := laidW Tryd.prog os [(2, lcells 6 (Rows.laid_math_bits_deBruijn32tab (H := Unit))), (3, lcells 6 (Rows.laid_math_bits_deBruijn64tab (H := Unit))), (0, lcells 6 (Rows.laid_internal_strconv_uint64pow10 (H := Unit))), (5, lcells 6 (Rows.laid_unicode_utf8_acceptRanges (H := Unit))), (4, lcells 6 Rows.laid_unicode_utf8_first)]
theorem laid_met (os : Os) : laidMet Tryd.prog Rows.valueTextsRow.laid ((laidWorld os).forCall (fun _ _ => 0) ⟨#[], #[.agg (T_api_Value.c T_api_Value.zero).toArray, .agg (T_api_Value.c T_api_Value.zero).toArray], []⟩).memory :=
  laidMet_of_run' 8 (by kernel_rfl) (by kernel_rfl)
theorem reads (os : Os) {H : Type} (enc : TypeId × Value → H) : ∃ places, DataW.whole enc Tryd.prog ((laidWorld os).forCall (fun _ _ => 0) ⟨#[], #[.agg (T_api_Value.c T_api_Value.zero).toArray, .agg (T_api_Value.c T_api_Value.zero).toArray], []⟩).memory Tryd.f5.params.toList Rows.valueTextsSpec.vars false (#[.agg (T_api_Value.c T_api_Value.zero).toArray, .agg (T_api_Value.c T_api_Value.zero).toArray] : Array Value).toList 8 = some ([.agg [.lit (.int .u8 0), .lit (.int .i64 0), .lit (.string []), .nil], .agg [.lit (.int .u8 0), .lit (.int .i64 0), .lit (.string []), .nil]], [], places) :=
  ⟨[], by kernel_rfl⟩

set_option maxRecDepth 100000 in
theorem lifted (os : Os) (started : os.Started) (H : Type) (enc : TypeId × Value → H) (F : Stop.Interp) :
    ReturnsInHanded {} Tryd.checked os 5 .any ((OpenSpec.ofChange Rows.valueTextsSpec).preRow enc Tryd.prog Tryd.f5 Rows.valueTextsRow.domain false Rows.valueTextsRow.laid) (((OpenSpec.ofChange Rows.valueTextsSpec).at F).post enc Tryd.prog Tryd.f5 false true false false) := by
  obtain ⟨places, hx⟩ := reads os enc
  refine returnsInHanded_of_row (C := Tryd.checked) (s := OpenSpec.ofChange Rows.valueTextsSpec) own started (by kernel_rfl) Tryd.func5
    (witness_row_at (enc := enc) (C := Tryd.checked) false (laidWorld os) #[.agg (T_api_Value.c T_api_Value.zero).toArray, .agg (T_api_Value.c T_api_Value.zero).toArray] rfl (by kernel_rfl) (by kernel_rfl) (by kernel_rfl)
      (OpenSpec.preRow_of_cond 8 hx (by kernel_rfl) (fun k hk => by cases hk) (by kernel_rfl) (laid_met os))) ?_
  intro W base args ds gs before hval hW _ _ hwt hL _ _
  exact contract H enc W base args ds gs before hval hW hwt (pow_met hL 2 (by kernel_rfl) Tryd.lays173.m17)

theorem said : Rows.ValueTextsSaid :=
  OpenClaim.holds_of_cond 5 Tryd.f5 rfl rfl rfl rfl rfl rfl rfl ⟨rfl, rfl, rfl, rfl, rfl⟩ rfl rfl rfl rfl rfl (by kernel_rfl) Tryd.func5 (by kernel_rfl)
    (of_decide_eq_true (by kernel_rfl)) (by unfold Func.isWrapper; first | (rw [if_pos (by decide +kernel)]; kernel_rfl) | (rw [if_neg (by decide +kernel)]; exact ⟨rfl, rfl⟩))
    (fun os started H enc _ F => by rw [OpenClaim.pre_eq_preRow]; exact lifted os started H enc F)

theorem plain (f : FuncId) (fn : Func) (hf : Tryd.pinned.checked.prog.funcNamed "corollary/corollarylaw02.ValueTexts" = some f) (hfn : Tryd.pinned.checked.prog.funcs[f]? = some fn) :
    false = Tryd.pinned.checked.prog.looks [] ∧ ∀ (j : Nat) t, fn.params[j]? = some t → Tryd.pinned.checked.prog.wantsStandIn t = false := by
  obtain rfl : f = 5 := Option.some.inj ((show Tryd.prog.funcNamed "corollary/corollarylaw02.ValueTexts" = some 5 by kernel_rfl).symm.trans hf) |>.symm
  obtain rfl : fn = Tryd.f5 := (Option.some.inj (Tryd.func5.symm.trans hfn)).symm
  refine ⟨by kernel_rfl, fun j t ht => ?_⟩
  rw [Tryd.params5] at ht
  have hm : t ∈ [24, 24] := by simpa using Array.mem_of_getElem? ht
  have hall : ∀ t ∈ [24, 24], Tryd.prog.wantsStandIn t = false := by
    intro t h
    simp only [List.mem_cons, List.mem_nil_iff, or_false] at h
    rcases h with rfl | rfl
    all_goals kernel_rfl
  exact hall t hm

theorem card : Rows.ValueTextsCardSaid :=
  Claim7.holds_tied_plain_at .later [] _ _ _ _ said (fun _ h => by cases h) (by kernel_rfl) (fun _ h => by cases h) valueTexts_row_tie rfl ⟨rfl, rfl⟩ (by kernel_rfl) rfl plain (by kernel_rfl)
#print axioms card
end Go.Proofs.YthfggbmlmpegaaaDoor.valueTexts
