/-
  The statement 'CodeApartSaid': for every input the law returns true, and the input reads as it did.
-/
import Derived.Test.YtlpjpjbgfffffaaDoorA4
import Derived.Test.YtlpjpjbgfffffaaDoorCards
import Derived.Test.YtlpjpjbgfffffaaDoorTie
import Derived.WalkKit
import Derived.ProofKit
import Derived.OpenShut
import Derived.ShutString
namespace Go.Proofs.YtlpjpjbgfffffaaDoor.codeApart
open Go.ChangeShapes Go.WideShapes Go.ChangeAt Go.RowKit
open Sx
set_option linter.unusedVariables false
theorem own : ownKnob Tryd.prog.godebug = none := by kernel_rfl
theorem laidOut : laidOutB Tryd.prog = true := by kernel_rfl

theorem valT : ValT Tryd.prog 25 23 := ⟨⟨_, Tryd.underlying25, rfl, ⟨_, _, rfl, rfl, rfl, Tryd.underlying5, by kernel_rfl⟩, ⟨_, _, rfl, rfl, rfl, Tryd.underlying2, by kernel_rfl⟩, ⟨_, _, rfl, rfl, rfl, Tryd.underlying9, by kernel_rfl⟩, ⟨_, rfl, rfl, rfl, by kernel_rfl⟩⟩, by kernel_rfl, Tryd.underlying23⟩

theorem walk (W : World) (v0 : Value) (x0 : TV) (a0 : V) (h0 : v0 = .agg (T_api_Value.c x0).toArray) (r0 : VIs (heapOf W) a0 x0) (n0 : VB a0) (v1 : Value) (x1 : TV) (a1 : V) (h1 : v1 = .agg (T_api_Value.c x1).toArray) (r1 : VIs (heapOf W) a1 x1) (n1 : VB a1) (v2 : Value) (a2 : Int) (h2 : v2 = .int .i64 a2) (w2 : (Lit.int .i64 a2).wf = true) (v3 : Value) (s3 : Sl) (a3 : Str) (h3 : v3 = slv s3) (r3 : rdsl (heapOf W) s3 (bytesV a3)) (n3 : s3.len = a3.length) (c3 : s3.len ≤ s3.cap) (m3 : s3.cap ≤ maxLen) : Sx.Spec Tryd.prog (ctxOf W) 8 [v0, v1, v2, v3] (heapOf W) (fun v _ => v = .bool true) := by
  subst h0
  subst h1
  subst h2
  subst h3
  have h : c_law03_CodeApart (ctxOf W) x0 x1 a2 s3 (fun r _ => r = true) (heapOf W) := CodeApart_ok r0 r1 n0 n1 r3 n3 (k := fun _ => rfl)
  unfold c_law03_CodeApart at h
  exact h.mono fun v H2 ⟨r, hv, hr⟩ => by rw [hv, hr]

set_option maxRecDepth 100000 in
theorem contract (H : Type) (enc : TypeId × Value → H) (W : World) (base : Nat) (args : Array Value) (ds gs : List (DataW H)) (before : List MemPlace)
    (hval : ∀ (j : Nat) t v, Tryd.f8.params[j]? = some t → args[j]? = some v → Value.okWide Tryd.prog W .any base t v)
    (hW : DataW.Whole enc Tryd.prog Tryd.f8.params.toList Rows.codeApartSpec.vars false W args.toList ds gs before)
    (hwt : (DataW.weightsEach Tryd.prog (Tryd.f8.params.toList ++ (OpenSpec.ofChange Rows.codeApartSpec).bare.plain.varTypes Tryd.prog) (ds ++ gs)).all (· ≤ reachBytes) = true) :
    Calls Tryd.prog 8 args W fun e W' => ∃ v, e = .returned v ∧ Rows.codeApartSpec.post enc Tryd.prog Tryd.f8 false true false false W args v W' := by
  have hW' := hW
  obtain ⟨p, q, hA0, hV, rfl, hfz, hnd⟩ := hW
  have hA : DataW.TrodAll enc Tryd.prog W 0 (fun _ => true) true Tryd.f8.params.toList args.toList ds p := hA0
  have hAk := hA
  rw [Tryd.params8] at hA hval
  obtain ⟨v0, vs0, d0, ds0, p0, q0, hargs, rfl, rfl, t0, u0⟩ := trodAll_cons hA
  obtain ⟨v1, vs1, d1, ds1, p1, q1, rfl, rfl, rfl, t1, u1⟩ := trodAll_cons u0
  obtain ⟨v2, vs2, d2, ds2, p2, q2, rfl, rfl, rfl, t2, u2⟩ := trodAll_cons u1
  obtain ⟨v3, vs3, d3, ds3, p3, q3, rfl, rfl, rfl, t3, u3⟩ := trodAll_cons u2
  obtain ⟨rfl, rfl, rfl⟩ := trodAll_nil u3
  obtain rfl : args = #[v0, v1, v2, v3] := by cases args; simp_all
  obtain ⟨rfl, rfl⟩ := trodVars_none hV
  have hlt : ∀ x ∈ (p0 ++ (p1 ++ (p2 ++ (p3 ++ []))) : List MemPlace), x.block < W.heap.size := fun x hx => hW'.lt x (List.mem_append_left _ hx)
  obtain ⟨a0, x0, h0, r0, n0⟩ := argw_val valT (by rw [show Tryd.prog.bytesOf 25 = 56 by kernel_rfl]; omega) (hval 0 25 v0 rfl rfl) t0 (wat hwt (i := 0) rfl rfl)
  obtain ⟨a1, x1, h1, r1, n1⟩ := argw_val valT (by rw [show Tryd.prog.bytesOf 25 = 56 by kernel_rfl]; omega) (hval 1 25 v1 rfl rfl) t1 (wat hwt (i := 1) rfl rfl)
  obtain ⟨a2, h2, w2⟩ := arg_int Tryd.underlying3 (hval 2 3 v2 rfl rfl) t2
  obtain ⟨s3, css3, _, h3, c3, m3, b3, k3, f3, z3⟩ := argw_slice Tryd.underlying22 (show Tryd.prog.cellsOf 5 = 1 by kernel_rfl) (by omega) (hval 3 22 v3 rfl rfl) t3 (wat hwt (i := 3) rfl rfl)
  obtain ⟨a3, r3, n3⟩ := bytesw_of Tryd.underlying5 k3 f3 z3
  refine (walk W v0 x0 a0 h0 r0 n0 v1 x1 a1 h1 r1 n1 v2 a2 h2 w2 v3 s3 a3 h3 r3 n3 c3 m3 W (st_heapOf W)).mono fun e W' ⟨v, H', he, hst, hv⟩ => ?_
  subst he
  subst hv
  exact ⟨_, rfl, _, _, _, [], _, [], hW', trodAll_mk1 (shut_bool Tryd.underlying4 _), trod_kept laidOut hst (by kernel_rfl) hAk hlt, rfl, hst.frame _, fun h => by cases h⟩

noncomputable def laidWorld (os : Os) : World := laidW Tryd.prog os [(2, lcells 6 (Rows.laid_unicode_utf8_acceptRanges (H := Unit))), (1, lcells 6 Rows.laid_unicode_utf8_first)]
theorem laid_met (os : Os) : laidMet Tryd.prog Rows.codeApartRow.laid ((laidWorld os).forCall (fun _ _ => 0) ⟨#[], #[.agg (T_api_Value.c T_api_Value.zero).toArray, .agg (T_api_Value.c T_api_Value.zero).toArray, .int .i64 0, .slice none 0 0], []⟩).memory :=
  laidMet_of_run' 8 (by kernel_rfl) (by kernel_rfl)
theorem reads (os : Os) {H : Type} (enc : TypeId × Value → H) : ∃ places, DataW.whole enc Tryd.prog ((laidWorld os).forCall (fun _ _ => 0) ⟨#[], #[.agg (T_api_Value.c T_api_Value.zero).toArray, .agg (T_api_Value.c T_api_Value.zero).toArray, .int .i64 0, .slice none 0 0], []⟩).memory Tryd.f8.params.toList Rows.codeApartSpec.vars false (#[.agg (T_api_Value.c T_api_Value.zero).toArray, .agg (T_api_Value.c T_api_Value.zero).toArray, .int .i64 0, .slice none 0 0] : Array Value).toList 8 = some ([.agg [.lit (.int .u8 0), .lit (.int .i64 0), .lit (.string []), .nil], .agg [.lit (.int .u8 0), .lit (.int .i64 0), .lit (.string []), .nil], .lit (.int .i64 0), .nil], [], places) :=
  ⟨[], by kernel_rfl⟩

set_option maxRecDepth 100000 in
theorem lifted (os : Os) (started : os.Started) (H : Type) (enc : TypeId × Value → H) (F : Stop.Interp) :
    ReturnsInHanded {} Tryd.checked os 8 .any ((OpenSpec.ofChange Rows.codeApartSpec).preRow enc Tryd.prog Tryd.f8 Rows.codeApartRow.domain false Rows.codeApartRow.laid) (((OpenSpec.ofChange Rows.codeApartSpec).at F).post enc Tryd.prog Tryd.f8 false true false false) := by
  obtain ⟨places, hx⟩ := reads os enc
  refine returnsInHanded_of_row (C := Tryd.checked) (s := OpenSpec.ofChange Rows.codeApartSpec) own started (by kernel_rfl) Tryd.func8
    (witness_row_at (enc := enc) (C := Tryd.checked) false (laidWorld os) #[.agg (T_api_Value.c T_api_Value.zero).toArray, .agg (T_api_Value.c T_api_Value.zero).toArray, .int .i64 0, .slice none 0 0] rfl (by kernel_rfl) (by kernel_rfl) (by kernel_rfl)
      (OpenSpec.preRow_of_cond 8 hx (by kernel_rfl) (fun k hk => by cases hk) (by kernel_rfl) (laid_met os))) ?_
  intro W base args ds gs before hval hW _ _ hwt hL _ _
  exact contract H enc W base args ds gs before hval hW hwt

theorem said : Rows.CodeApartSaid :=
  OpenClaim.holds_of_cond 8 Tryd.f8 rfl rfl rfl rfl rfl rfl rfl ⟨rfl, rfl, rfl, rfl, rfl⟩ rfl rfl rfl rfl rfl (by kernel_rfl) Tryd.func8 (by kernel_rfl)
    (of_decide_eq_true (by kernel_rfl)) (by unfold Func.isWrapper; first | (rw [if_pos (by decide +kernel)]; kernel_rfl) | (rw [if_neg (by decide +kernel)]; exact ⟨rfl, rfl⟩))
    (fun os started H enc _ F => by rw [OpenClaim.pre_eq_preRow]; exact lifted os started H enc F)

theorem plain (f : FuncId) (fn : Func) (hf : Tryd.pinned.checked.prog.funcNamed "corollary/corollarylaw03.CodeApart" = some f) (hfn : Tryd.pinned.checked.prog.funcs[f]? = some fn) :
    false = Tryd.pinned.checked.prog.looks [] ∧ ∀ (j : Nat) t, fn.params[j]? = some t → Tryd.pinned.checked.prog.wantsStandIn t = false := by
  obtain rfl : f = 8 := Option.some.inj ((show Tryd.prog.funcNamed "corollary/corollarylaw03.CodeApart" = some 8 by kernel_rfl).symm.trans hf) |>.symm
  obtain rfl : fn = Tryd.f8 := (Option.some.inj (Tryd.func8.symm.trans hfn)).symm
  refine ⟨by kernel_rfl, fun j t ht => ?_⟩
  rw [Tryd.params8] at ht
  have hm : t ∈ [25, 25, 3, 22] := by simpa using Array.mem_of_getElem? ht
  have hall : ∀ t ∈ [25, 25, 3, 22], Tryd.prog.wantsStandIn t = false := by
    intro t h
    simp only [List.mem_cons, List.mem_nil_iff, or_false] at h
    rcases h with rfl | rfl | rfl | rfl
    all_goals kernel_rfl
  exact hall t hm

theorem card : Rows.CodeApartCardSaid :=
  Claim7.holds_tied_plain_at .later [] _ _ _ _ said (fun _ h => by cases h) (by kernel_rfl) (fun _ h => by cases h) codeApart_row_tie rfl ⟨rfl, rfl⟩ (by kernel_rfl) rfl plain (by kernel_rfl)
#print axioms card
end Go.Proofs.YtlpjpjbgfffffaaDoor.codeApart
