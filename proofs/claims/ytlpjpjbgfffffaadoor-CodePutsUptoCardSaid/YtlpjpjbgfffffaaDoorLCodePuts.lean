/-
  The statement 'CodePutsUptoSaid': for every input of bulk at most 1048576 the law returns true, and the input reads as it did.
-/
import Derived.Test.YtlpjpjbgfffffaaDoorCodeR
import Derived.Test.YtlpjpjbgfffffaaDoorCards
import Derived.Test.YtlpjpjbgfffffaaDoorTie
import Derived.WalkKit
import Derived.ProofKit
import Derived.OpenShut
import Derived.ShutString
import Derived.Test.YtlpjpjbgfffffaaDoorSxDoor
import Derived.JoinedCond
import Derived.Test.YtlpjpjbgfffffaaDoorU
namespace Go.Proofs.YtlpjpjbgfffffaaDoor.codePuts
open Go.ChangeShapes Go.WideShapes Go.ChangeAt Go.RowKit
open Sx
set_option linter.unusedVariables false

theorem own : ownKnob Tryd.prog.godebug = none := by kernel_rfl
theorem laidOut : laidOutB Tryd.prog = true := by kernel_rfl

theorem valT : ValT Tryd.prog 25 23 := ⟨⟨_, Tryd.underlying25, rfl, ⟨_, _, rfl, rfl, rfl, Tryd.underlying5, by kernel_rfl⟩, ⟨_, _, rfl, rfl, rfl, Tryd.underlying2, by kernel_rfl⟩, ⟨_, _, rfl, rfl, rfl, Tryd.underlying9, by kernel_rfl⟩, ⟨_, rfl, rfl, rfl, by kernel_rfl⟩⟩, by kernel_rfl, Tryd.underlying23⟩

theorem walk (W : World) (v0 : Value) (s0 : Sl) (a0 : Str) (h0 : v0 = slv s0) (r0 : rdsl (heapOf W) s0 (bytesV a0)) (n0 : s0.len = a0.length) (c0 : s0.len ≤ s0.cap) (m0 : s0.cap ≤ maxLen) (b0 : s0.len ≤ 1048576) (v1 : Value) (a1 : Int) (h1 : v1 = .int .i64 a1) (w1 : (Lit.int .i64 a1).wf = true) (v2 : Value) (a2 : Int) (h2 : v2 = .int .i64 a2) (w2 : (Lit.int .i64 a2).wf = true) (v3 : Value) (a3 : Str) (h3 : v3 = sv a3) (l3 : a3.length ≤ 1048576) (v4 : Value) (a4 : Bool) (h4 : v4 = .bool a4) (v5 : Value) (x5 : TV) (a5 : V) (h5 : v5 = .agg (T_api_Value.c x5).toArray) (r5 : VIs (heapOf W) a5 x5) (n5 : VB a5) (b5 : vbulk a5 ≤ 1048576) : Sx.Spec Tryd.prog (ctxOf W) 3 [v0, v1, v2, v3, v4, v5] (heapOf W) (fun v _ => v = .bool true) := by
  subst h0
  subst h1
  subst h2
  subst h3
  subst h4
  subst h5
  have h : c_law03_CodePuts (ctxOf W) s0 a1 a2 a3 a4 x5 (fun r _ => r = true) (heapOf W) := CodePuts_ok r0 n0 (by omega) (wf_i64 w1).1 (wf_i64 w1).2 (by omega) r5 n5 (by have := vtot_bulk a5; omega) (by have := vsize_bulk a5; omega) (k := fun _ => rfl)
  unfold c_law03_CodePuts at h
  exact h.mono fun v H2 ⟨r, hv, hr⟩ => by rw [hv, hr]

set_option maxRecDepth 100000 in
theorem contract (H : Type) (enc : TypeId × Value → H) (W : World) (base : Nat) (args : Array Value) (ds gs : List (DataW H)) (before : List MemPlace)
    (hval : ∀ (j : Nat) t v, Tryd.f3.params[j]? = some t → args[j]? = some v → Value.okWide Tryd.prog W .any base t v)
    (hW : DataW.Whole enc Tryd.prog Tryd.f3.params.toList Rows.codePutsSpec.vars false W args.toList ds gs before)
    (hwt : (DataW.weightsEach Tryd.prog (Tryd.f3.params.toList ++ (OpenSpec.ofChange Rows.codePutsSpec).bare.plain.varTypes Tryd.prog) (ds ++ gs)).all (· ≤ reachBytes) = true) (hk : Rows.uptoSmall H (ds ++ gs) = true) :
    Calls Tryd.prog 3 args W fun e W' => ∃ v, e = .returned v ∧ Rows.codePutsSpec.post enc Tryd.prog Tryd.f3 false true false false W args v W' := by
  have hW' := hW
  obtain ⟨p, q, hA0, hV, rfl, hfz, hnd⟩ := hW
  have hA : DataW.TrodAll enc Tryd.prog W 0 (fun _ => true) true Tryd.f3.params.toList args.toList ds p := hA0
  have hAk := hA
  rw [Tryd.params3] at hA hval
  obtain ⟨v0, vs0, d0, ds0, p0, q0, hargs, rfl, rfl, t0, u0⟩ := trodAll_cons hA
  obtain ⟨v1, vs1, d1, ds1, p1, q1, rfl, rfl, rfl, t1, u1⟩ := trodAll_cons u0
  obtain ⟨v2, vs2, d2, ds2, p2, q2, rfl, rfl, rfl, t2, u2⟩ := trodAll_cons u1
  obtain ⟨v3, vs3, d3, ds3, p3, q3, rfl, rfl, rfl, t3, u3⟩ := trodAll_cons u2
  obtain ⟨v4, vs4, d4, ds4, p4, q4, rfl, rfl, rfl, t4, u4⟩ := trodAll_cons u3
  obtain ⟨v5, vs5, d5, ds5, p5, q5, rfl, rfl, rfl, t5, u5⟩ := trodAll_cons u4
  obtain ⟨rfl, rfl, rfl⟩ := trodAll_nil u5
  obtain rfl : args = #[v0, v1, v2, v3, v4, v5] := by cases args; simp_all
  obtain ⟨rfl, rfl⟩ := trodVars_none hV
  have hlt : ∀ x ∈ (p0 ++ (p1 ++ (p2 ++ (p3 ++ (p4 ++ (p5 ++ []))))) : List MemPlace), x.block < W.heap.size := fun x hx => hW'.lt x (List.mem_append_left _ hx)
  obtain ⟨s0, css0, _, h0, c0, m0, b0, k0, f0, z0⟩ := arg_slice Tryd.underlying22 (show Tryd.prog.cellsOf 5 = 1 by kernel_rfl) (by omega) (hval 0 22 v0 rfl rfl) t0
  obtain ⟨a0, r0, n0⟩ := bytes_of Tryd.underlying5 k0 f0 z0
  have q0 := small_le hk (List.mem_append_left _ (List.mem_cons_self ..))
  have b0 := Nat.le_trans b0 q0
  obtain ⟨a1, h1, w1⟩ := arg_int Tryd.underlying2 (hval 1 2 v1 rfl rfl) t1
  obtain ⟨a2, h2, w2⟩ := arg_int Tryd.underlying3 (hval 2 3 v2 rfl rfl) t2
  obtain ⟨a3, h3, _, l3⟩ := arg_str Tryd.underlying9 (hval 3 9 v3 rfl rfl) t3
  have l3 := Nat.le_trans l3 (small_le hk (List.mem_append_left _ (List.mem_cons_of_mem _ (List.mem_cons_of_mem _ (List.mem_cons_of_mem _ (List.mem_cons_self ..))))))
  obtain ⟨a4, h4⟩ := arg_bool Tryd.underlying4 (hval 4 4 v4 rfl rfl)
  obtain ⟨a5, x5, h5, r5, n5, b5⟩ := arg_val valT (hval 5 25 v5 rfl rfl) t5 (small_le hk (List.mem_append_left _ (List.mem_cons_of_mem _ (List.mem_cons_of_mem _ (List.mem_cons_of_mem _ (List.mem_cons_of_mem _ (List.mem_cons_of_mem _ (List.mem_cons_self ..))))))))
  refine (walk W v0 s0 a0 h0 r0 n0 c0 m0 b0 v1 a1 h1 w1 v2 a2 h2 w2 v3 a3 h3 l3 v4 a4 h4 v5 x5 a5 h5 r5 n5 b5 W (st_heapOf W)).mono fun e W' ⟨v, H', he, hst, hv⟩ => ?_
  subst he
  subst hv
  exact ⟨_, rfl, _, _, _, [], _, [], hW', trodAll_mk1 (shut_bool Tryd.underlying4 _), trod_kept laidOut hst (by kernel_rfl) hAk hlt, rfl, hst.frame _, fun h => by cases h⟩

noncomputable def laidWorld (os : Os) : World := laidW Tryd.prog os [(2, lcells 6 (Rows.laid_unicode_utf8_acceptRanges (H := Unit))), (1, lcells 6 Rows.laid_unicode_utf8_first)]
theorem laid_met (os : Os) : laidMet Tryd.prog Rows.codePutsUptoRow.laid ((laidWorld os).forCall (fun _ _ => 0) ⟨#[], #[.slice none 0 0, .int .i64 0, .int .i64 0, .string ByteArray.empty, .bool false, .agg (T_api_Value.c T_api_Value.zero).toArray], []⟩).memory :=
  laidMet_of_run' 8 (by kernel_rfl) (by kernel_rfl)
theorem reads (os : Os) {H : Type} (enc : TypeId × Value → H) : ∃ places, DataW.whole enc Tryd.prog ((laidWorld os).forCall (fun _ _ => 0) ⟨#[], #[.slice none 0 0, .int .i64 0, .int .i64 0, .string ByteArray.empty, .bool false, .agg (T_api_Value.c T_api_Value.zero).toArray], []⟩).memory Tryd.f3.params.toList Rows.codePutsSpec.vars false (#[.slice none 0 0, .int .i64 0, .int .i64 0, .string ByteArray.empty, .bool false, .agg (T_api_Value.c T_api_Value.zero).toArray] : Array Value).toList 8 = some ([.nil, .lit (.int .i64 0), .lit (.int .i64 0), .lit (.string []), .lit (.bool false), .agg [.lit (.int .u8 0), .lit (.int .i64 0), .lit (.string []), .nil]], [], places) :=
  ⟨[], by kernel_rfl⟩

set_option maxRecDepth 100000 in
theorem lifted (os : Os) (started : os.Started) (H : Type) (enc : TypeId × Value → H) (F : Stop.Interp) :
    ReturnsInHanded {} Tryd.checked os 3 .any ((Rows.OpenSpec.upto Rows.codePutsSpec).preRow enc Tryd.prog Tryd.f3 Rows.codePutsUptoRow.domain false Rows.codePutsUptoRow.laid) (((Rows.OpenSpec.upto Rows.codePutsSpec).at F).post enc Tryd.prog Tryd.f3 false true false false) := by
  obtain ⟨places, hx⟩ := reads os enc
  refine returnsInHanded_of_row (C := Tryd.checked) (s := Rows.OpenSpec.upto Rows.codePutsSpec) own started (by kernel_rfl) Tryd.func3
    (witness_row_at (enc := enc) (C := Tryd.checked) false (laidWorld os) #[.slice none 0 0, .int .i64 0, .int .i64 0, .string ByteArray.empty, .bool false, .agg (T_api_Value.c T_api_Value.zero).toArray] rfl (by kernel_rfl) (by kernel_rfl) (by kernel_rfl)
      (OpenSpec.preRow_of_cond 8 hx (by kernel_rfl) (fun k hk => by cases hk; kernel_rfl) (by kernel_rfl) (laid_met os))) ?_
  intro W base args ds gs before hval hW _ hcond hwt hL _ _
  exact contract H enc W base args ds gs before hval hW hwt (hcond _ rfl)

theorem said : Rows.CodePutsUptoSaid :=
  OpenClaim.holds_of_cond 3 Tryd.f3 rfl rfl rfl rfl rfl rfl rfl ⟨rfl, rfl, rfl, rfl, rfl⟩ rfl rfl rfl rfl rfl (by kernel_rfl) Tryd.func3 (by kernel_rfl)
    (of_decide_eq_true (by kernel_rfl)) (by unfold Func.isWrapper; first | (rw [if_pos (by decide +kernel)]; kernel_rfl) | (rw [if_neg (by decide +kernel)]; exact ⟨rfl, rfl⟩))
    (fun os started H enc _ F => by rw [OpenClaim.pre_eq_preRow]; exact lifted os started H enc F)

theorem plain (f : FuncId) (fn : Func) (hf : Tryd.pinned.checked.prog.funcNamed "corollary/corollarylaw03.CodePuts" = some f) (hfn : Tryd.pinned.checked.prog.funcs[f]? = some fn) :
    false = Tryd.pinned.checked.prog.looks [] ∧ ∀ (j : Nat) t, fn.params[j]? = some t → Tryd.pinned.checked.prog.wantsStandIn t = false := by
  obtain rfl : f = 3 := Option.some.inj ((show Tryd.prog.funcNamed "corollary/corollarylaw03.CodePuts" = some 3 by kernel_rfl).symm.trans hf) |>.symm
  obtain rfl : fn = Tryd.f3 := (Option.some.inj (Tryd.func3.symm.trans hfn)).symm
  refine ⟨by kernel_rfl, fun j t ht => ?_⟩
  rw [Tryd.params3] at ht
  have hm : t ∈ [22, 2, 3, 9, 4, 25] := by simpa using Array.mem_of_getElem? ht
  have hall : ∀ t ∈ [22, 2, 3, 9, 4, 25], Tryd.prog.wantsStandIn t = false := by
    intro t h
    simp only [List.mem_cons, List.mem_nil_iff, or_false] at h
    rcases h with rfl | rfl | rfl | rfl | rfl | rfl
    all_goals kernel_rfl
  exact hall t hm

theorem card : Rows.CodePutsUptoCardSaid :=
  Claim7.holds_tied_plain_at .later [] _ _ _ _ said (fun _ h => by cases h) (by kernel_rfl) (fun _ h => by cases h) codePutsUpto_row_tie rfl ⟨rfl, rfl⟩ (by kernel_rfl) rfl plain (by kernel_rfl)
#print axioms card
end Go.Proofs.YtlpjpjbgfffffaaDoor.codePuts
