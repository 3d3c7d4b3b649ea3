/-
  The statement 'CodeRowsUptoSaid': for every input of bulk at most 1048576 the law returns true, and the input reads as it did.
-/
import Derived.Test.YtlpjpjbgfffffaaDoorCodeR
import Derived.Test.YtlpjpjbgfffffaaDoorCards
import Derived.Test.YtlpjpjbgfffffaaDoorTie
import Derived.WalkKit
import Derived.ProofKit
import Derived.OpenShut
import Derived.ShutString
import Derived.Test.YtlpjpjbgfffffaaDoorSxDoor
import Derived.JoinedCond
import Derived.Test.YtlpjpjbgfffffaaDoorU
namespace Go.Proofs.YtlpjpjbgfffffaaDoor.codeRows
open Go.ChangeShapes Go.WideShapes Go.ChangeAt Go.RowKit
open Sx
set_option linter.unusedVariables false

theorem own : ownKnob Tryd.prog.godebug = none := by kernel_rfl
theorem laidOut : laidOutB Tryd.prog = true := by kernel_rfl

theorem valT : ValT Tryd.prog 25 23 := ⟨⟨_, Tryd.underlying25, rfl, ⟨_, _, rfl, rfl, rfl, Tryd.underlying5, by kernel_rfl⟩, ⟨_, _, rfl, rfl, rfl, Tryd.underlying2, by kernel_rfl⟩, ⟨_, _, rfl, rfl, rfl, Tryd.underlying9, by kernel_rfl⟩, ⟨_, rfl, rfl, rfl, by kernel_rfl⟩⟩, by kernel_rfl, Tryd.underlying23⟩

theorem walk (W : World) (v0 : Value) (s0 : Sl) (a0 : List V) (h0 : v0 = slv s0) (r0 : VRow (heapOf W) s0 a0) (n0 : VBs a0) (b0 : vbulks a0 ≤ 1048576) (v1 : Value) (s1 : Sl) (a1 : List V) (h1 : v1 = slv s1) (r1 : VRow (heapOf W) s1 a1) (n1 : VBs a1) (b1 : vbulks a1 ≤ 1048576) : Sx.Spec Tryd.prog (ctxOf W) 5 [v0, v1] (heapOf W) (fun v _ => v = .bool true) := by
  subst h0
  subst h1
  have h : c_law03_CodeRows (ctxOf W) s0 s1 (fun r _ => r = true) (heapOf W) := CodeRows_ok r0 r1 n0 n1 (fun v hv => by have := vtot_bulk v; have := vbulks_mem hv; omega) (fun v hv => by have := vtot_bulk v; have := vbulks_mem hv; omega) (k := fun _ => rfl)
  unfold c_law03_CodeRows at h
  exact h.mono fun v H2 ⟨r, hv, hr⟩ => by rw [hv, hr]

set_option maxRecDepth 100000 in
theorem contract (H : Type) (enc : TypeId × Value → H) (W : World) (base : Nat) (args : Array Value) (ds gs : List (DataW H)) (before : List MemPlace)
    (hval : ∀ (j : Nat) t v, Tryd.f5.params[j]? = some t → args[j]? = some v → Value.okWide Tryd.prog W .any base t v)
    (hW : DataW.Whole enc Tryd.prog Tryd.f5.params.toList Rows.codeRowsSpec.vars false W args.toList ds gs before)
    (hwt : (DataW.weightsEach Tryd.prog (Tryd.f5.params.toList ++ (OpenSpec.ofChange Rows.codeRowsSpec).bare.plain.varTypes Tryd.prog) (ds ++ gs)).all (· ≤ reachBytes) = true) (hk : Rows.uptoSmall H (ds ++ gs) = true) :
    Calls Tryd.prog 5 args W fun e W' => ∃ v, e = .returned v ∧ Rows.codeRowsSpec.post enc Tryd.prog Tryd.f5 false true false false W args v W' := by
  have hW' := hW
  obtain ⟨p, q, hA0, hV, rfl, hfz, hnd⟩ := hW
  have hA : DataW.TrodAll enc Tryd.prog W 0 (fun _ => true) true Tryd.f5.params.toList args.toList ds p := hA0
  have hAk := hA
  rw [Tryd.params5] at hA hval
  obtain ⟨v0, vs0, d0, ds0, p0, q0, hargs, rfl, rfl, t0, u0⟩ := trodAll_cons hA
  obtain ⟨v1, vs1, d1, ds1, p1, q1, rfl, rfl, rfl, t1, u1⟩ := trodAll_cons u0
  obtain ⟨rfl, rfl, rfl⟩ := trodAll_nil u1
  obtain rfl : args = #[v0, v1] := by cases args; simp_all
  obtain ⟨rfl, rfl⟩ := trodVars_none hV
  have hlt : ∀ x ∈ (p0 ++ (p1 ++ []) : List MemPlace), x.block < W.heap.size := fun x hx => hW'.lt x (List.mem_append_left _ hx)
  obtain ⟨s0, a0, h0, r0, n0, b0⟩ := arg_vals valT (hval 0 23 v0 rfl rfl) t0 (small_le hk (List.mem_append_left _ (List.mem_cons_self ..)))
  obtain ⟨s1, a1, h1, r1, n1, b1⟩ := arg_vals valT (hval 1 23 v1 rfl rfl) t1 (small_le hk (List.mem_append_left _ (List.mem_cons_of_mem _ (List.mem_cons_self ..))))
  refine (walk W v0 s0 a0 h0 r0 n0 b0 v1 s1 a1 h1 r1 n1 b1 W (st_heapOf W)).mono fun e W' ⟨v, H', he, hst, hv⟩ => ?_
  subst he
  subst hv
  exact ⟨_, rfl, _, _, _, [], _, [], hW', trodAll_mk1 (shut_bool Tryd.underlying4 _), trod_kept laidOut hst (by kernel_rfl) hAk hlt, rfl, hst.frame _, fun h => by cases h⟩

noncomputable def laidWorld (os : Os) : World := laidW Tryd.prog os [(2, lcells 6 (Rows.laid_unicode_utf8_acceptRanges (H := Unit))), (1, lcells 6 Rows.laid_unicode_utf8_first)]
theorem laid_met (os : Os) : laidMet Tryd.prog Rows.codeRowsUptoRow.laid ((laidWorld os).forCall (fun _ _ => 0) ⟨#[], #[.slice none 0 0, .slice none 0 0], []⟩).memory :=
  laidMet_of_run' 8 (by kernel_rfl) (by kernel_rfl)
theorem reads (os : Os) {H : Type} (enc : TypeId × Value → H) : ∃ places, DataW.whole enc Tryd.prog ((laidWorld os).forCall (fun _ _ => 0) ⟨#[], #[.slice none 0 0, .slice none 0 0], []⟩).memory Tryd.f5.params.toList Rows.codeRowsSpec.vars false (#[.slice none 0 0, .slice none 0 0] : Array Value).toList 8 = some ([.nil, .nil], [], places) :=
  ⟨[], by kernel_rfl⟩

set_option maxRecDepth 100000 in
theorem lifted (os : Os) (started : os.Started) (H : Type) (enc : TypeId × Value → H) (F : Stop.Interp) :
    ReturnsInHanded {} Tryd.checked os 5 .any ((Rows.OpenSpec.upto Rows.codeRowsSpec).preRow enc Tryd.prog Tryd.f5 Rows.codeRowsUptoRow.domain false Rows.codeRowsUptoRow.laid) (((Rows.OpenSpec.upto Rows.codeRowsSpec).at F).post enc Tryd.prog Tryd.f5 false true false false) := by
  obtain ⟨places, hx⟩ := reads os enc
  refine returnsInHanded_of_row (C := Tryd.checked) (s := Rows.OpenSpec.upto Rows.codeRowsSpec) own started (by kernel_rfl) Tryd.func5
    (witness_row_at (enc := enc) (C := Tryd.checked) false (laidWorld os) #[.slice none 0 0, .slice none 0 0] rfl (by kernel_rfl) (by kernel_rfl) (by kernel_rfl)
      (OpenSpec.preRow_of_cond 8 hx (by kernel_rfl) (fun k hk => by cases hk; kernel_rfl) (by kernel_rfl) (laid_met os))) ?_
  intro W base args ds gs before hval hW _ hcond hwt hL _ _
  exact contract H enc W base args ds gs before hval hW hwt (hcond _ rfl)

theorem said : Rows.CodeRowsUptoSaid :=
  OpenClaim.holds_of_cond 5 Tryd.f5 rfl rfl rfl rfl rfl rfl rfl ⟨rfl, rfl, rfl, rfl, rfl⟩ rfl rfl rfl rfl rfl (by kernel_rfl) Tryd.func5 (by kernel_rfl)
    (of_decide_eq_true (by kernel_rfl)) (by unfold Func.isWrapper; first | (rw [if_pos (by decide +kernel)]; kernel_rfl) | (rw [if_neg (by decide +kernel)]; exact ⟨rfl, rfl⟩))
    (fun os started H enc _ F => by rw [OpenClaim.pre_eq_preRow]; exact lifted os started H enc F)

theorem plain (f : FuncId) (fn : Func) (hf : Tryd.pinned.checked.prog.funcNamed "corollary/corollarylaw03.CodeRows" = some f) (hfn : Tryd.pinned.checked.prog.funcs[f]? = some fn) :
    false = Tryd.pinned.checked.prog.looks [] ∧ ∀ (j : Nat) t, fn.params[j]? = some t → Tryd.pinned.checked.prog.wantsStandIn t = false := by
  obtain rfl : f = 5 := Option.some.inj ((show Tryd.prog.funcNamed "corollary/corollarylaw03.CodeRows" = some 5 by kernel_rfl).symm.trans hf) |>.symm
  obtain rfl : fn = Tryd.f5 := (Option.some.inj (Tryd.func5.symm.trans hfn)).symm
  refine ⟨by kernel_rfl, fun j t ht => ?_⟩
  rw [Tryd.params5] at ht
  have hm : t ∈ [23, 23] := by simpa using Array.mem_of_getElem? ht
  have hall : ∀ t ∈ [23, 23], Tryd.prog.wantsStandIn t = false := by
    intro t h
    simp only [List.mem_cons, List.mem_nil_iff, or_false] at h
    rcases h with rfl | rfl
    all_goals kernel_rfl
  exact hall t hm

theorem card : Rows.CodeRowsUptoCardSaid :=
  Claim7.holds_tied_plain_at .later [] _ _ _ _ said (fun _ h => by cases h) (by kernel_rfl) (fun _ h => by cases h) codeRowsUpto_row_tie rfl ⟨rfl, rfl⟩ (by kernel_rfl) rfl plain (by kernel_rfl)
#print axioms card
end Go.Proofs.YtlpjpjbgfffffaaDoor.codeRows
