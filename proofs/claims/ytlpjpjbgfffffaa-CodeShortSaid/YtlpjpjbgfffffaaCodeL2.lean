/-
  The statement 'CodeShortSaid': for every input the law returns true, and the input reads as it did.
-/
import Derived.Test.YtlpjpjbgfffffaaCodeP7
import Derived.Test.YtlpjpjbgfffffaaRows
import Derived.WalkKit
import Derived.ProofKit
import Derived.OpenShut
import Derived.ShutString
import Derived.Test.YtlpjpjbgfffffaaSxRow
namespace Go.Proofs.Ytlpjpjbgfffffaa.codeShort
open Go.ChangeShapes Go.WideShapes Go.ChangeAt Go.RowKit
open Sx
set_option linter.unusedVariables false

theorem own : ownKnob Try.prog.godebug = none := by kernel_rfl
theorem laidOut : laidOutB Try.prog = true := by kernel_rfl

theorem walk (W : World) (v0 : Value) (a0 : Int) (h0 : v0 = .int .i64 a0) (w0 : (Lit.int .i64 a0).wf = true) (v1 : Value) (a1 : Int) (h1 : v1 = .int .i64 a1) (w1 : (Lit.int .i64 a1).wf = true) (v2 : Value) (a2 : Int) (h2 : v2 = .int .i64 a2) (w2 : (Lit.int .i64 a2).wf = true) (v3 : Value) (a3 : Str) (h3 : v3 = sv a3) (l3 : a3.length ≤ maxLen) : Sx.Spec Try.prog (ctxOf W) 4 [v0, v1, v2, v3] (heapOf W) (fun v _ => v = .bool true) := by
  subst h0
  subst h1
  subst h2
  subst h3
  have h : c_law03_CodeShort (ctxOf W) a0 a1 a2 a3 (fun r _ => r = true) (heapOf W) := CodeShort_ok (wf_i64 w0).1 (wf_i64 w0).2 (wf_i64 w1).1 (wf_i64 w1).2 (wf_i64 w2).1 (wf_i64 w2).2 (fun _ => rfl)
  unfold c_law03_CodeShort at h
  exact h.mono fun v H2 ⟨r, hv, hr⟩ => by rw [hv, hr]

theorem contract (H : Type) (enc : TypeId × Value → H) (W : World) (base : Nat) (args : Array Value) (ds gs : List (DataW H)) (before : List MemPlace)
    (hval : ∀ (j : Nat) t v, Try.f4.params[j]? = some t → args[j]? = some v → Value.okWide Try.prog W .any base t v)
    (hW : DataW.Whole enc Try.prog Try.f4.params.toList Rows.codeShortSpec.vars false W args.toList ds gs before) :
    Calls Try.prog 4 args W fun e W' => ∃ v, e = .returned v ∧ Rows.codeShortSpec.post enc Try.prog Try.f4 false true false false W args v W' := by
  have hW' := hW
  obtain ⟨p, q, hA0, hV, rfl, hfz, hnd⟩ := hW
  have hA : DataW.TrodAll enc Try.prog W 0 (fun _ => true) true Try.f4.params.toList args.toList ds p := hA0
  have hAk := hA
  rw [Try.params4] at hA hval
  obtain ⟨v0, vs0, d0, ds0, p0, q0, hargs, rfl, rfl, t0, u0⟩ := trodAll_cons hA
  obtain ⟨v1, vs1, d1, ds1, p1, q1, rfl, rfl, rfl, t1, u1⟩ := trodAll_cons u0
  obtain ⟨v2, vs2, d2, ds2, p2, q2, rfl, rfl, rfl, t2, u2⟩ := trodAll_cons u1
  obtain ⟨v3, vs3, d3, ds3, p3, q3, rfl, rfl, rfl, t3, u3⟩ := trodAll_cons u2
  obtain ⟨rfl, rfl, rfl⟩ := trodAll_nil u3
  obtain rfl : args = #[v0, v1, v2, v3] := by cases args; simp_all
  obtain ⟨rfl, rfl⟩ := trodVars_none hV
  have hlt : ∀ x ∈ (p0 ++ (p1 ++ (p2 ++ (p3 ++ []))) : List MemPlace), x.block < W.heap.size := fun x hx => hW'.lt x (List.mem_append_left _ hx)
  obtain ⟨a0, h0, w0⟩ := arg_int Try.underlying2 (hval 0 2 v0 rfl rfl) t0
  obtain ⟨a1, h1, w1⟩ := arg_int Try.underlying3 (hval 1 3 v1 rfl rfl) t1
  obtain ⟨a2, h2, w2⟩ := arg_int Try.underlying3 (hval 2 3 v2 rfl rfl) t2
  obtain ⟨a3, h3, l3, b3⟩ := arg_str Try.underlying9 (hval 3 9 v3 rfl rfl) t3
  refine (walk W v0 a0 h0 w0 v1 a1 h1 w1 v2 a2 h2 w2 v3 a3 h3 l3 W (st_heapOf W)).mono fun e W' ⟨v, H', he, hst, hv⟩ => ?_
  subst he
  subst hv
  exact ⟨_, rfl, _, _, _, [], _, [], hW', trodAll_mk1 (shut_bool Try.underlying4 _), trod_kept laidOut hst (by kernel_rfl) hAk hlt, rfl, hst.frame _, fun h => by cases h⟩

set_option maxRecDepth 100000 in
theorem lifted (os : Os) (started : os.Started) (H : Type) (enc : TypeId × Value → H) :
    ReturnsInHanded {} Try.checked os 4 .any (Rows.codeShortSpec.pre6 enc Try.prog Try.f4 Rows.codeShortRow.domain false) (Rows.codeShortSpec.post enc Try.prog Try.f4 false true false false) := by
  refine returnsInHanded_of_change (C := Try.checked) own started (by kernel_rfl) Try.func4
    (ChangeSpec.witness6 (enc := enc) (C := Try.checked) false ⟨#[], #[.int .i64 0, .int .i64 0, .int .i64 0, .string ByteArray.empty], []⟩ 8 (by kernel_rfl) (by kernel_rfl) (by kernel_rfl) (by kernel_rfl)) ?_
  intro W base args ds gs before hval hW _ _
  exact contract H enc W base args ds gs before hval hW

theorem proved : Rows.CodeShortSaid :=
  OpenClaim.holds_of_wide 4 Try.f4 rfl rfl rfl rfl rfl rfl rfl ⟨rfl, rfl, rfl, rfl, rfl⟩ rfl rfl rfl rfl rfl (by kernel_rfl) Try.func4 (by kernel_rfl)
    (of_decide_eq_true (by kernel_rfl)) (by unfold Func.isWrapper; first | (rw [if_pos (by decide +kernel)]; kernel_rfl) | (rw [if_neg (by decide +kernel)]; exact ⟨rfl, rfl⟩))
    (fun os started H enc _ => lifted os started H enc)
#print axioms proved
end Go.Proofs.Ytlpjpjbgfffffaa.codeShort
