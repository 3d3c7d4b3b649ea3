/-
  The statement 'CodePlainSaid': for every input the law returns true, and the input reads as it did.
-/
import Derived.Test.YtlpjpjbgfffffaaCodeP7
import Derived.Test.YtlpjpjbgfffffaaRows
import Derived.WalkKit
import Derived.ProofKit
import Derived.OpenShut
import Derived.ShutString
import Derived.Test.YtlpjpjbgfffffaaSxRow
namespace Go.Proofs.Ytlpjpjbgfffffaa.codePlain
open Go.ChangeShapes Go.WideShapes Go.ChangeAt Go.RowKit
open Sx
set_option linter.unusedVariables false

theorem own : ownKnob Try.prog.godebug = none := by kernel_rfl
theorem laidOut : laidOutB Try.prog = true := by kernel_rfl

theorem walk (W : World) (v0 : Value) (a0 : Int) (h0 : v0 = .int .i64 a0) (w0 : (Lit.int .i64 a0).wf = true) (v1 : Value) (a1 : Int) (h1 : v1 = .int .i64 a1) (w1 : (Lit.int .i64 a1).wf = true) (v2 : Value) (a2 : Int) (h2 : v2 = .int .i64 a2) (w2 : (Lit.int .i64 a2).wf = true) (v3 : Value) (a3 : Int) (h3 : v3 = .int .i64 a3) (w3 : (Lit.int .i64 a3).wf = true) (v4 : Value) (a4 : Str) (h4 : v4 = sv a4) (l4 : a4.length ≤ maxLen) (v5 : Value) (a5 : Str) (h5 : v5 = sv a5) (l5 : a5.length ≤ maxLen) (v6 : Value) (s6 : Sl) (a6 : Str) (h6 : v6 = slv s6) (r6 : rdsl (heapOf W) s6 (bytesV a6)) (n6 : s6.len = a6.length) (c6 : s6.len ≤ s6.cap) (m6 : s6.cap ≤ maxLen) (v7 : Value) (s7 : Sl) (a7 : Str) (h7 : v7 = slv s7) (r7 : rdsl (heapOf W) s7 (bytesV a7)) (n7 : s7.len = a7.length) (c7 : s7.len ≤ s7.cap) (m7 : s7.cap ≤ maxLen) : Sx.Spec Try.prog (ctxOf W) 3 [v0, v1, v2, v3, v4, v5, v6, v7] (heapOf W) (fun v _ => v = .bool true) := by
  subst h0
  subst h1
  subst h2
  subst h3
  subst h4
  subst h5
  subst h6
  subst h7
  have h : c_law03_CodePlain (ctxOf W) a0 a1 a2 a3 a4 a5 s6 s7 (fun r _ => r = true) (heapOf W) := CodePlain_ok (wf_i64 w0).1 (wf_i64 w0).2 (wf_i64 w1).1 (wf_i64 w1).2 (wf_i64 w2).1 (wf_i64 w2).2 (wf_i64 w3).1 (wf_i64 w3).2 r6 n6 r7 n7 (fun _ => rfl)
  unfold c_law03_CodePlain at h
  exact h.mono fun v H2 ⟨r, hv, hr⟩ => by rw [hv, hr]

theorem contract (H : Type) (enc : TypeId × Value → H) (W : World) (base : Nat) (args : Array Value) (ds gs : List (DataW H)) (before : List MemPlace)
    (hval : ∀ (j : Nat) t v, Try.f3.params[j]? = some t → args[j]? = some v → Value.okWide Try.prog W .any base t v)
    (hW : DataW.Whole enc Try.prog Try.f3.params.toList Rows.codePlainSpec.vars false W args.toList ds gs before) :
    Calls Try.prog 3 args W fun e W' => ∃ v, e = .returned v ∧ Rows.codePlainSpec.post enc Try.prog Try.f3 false true false false W args v W' := by
  have hW' := hW
  obtain ⟨p, q, hA0, hV, rfl, hfz, hnd⟩ := hW
  have hA : DataW.TrodAll enc Try.prog W 0 (fun _ => true) true Try.f3.params.toList args.toList ds p := hA0
  have hAk := hA
  rw [Try.params3] at hA hval
  obtain ⟨v0, vs0, d0, ds0, p0, q0, hargs, rfl, rfl, t0, u0⟩ := trodAll_cons hA
  obtain ⟨v1, vs1, d1, ds1, p1, q1, rfl, rfl, rfl, t1, u1⟩ := trodAll_cons u0
  obtain ⟨v2, vs2, d2, ds2, p2, q2, rfl, rfl, rfl, t2, u2⟩ := trodAll_cons u1
  obtain ⟨v3, vs3, d3, ds3, p3, q3, rfl, rfl, rfl, t3, u3⟩ := trodAll_cons u2
  obtain ⟨v4, vs4, d4, ds4, p4, q4, rfl, rfl, rfl, t4, u4⟩ := trodAll_cons u3
  obtain ⟨v5, vs5, d5, ds5, p5, q5, rfl, rfl, rfl, t5, u5⟩ := trodAll_cons u4
  obtain ⟨v6, vs6, d6, ds6, p6, q6, rfl, rfl, rfl, t6, u6⟩ := trodAll_cons u5
  obtain ⟨v7, vs7, d7, ds7, p7, q7, rfl, rfl, rfl, t7, u7⟩ := trodAll_cons u6
  obtain ⟨rfl, rfl, rfl⟩ := trodAll_nil u7
  obtain rfl : args = #[v0, v1, v2, v3, v4, v5, v6, v7] := by cases args; simp_all
  obtain ⟨rfl, rfl⟩ := trodVars_none hV
  have hlt : ∀ x ∈ (p0 ++ (p1 ++ (p2 ++ (p3 ++ (p4 ++ (p5 ++ (p6 ++ (p7 ++ []))))))) : List MemPlace), x.block < W.heap.size := fun x hx => hW'.lt x (List.mem_append_left _ hx)
  obtain ⟨a0, h0, w0⟩ := arg_int Try.underlying2 (hval 0 2 v0 rfl rfl) t0
  obtain ⟨a1, h1, w1⟩ := arg_int Try.underlying2 (hval 1 2 v1 rfl rfl) t1
  obtain ⟨a2, h2, w2⟩ := arg_int Try.underlying3 (hval 2 3 v2 rfl rfl) t2
  obtain ⟨a3, h3, w3⟩ := arg_int Try.underlying3 (hval 3 3 v3 rfl rfl) t3
  obtain ⟨a4, h4, l4, b4⟩ := arg_str Try.underlying9 (hval 4 9 v4 rfl rfl) t4
  obtain ⟨a5, h5, l5, b5⟩ := arg_str Try.underlying9 (hval 5 9 v5 rfl rfl) t5
  obtain ⟨s6, css6, _, h6, c6, m6, b6, k6, f6, z6⟩ := arg_slice Try.underlying22 (show Try.prog.cellsOf 5 = 1 by kernel_rfl) (by omega) (hval 6 22 v6 rfl rfl) t6
  obtain ⟨a6, r6, n6⟩ := bytes_of Try.underlying5 k6 f6 z6
  obtain ⟨s7, css7, _, h7, c7, m7, b7, k7, f7, z7⟩ := arg_slice Try.underlying22 (show Try.prog.cellsOf 5 = 1 by kernel_rfl) (by omega) (hval 7 22 v7 rfl rfl) t7
  obtain ⟨a7, r7, n7⟩ := bytes_of Try.underlying5 k7 f7 z7
  refine (walk W v0 a0 h0 w0 v1 a1 h1 w1 v2 a2 h2 w2 v3 a3 h3 w3 v4 a4 h4 l4 v5 a5 h5 l5 v6 s6 a6 h6 r6 n6 c6 m6 v7 s7 a7 h7 r7 n7 c7 m7 W (st_heapOf W)).mono fun e W' ⟨v, H', he, hst, hv⟩ => ?_
  subst he
  subst hv
  exact ⟨_, rfl, _, _, _, [], _, [], hW', trodAll_mk1 (shut_bool Try.underlying4 _), trod_kept laidOut hst (by kernel_rfl) hAk hlt, rfl, hst.frame _, fun h => by cases h⟩

set_option maxRecDepth 100000 in
theorem lifted (os : Os) (started : os.Started) (H : Type) (enc : TypeId × Value → H) :
    ReturnsInHanded {} Try.checked os 3 .any (Rows.codePlainSpec.pre6 enc Try.prog Try.f3 Rows.codePlainRow.domain false) (Rows.codePlainSpec.post enc Try.prog Try.f3 false true false false) := by
  refine returnsInHanded_of_change (C := Try.checked) own started (by kernel_rfl) Try.func3
    (ChangeSpec.witness6 (enc := enc) (C := Try.checked) false ⟨#[], #[.int .i64 0, .int .i64 0, .int .i64 0, .int .i64 0, .string ByteArray.empty, .string ByteArray.empty, .slice none 0 0, .slice none 0 0], []⟩ 8 (by kernel_rfl) (by kernel_rfl) (by kernel_rfl) (by kernel_rfl)) ?_
  intro W base args ds gs before hval hW _ _
  exact contract H enc W base args ds gs before hval hW

theorem proved : Rows.CodePlainSaid :=
  OpenClaim.holds_of_wide 3 Try.f3 rfl rfl rfl rfl rfl rfl rfl ⟨rfl, rfl, rfl, rfl, rfl⟩ rfl rfl rfl rfl rfl (by kernel_rfl) Try.func3 (by kernel_rfl)
    (of_decide_eq_true (by kernel_rfl)) (by unfold Func.isWrapper; first | (rw [if_pos (by decide +kernel)]; kernel_rfl) | (rw [if_neg (by decide +kernel)]; exact ⟨rfl, rfl⟩))
    (fun os started H enc _ => lifted os started H enc)
#print axioms proved
end Go.Proofs.Ytlpjpjbgfffffaa.codePlain
