/-
  The statement 'FrameChunksUptoSaid': for every input of bulk at most 1048576 the law returns true, and the input reads as it did.
-/
import Derived.Test.YtkmedfjmpcfgaaaFrameP9
import Derived.Test.YtkmedfjmpcfgaaaRows
import Derived.WalkKit
import Derived.ProofKit
import Derived.OpenShut
import Derived.ShutString
import Derived.JoinedCond
namespace Go.Proofs.Ytkmedfjmpcfgaaa.frameChunks
open Go.ChangeShapes Go.WideShapes Go.ChangeAt Go.RowKit
open Sx
set_option linter.unusedVariables false

theorem own : ownKnob Try.prog.godebug = none := by kernel_rfl
theorem laidOut : laidOutB Try.prog = true := by kernel_rfl

theorem walk (W : World) (v0 : Value) (s0 : Sl) (a0 : Str) (h0 : v0 = slv s0) (r0 : rdsl (heapOf W) s0 (bytesV a0)) (n0 : s0.len = a0.length) (c0 : s0.len ≤ s0.cap) (m0 : s0.cap ≤ maxLen) (b0 : s0.len ≤ 1048576) (v1 : Value) (s1 : Sl) (a1 : Str) (h1 : v1 = slv s1) (r1 : rdsl (heapOf W) s1 (bytesV a1)) (n1 : s1.len = a1.length) (c1 : s1.len ≤ s1.cap) (m1 : s1.cap ≤ maxLen) (b1 : s1.len ≤ 1048576) : Sx.Spec Try.prog (ctxOf W) 6 [v0, v1] (heapOf W) (fun v _ => v = .bool true) := by
  subst h0
  subst h1
  have h : c_law30_FrameChunks (ctxOf W) s0 s1 (fun r _ => r = true) (heapOf W) := FrameChunks_ok r0 n0 c0 m0 r1 n1 b1 (fun _ _ => rfl)
  unfold c_law30_FrameChunks at h
  exact h.mono fun v H2 ⟨r, hv, hr⟩ => by rw [hv, hr]

theorem contract (H : Type) (enc : TypeId × Value → H) (W : World) (base : Nat) (args : Array Value) (ds gs : List (DataW H)) (before : List MemPlace)
    (hval : ∀ (j : Nat) t v, Try.f6.params[j]? = some t → args[j]? = some v → Value.okWide Try.prog W .any base t v)
    (hW : DataW.Whole enc Try.prog Try.f6.params.toList Rows.frameChunksSpec.vars false W args.toList ds gs before) (hk : Rows.uptoSmall H (ds ++ gs) = true) :
    Calls Try.prog 6 args W fun e W' => ∃ v, e = .returned v ∧ Rows.frameChunksSpec.post enc Try.prog Try.f6 false true false false W args v W' := by
  have hW' := hW
  obtain ⟨p, q, hA0, hV, rfl, hfz, hnd⟩ := hW
  have hA : DataW.TrodAll enc Try.prog W 0 (fun _ => true) true Try.f6.params.toList args.toList ds p := hA0
  have hAk := hA
  rw [Try.params6] at hA hval
  obtain ⟨v0, vs0, d0, ds0, p0, q0, hargs, rfl, rfl, t0, u0⟩ := trodAll_cons hA
  obtain ⟨v1, vs1, d1, ds1, p1, q1, rfl, rfl, rfl, t1, u1⟩ := trodAll_cons u0
  obtain ⟨rfl, rfl, rfl⟩ := trodAll_nil u1
  obtain rfl : args = #[v0, v1] := by cases args; simp_all
  obtain ⟨rfl, rfl⟩ := trodVars_none hV
  have hlt : ∀ x ∈ (p0 ++ (p1 ++ []) : List MemPlace), x.block < W.heap.size := fun x hx => hW'.lt x (List.mem_append_left _ hx)
  obtain ⟨s0, css0, _, h0, c0, m0, b0, k0, f0, z0⟩ := arg_slice Try.underlying30 (show Try.prog.cellsOf 5 = 1 by kernel_rfl) (by omega) (hval 0 30 v0 rfl rfl) t0
  obtain ⟨a0, r0, n0⟩ := bytes_of Try.underlying5 k0 f0 z0
  have q0 := small_le hk (List.mem_append_left _ (List.mem_cons_self ..))
  have b0 := Nat.le_trans b0 q0
  obtain ⟨s1, css1, _, h1, c1, m1, b1, k1, f1, z1⟩ := arg_slice Try.underlying30 (show Try.prog.cellsOf 5 = 1 by kernel_rfl) (by omega) (hval 1 30 v1 rfl rfl) t1
  obtain ⟨a1, r1, n1⟩ := bytes_of Try.underlying5 k1 f1 z1
  have q1 := small_le hk (List.mem_append_left _ (List.mem_cons_of_mem _ (List.mem_cons_self ..)))
  have b1 := Nat.le_trans b1 q1
  refine (walk W v0 s0 a0 h0 r0 n0 c0 m0 b0 v1 s1 a1 h1 r1 n1 c1 m1 b1 W (st_heapOf W)).mono fun e W' ⟨v, H', he, hst, hv⟩ => ?_
  subst he
  subst hv
  exact ⟨_, rfl, _, _, _, [], _, [], hW', trodAll_mk1 (shut_bool Try.underlying4 _), trod_kept laidOut hst (by kernel_rfl) hAk hlt, rfl, hst.frame _, fun h => by cases h⟩

set_option maxRecDepth 100000 in
theorem lifted (os : Os) (started : os.Started) (H : Type) (enc : TypeId × Value → H) (F : Stop.Interp) :
    ReturnsInHanded {} Try.checked os 6 .any ((Rows.OpenSpec.upto Rows.frameChunksSpec).pre6 enc Try.prog Try.f6 Rows.frameChunksUptoRow.domain false) (((Rows.OpenSpec.upto Rows.frameChunksSpec).at F).post enc Try.prog Try.f6 false true false false) := by
  refine returnsInHanded_of_cond (C := Try.checked) (s := Rows.OpenSpec.upto Rows.frameChunksSpec) (k := Rows.uptoSmall) rfl own started (by kernel_rfl) Try.func6
    (OpenSpec.witness (enc := enc) (C := Try.checked) (s := Rows.OpenSpec.upto Rows.frameChunksSpec) (k := Rows.uptoSmall) rfl false ⟨#[], #[.slice none 0 0, .slice none 0 0], []⟩ 8 (by kernel_rfl) (by kernel_rfl) (by kernel_rfl)
      (x := ([.nil, .nil], [], [])) (by kernel_rfl) rfl (by kernel_rfl)) ?_
  intro W base args ds gs before hval hW _ hk _
  exact contract H enc W base args ds gs before hval hW hk

theorem proved : Rows.FrameChunksUptoSaid :=
  OpenClaim.holds_of_cond 6 Try.f6 rfl rfl rfl rfl rfl rfl rfl ⟨rfl, rfl, rfl, rfl, rfl⟩ rfl rfl rfl rfl rfl (by kernel_rfl) Try.func6 (by kernel_rfl)
    (of_decide_eq_true (by kernel_rfl)) (by unfold Func.isWrapper; first | (rw [if_pos (by decide +kernel)]; kernel_rfl) | (rw [if_neg (by decide +kernel)]; exact ⟨rfl, rfl⟩))
    (fun os started H enc _ F => lifted os started H enc F)
#print axioms proved
end Go.Proofs.Ytkmedfjmpcfgaaa.frameChunks
